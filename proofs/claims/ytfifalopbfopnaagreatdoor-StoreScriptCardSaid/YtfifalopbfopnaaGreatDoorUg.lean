/- Walks: the document's store (custodyref11): New, Open, Close, Oldest, Prune, Versions. -/
import Derived.Test.YtfifalopbfopnaaGreatDoorUf
set_option linter.unusedVariables false
set_option linter.unusedSimpArgs false
namespace Go.Proofs.YtfifalopbfopnaaGreatDoor
open Go.RowKit

theorem refCounts11_any (n : Int) (w : World) :
    Calls Tryz.prog 29 #[.int .i64 n] w fun e w' => e = .returned (.int .i64 (countedN n : Int)) ∧ New w w' := by
  go_enter Tryz.func29, Tryz.ntmps29
  go_wp2
  all_goals
    go_ret
    exact ⟨ret_int (by unfold countedN; omega), Mod.refl _ _⟩
/-- What New answers. -/
def RNewPost (w : World) (n : Int) (e : Ending) (w' : World) : Prop := ∃ R : RLay, e = .returned (.pointer (some ⟨R.s, 0, none⟩)) ∧ RefAt w' R 0 (countedN n) stNew ∧ New w w' ∧ ∀ b, RFoot R b → w.heap.size ≤ b
theorem refNew_any (n : Int) (w : World) : Calls Tryz.prog 8 #[.int .i64 n] w (RNewPost w n) := by
  have HC := Lib.hid (fun W => refCounts11_any n W)
  have HP := Lib.hid (show ∀ w1, New w w1 → RNewPost w n (.returned (.pointer (some ⟨w1.heap.size, 0, none⟩))) (w1.alloc (.cells #[.int .i64 (countedN n : Int), .slice none 0 0, .slice none 0 0] 48)) from fun w1 hw =>
    ⟨⟨w1.heap.size, .slice none 0 0, .slice none 0 0, []⟩, rfl, ⟨Blk.new w1 48 _, own_nil _ _ _ _, rfl, fun j p x hp => by simp at hp, own_nil _ _ _ _, RowsOk.nil, fun x hx => by simp [stNew] at hx, Nat.le_refl _, Nat.le_refl _, by decide, fun x hx => by simp [stNew] at hx⟩, hw.alloc _, fun b hb => by
      rcases hb with rfl | hb | hb | ⟨j, p, hp, _⟩
      · exact hw.size
      · simp [Value.ownBlock] at hb
      · simp [Value.ownBlock] at hb
      · simp at hp⟩)
  generalize countedN n = m at *
  go_enter Tryz.func8, Tryz.ntmps8
  go_wp2_with (go_at_call 29; refine (HC.out _).mono ?_; rintro e w1 ⟨rfl, hw1⟩)
  go_ret
  exact HP.out w1 hw1

/-- The readers have changed: their slice stands at the same place of the store, or in new memory. -/
theorem RefAt.upd_readers {w w' : World} {R : RLay} {N N' m : Nat} {st : StS} {rs : List (Int × Bool)} {dv' : Value} (h : RefAt w R N m st) (hm : Mod (fun b => b = R.s ∨ R.dv.ownBlock = some b) w w')
    (hb : Blk w' R.s 48 [.int .i64 (m : Int), R.rv, dv']) (hr : w'.ownsRow 0 114 2 dv' rs.length (cellsL encRd rs)) (hdv : dv'.ownBlock = R.dv.ownBlock ∨ ∃ b, dv'.ownBlock = some b ∧ w.heap.size ≤ b) (hN : N ≤ N') (hl : rs.length ≤ N') (hN' : N' ≤ 1048576) :
    RStep w R N' m { st with readers := rs } w' := by
  have key : ∀ {t : TypeId} {sz n : Nat} {u : Value} {xs : List Value}, w.ownsRow 0 t sz u n xs → t ≠ 114 → t ≠ 48 → w'.ownsRow 0 t sz u n xs := fun {t sz n u xs} hu h1 h2 =>
    own_mod' hu hm (fun b hb e => by
      rcases e with e | e
      · exact own_ne_blk hu h.blk (Ne.symm h2) (by rw [← e]; exact hb)
      · exact own_types h.rds hu (Ne.symm h1) e hb)
  refine ⟨{ R with dv := dv' }, rfl, ⟨hb, key h.rows (by decide) (by decide), h.keys, fun j p x hp hx => key (h.vers j p x hp hx) (by decide) (by decide), hr, h.ok, fun x hx => Nat.le_trans (h.versN x hx) hN, Nat.le_trans h.rowsN hN, hl, hN', h.top⟩, Mod.mono hm (fun b _ e => by
    rcases e with e | e
    · exact .inl e
    · exact .inr (.inr (.inl e))), ?_⟩
  rintro b (hb | hb | hb | ⟨i, p, hp, hb⟩)
  · exact .inl (.inl hb)
  · exact .inl (.inr (.inl hb))
  · have hb' : dv'.ownBlock = some b := hb
    rcases hdv with e | ⟨g, hg1, hg2⟩
    · exact .inl (.inr (.inr (.inl (by rw [← e]; exact hb'))))
    · rw [hg1] at hb'; injection hb' with hb'; subst hb'; exact .inr hg2
  · exact .inl (.inr (.inr (.inr ⟨i, p, hp, hb⟩)))

def ROpenPost (w : World) (R : RLay) (N m : Nat) (st : StS) (n : Int) (e : Ending) (w' : World) : Prop := e = .returned (.int .i64 ((st.readers.length : Int) + 1)) ∧ RStep w R (N + 1) m (stOpen st n) w'
set_option maxRecDepth 100000 in
set_option maxHeartbeats 1000000 in
theorem refOpen_any (R : RLay) (N m : Nat) (st : StS) (n : Int) (w : World) (h : RefAt w R N m st) (hN : N + 1 ≤ 1048576) :
    Calls Tryz.prog 39 #[.pointer (some ⟨R.s, 0, none⟩), .int .i64 n] w (ROpenPost w R N m st n) := by
  have hle := h.readN
  have c2 := h.blk.cell 2
  have HB := Lib.hid h.blk
  have HR := Lib.hid h.rds
  have HNE := Lib.hid (own_ne_blk h.rds h.blk (by decide))
  have HP := Lib.hid (show ∀ W w3 dv', New w W → Mod (fun b => R.dv.ownBlock = some b) W w3 → w3.ownsRow 0 114 2 dv' (st.readers.length + 1) (cellsL encRd st.readers ++ [.int .i64 n, .bool false]) → (dv'.ownBlock = R.dv.ownBlock ∨ dv'.ownBlock = some W.heap.size) →
      ROpenPost w R N m st n (.returned (.int .i64 ((st.readers.length : Int) + 1))) (w3.setCell ⟨R.s, 2, none⟩ dv') from fun W w3 dv' hW hg hrow hdv => by
    refine ⟨rfl, RStep.of_new hW ((h.new_ hW).upd_readers (rs := st.readers ++ [(n, false)]) (dv' := dv') ?_ ?_ ?_ ?_ (by omega) (by simp; omega) hN)⟩
    · exact Mod.trans (Mod.mono hg (fun b _ e => .inr e)) (mod_set w3 R.s 2 dv') (fun b _ e => .inl e)
    · exact ((h.blk.new_ hW).kept hg (own_ne_blk h.rds h.blk (by decide))).set_ 2 dv'
    · rw [List.length_append, cellsL_append, cellsL_one]
      exact own_mod' hrow (mod_set w3 R.s 2 dv') (fun b hb e => own_ne_blk hrow ((h.blk.new_ hW).kept hg (own_ne_blk h.rds h.blk (by decide))) (by decide) (by have e' : b = R.s := e; rw [← e']; exact hb))
    · rcases hdv with e | e
      · exact .inl e
      · exact .inr ⟨_, e, Nat.le_refl _⟩)
  obtain ⟨rs, rv, dv, ks⟩ := R
  dsimp only at HB HR HNE HP c2
  obtain ⟨A, cap, rfl⟩ := own_shape HR.out
  simp only [List.getElem?_cons_zero, List.getElem?_cons_succ] at c2
  have hlt := HB.out.lt
  generalize st.readers.length = q at *
  have hq : q ≤ 1048576 := by omega
  clear h
  go_enter Tryz.func39, Tryz.ntmps39
  go_wp2_with (at_builtin; go_must (refine wpList_app Tryz.sltRd rfl (.tmp 9) (.tmp 12) rfl 0 _ q _ rfl (HR.out.alloc _) ⟨w.heap.size, 0, none⟩ 1 1 [.int .i64 n, .bool false] rfl rfl (cells_new _ _ _) ?c1 ?c2 ?c3 ?_))
  case c1 => simp [Value.oneCell']
  case c2 => omega
  case c3 => exact Nat.zero_le _
  intro v3 w3 hown3 hg3 hat3
  obtain ⟨A3, c3, rfl⟩ := own_shape hown3
  have hm3 : Mod (fun b => (Value.slice A q cap).ownBlock = some b) (w.alloc (.cells #[.int .i64 n, .bool false] 114)) w3 := Mod.of_grown (S := fun b => (Value.slice A q cap).ownBlock = some b) hg3 (fun _ h => h)
  have hb3 := (HB.out.alloc (.cells #[.int .i64 n, .bool false] 114)).kept hm3 HNE.out
  have f3 := hb3.frozen 2
  have q3 := hb3.cell 2
  simp only [List.getElem?_cons_zero, List.getElem?_cons_succ] at q3
  have HO3 := Lib.hid (HP.out (w.alloc (.cells #[.int .i64 n, .bool false] 114)) w3 _ ((Mod.refl _ _).alloc _) hm3 hown3 (by
    rcases hat3 with e | e
    · exact .inl e
    · exact .inr (by rw [e]; simp)))
  clear hown3 hg3 hat3 hm3 hb3
  go_wp2
  go_ret
  exact HO3.out

def RClosePost (w : World) (R : RLay) (N m : Nat) (st : StS) (r : Int) (e : Ending) (w' : World) : Prop := e = .returned (.bool (closes st r)) ∧ RStep w R N m (stClose st r) w'
set_option maxRecDepth 100000 in
set_option maxHeartbeats 1000000 in
theorem refClose_any (R : RLay) (N m : Nat) (st : StS) (r : Int) (w : World) (h : RefAt w R N m st) :
    Calls Tryz.prog 40 #[.pointer (some ⟨R.s, 0, none⟩), .int .i64 r] w (RClosePost w R N m st r) := by
  have hle := h.readN
  have hbig := h.bigN
  have c2 := h.blk.cell 2
  have HNO := Lib.hid (show closes st r = false → ∀ W, New w W → RClosePost w R N m st r (.returned (.bool false)) W from fun hc W hW => by
    refine ⟨by rw [hc], ?_⟩
    unfold stClose
    rw [if_neg (by rw [hc]; simp)]
    exact RStep.same h hW)
  have hrd := h.rds
  have HB := Lib.hid h.blk
  by_cases h1 : r < 1
  · have HX := Lib.hid (HNO.out (show closes st r = false from by unfold closes; simp; omega))
    clear h
    simp only [List.getElem?_cons_zero, List.getElem?_cons_succ] at c2
    obtain ⟨A, cap, hdv⟩ := own_shape hrd
    rw [hdv] at c2
    clear hdv hrd
    go_enter Tryz.func40, Tryz.ntmps40
    go_wp2
    go_ret
    exact HX.out _ (Mod.refl _ _)
  · obtain ⟨i, rfl⟩ : ∃ i : Nat, r = (i : Int) + 1 := ⟨(r - 1).toNat, by omega⟩
    have hi1 : ((i : Int) + 1 - 1).toNat = i := by omega
    by_cases h2 : i < st.readers.length
    · have hx : st.readers[i]? = some (st.readers[i]) := List.getElem?_eq_getElem _
      generalize st.readers[i] = y at hx
      obtain ⟨yn, ye⟩ := y
      have HYES := Lib.hid (show ye = false → ∀ gb n cap, R.dv = .slice (some ⟨gb, 0, none⟩) n cap → RClosePost w R N m st ((i : Int) + 1) (.returned (.bool true)) (w.setCell ⟨gb, i * 2 + 1, none⟩ (.bool true)) from fun he gb n cap hdv => by
        have hc : closes st ((i : Int) + 1) = true := by unfold closes; rw [hi1, hx]; simp [he]; omega
        refine ⟨by rw [hc], ?_⟩
        unfold stClose
        rw [if_pos hc, hi1]
        have hown : R.dv.ownBlock = some gb := by rw [hdv]; rfl
        have hmod : st.readers.modify i (fun x => (x.1, true)) = st.readers.set i (yn, true) := by
          refine List.ext_getElem? fun j => ?_
          rw [List.getElem?_modify, List.getElem?_set]
          by_cases e : i = j
          · subst e
            have hy : st.readers[i] = (yn, ye) := by rw [List.getElem?_eq_getElem h2] at hx; exact Option.some.inj hx
            simp [h2, hy]
          · simp [e]
        rw [hmod]
        have hst := (show w.ownsRow 0 114 2 (.slice (some ⟨gb, 0, none⟩) n cap) st.readers.length (cellsL encRd st.readers) from by rw [← hdv]; exact h.rds)
        have hn : n = st.readers.length := by
          rcases hst.2 with ⟨h1, _⟩ | ⟨g', c', cur, h1, _⟩
          · cases h1
          · injection h1
        subst hn
        have hst2 := (hst.stored (i * 2 + 1) (.bool true)).1
        rw [cellsL_set encRd_len st.readers i 1 (yn, ye) (yn, true) hx (by omega) (.bool true) rfl] at hst2
        refine h.upd_readers (rs := st.readers.set i (yn, true)) (dv' := R.dv) (Mod.mono (mod_set w gb (i * 2 + 1) (.bool true)) (fun b _ e => .inr (by have e' : b = gb := e; rw [e']; exact hown))) ?_ ?_ (.inl rfl) (Nat.le_refl _) (by simpa using h.readN) hbig
        · exact h.blk.kept (mod_set w gb (i * 2 + 1) (.bool true)) (fun e => own_ne_blk h.rds h.blk (by decide) (by have e' : R.s = gb := e; rw [e']; exact hown))
        · rw [List.length_set, hdv]; exact hst2)
      obtain ⟨gb, cap, hdv, hg1, hg2⟩ := hrd.form (by omega)
      have hHY := fun he => HYES.out he gb _ cap hdv
      have hrd' := hrd
      rw [hdv] at hrd'
      simp only [List.getElem?_cons_zero, List.getElem?_cons_succ] at c2
      rw [hdv] at c2
      have d0 := own_at encRd_len hrd' hx 0 _ rfl
      have d1 := own_at encRd_len hrd' hx 1 _ rfl
      simp only [Nat.add_zero] at d0
      have hfz : w.frozen? ⟨gb, i * 2 + 1, none⟩ = false := by
        rcases hrd'.2 with ⟨h1, _⟩ | ⟨g', cap', cur, h1, _, hh, _⟩
        · cases h1
        · injection h1 with h1
          injection h1 with h1
          injection h1 with h1
          subst h1
          simp [World.frozen?, hh]
      have hcl := (show closes st ((i : Int) + 1) = !ye from by unfold closes; rw [hi1, hx]; simp; omega)
      obtain ⟨q, hq⟩ : ∃ q, st.readers.length = q := ⟨_, rfl⟩
      rw [hq] at c2 h2 hle
      cases ye with
      | true =>
        have HX := Lib.hid (HNO.out hcl)
        clear h hrd hdv hHY hrd' hx hcl hq HYES hfz
        go_enter Tryz.func40, Tryz.ntmps40
        go_wp2
        go_ret
        exact HX.out _ (Mod.refl _ _)
      | false =>
        have HX := Lib.hid (hHY rfl)
        clear h hrd hdv hHY hrd' hx hcl hq HYES
        go_enter Tryz.func40, Tryz.ntmps40
        go_wp2
        go_ret
        exact HX.out
    · have HX := Lib.hid (HNO.out (show closes st ((i : Int) + 1) = false from by unfold closes; rw [hi1, List.getElem?_eq_none (by omega)]; simp))
      simp only [List.getElem?_cons_zero, List.getElem?_cons_succ] at c2
      obtain ⟨A, cap, hdv⟩ := own_shape hrd
      rw [hdv] at c2
      obtain ⟨q, hq⟩ : ∃ q, st.readers.length = q := ⟨_, rfl⟩
      rw [hq] at c2 h2
      clear hdv hrd h hq
      go_enter Tryz.func40, Tryz.ntmps40
      go_wp2
      go_ret
      exact HX.out _ (Mod.refl _ _)
end Go.Proofs.YtfifalopbfopnaaGreatDoor
