/- Walks: the document's store (custodyref11): Put, At, Last. -/
import Derived.Test.YtfifalopbfopnaaGreatDoorUe
set_option linter.unusedVariables false
set_option linter.unusedSimpArgs false
namespace Go.Proofs.YtfifalopbfopnaaGreatDoor
open Go.RowKit

theorem RSet.step {w w' w'' : World} {R : RLay} {N m : Nat} {st : StS} {v : Value} (hm : New w w') (h : RSet w' R N m st v w'') (hv : ∀ b, v.ownBlock = some b → w.heap.size ≤ b) : RStep w R N m st w'' := by
  obtain ⟨R', h1, h3, h4, h5⟩ := RSet.of_new hm h
  refine ⟨R', h1, h3, h4, fun b hb => ?_⟩
  rcases h5 b hb with h | h | h
  · exact .inl h
  · exact .inr (hv b h)
  · exact .inr h
theorem rowOf_top {st : StS} (h : ∀ x ∈ st.rows, ∀ p ∈ x.2, Top p.1) (k : Key2) : ∀ p ∈ rowOf st.rows k, Top p.1 := fun p hp => by
  unfold rowOf at hp
  split at hp
  · rename_i i hi
    obtain ⟨l, hl⟩ := rowIdx_at hi
    simp only [hl] at hp
    exact h _ (List.mem_of_getElem? hl) p hp
  · cases hp
/-- What the document's Put leaves. -/
def RSPutPost (w : World) (R : RLay) (N m : Nat) (st : StS) (k : Key2) (n : Int) (x : ByteArray) (e : Ending) (w' : World) : Prop :=
  e = .returned (.int .i64 (if canPut (rowOf st.rows k) n then 0 else 1)) ∧ RStep w R (N + 1) m (stPut st k n x) w'
set_option maxRecDepth 100000 in
set_option maxHeartbeats 2000000 in
theorem refSPut_any (R : RLay) (N m : Nat) (st : StS) (k : Key2) (n : Int) (x : ByteArray) (w : World) (h : RefAt w R N m st) (hn : Top n) (hN' : N + 1 ≤ 1048576) :
    Calls Tryz.prog 36 #[.pointer (some ⟨R.s, 0, none⟩), .agg #[.int .i64 k.1, .int .i64 k.2], .int .i64 n, .string x] w (RSPutPost w R N m st k n x) := by
  have n1 := Blk.new w 33 [.int .i64 k.1, .int .i64 k.2]
  have HB := Lib.hid n1
  have HROW := Lib.hid (fun W (hW : New w W) => refRow_any R N m st k W (h.new_ hW))
  have hri := rowOf_rising h.ok k
  have HRI := Lib.hid hri
  have hle := rowOf_le h.versN k
  have hbig := h.bigN
  have HNO := Lib.hid (show canPut (rowOf st.rows k) n = false → ∀ W, New w W → RSPutPost w R N m st k n x (.returned (.int .i64 1)) W from fun hc W hW => by
    refine ⟨by rw [hc]; rfl, ?_⟩
    unfold stPut
    rw [if_neg (by rw [hc]; simp)]
    exact (RStep.same h hW).mono (by omega) hN')
  have HSET := Lib.hid (show canPut (rowOf st.rows k) n = true → ∀ W A c, New w W → W.ownsRow w.heap.size 153 2 (.slice A (rowOf st.rows k ++ [(n, x)]).length c) (rowOf st.rows k ++ [(n, x)]).length (cellsL encVer (rowOf st.rows k ++ [(n, x)])) →
      Calls Tryz.prog 74 #[.pointer (some ⟨R.s, 0, none⟩), .agg #[.int .i64 k.1, .int .i64 k.2], .slice A (rowOf st.rows k ++ [(n, x)]).length c] W fun e w' => e = .returned (.tuple #[]) ∧ RSPutPost w R N m st k n x (.returned (.int .i64 0)) w' from fun hc W A c hW hown => by
    have hr1 : Rising (rowOf st.rows k ++ [(n, x)]) := by rw [← putV_yes hc]; exact (rowOf_rising h.ok k).put n x
    refine (refSet_any R N m st k A c _ W (h.new_ hW) (own_mono hown (Nat.zero_le _)) hr1 (by simp) (by simp; omega) (fun p hp => ?_) hN').mono fun e w' ⟨he, hset⟩ => ⟨he, by rw [hc]; rfl, ?_⟩
    · rcases List.mem_append.1 hp with hp | hp
      · exact rowOf_top h.top k p hp
      · simp at hp; subst hp; exact hn
    · unfold stPut
      rw [if_pos hc]
      exact RSet.step hW hset (fun b hb => (hown.lt b hb).1))
  obtain ⟨k1, k2⟩ := k
  generalize hrow : rowOf st.rows (k1, k2) = row at *
  have HRL := Lib.hid (show row.length = row.length from rfl)
  obtain ⟨q, hq⟩ : ∃ q, row.length = q := ⟨_, rfl⟩
  have HQ := Lib.hid hq
  have HROW2 := Lib.hid (show ∀ W, New w W → Calls Tryz.prog 73 #[.pointer (some ⟨R.s, 0, none⟩), .agg #[.int .i64 k1, .int .i64 k2]] W fun e w' => ∃ A c, e = .returned (.slice A q c) ∧ Sl w' A q 2 (cellsL encVer row) ∧ New W w' from fun W hW => (HROW.out W hW).mono fun e w' ⟨A, c, he, hs, hn⟩ => by
    rw [hrow, hq] at he hs
    exact ⟨A, c, he, hs, hn⟩)
  rw [hq] at hle
  clear h hri n1 hrow hq HROW HRL
  go_enter Tryz.func36, Tryz.ntmps36
  go_wp2_with fail
  refine (HROW2.out _ ((Mod.refl _ _).alloc _)).mono ?_
  rintro e w1 ⟨A, c, rfl, hsl, hw1⟩
  have hw01 : New w w1 := New.trans ((Mod.refl _ _).alloc _) hw1
  have hk := HB.out.new_ hw1
  have e0 := hk.cell 0
  have e1 := hk.cell 1
  simp only [List.getElem?_cons_zero, List.getElem?_cons_succ] at e0 e1
  go_wp2_with fail
  refine (refPut_any A q c row n x _ hsl HRI.out (by omega)).mono ?_
  rintro e w2 ⟨hw2, ⟨hc, rfl⟩ | ⟨hc, v', rfl, hown⟩⟩
  · have HX := Lib.hid (HNO.out hc _ (New.trans hw01 hw2))
    clear hk hc
    go_wp2
    go_ret
    exact HX.out
  · obtain ⟨A', c', rfl⟩ := own_shape hown
    have HS := Lib.hid (HSET.out hc _ A' c' (New.trans hw01 hw2) (own_mono hown hw01.size))
    have d0 := hw2.cell e0 (fun h => h)
    have d1 := hw2.cell e1 (fun h => h)
    generalize (row ++ [(n, x)]).length = ql at *
    clear hk hc hown
    go_wp2_with (go_at_call 74; refine HS.out.mono ?_; rintro e w3 ⟨rfl, hp3⟩; have HP3 := Lib.hid hp3; clear hp3)
    go_ret
    exact HP3.out

set_option maxRecDepth 100000 in
set_option maxHeartbeats 1000000 in
theorem refSAt_any (R : RLay) (N m : Nat) (st : StS) (k : Key2) (n : Int) (w : World) (h : RefAt w R N m st) :
    Calls Tryz.prog 37 #[.pointer (some ⟨R.s, 0, none⟩), .agg #[.int .i64 k.1, .int .i64 k.2], .int .i64 n] w fun e w' => e = .returned (ansV (atV (rowOf st.rows k) n)) ∧ New w w' := by
  have HROW := Lib.hid (fun W (hW : New w W) => refRow_any R N m st k W (h.new_ hW))
  have HRI := Lib.hid (rowOf_rising h.ok k)
  unfold RowPost at HROW
  obtain ⟨k1, k2⟩ := k
  generalize rowOf st.rows (k1, k2) = row at *
  have HA := Lib.hid (fun W A c (hs : Sl W A row.length 2 (cellsL encVer row)) => refAt_any A row.length c row n W hs HRI.out)
  generalize hans : atV row n = ans at *
  clear h hans
  cases ans with
  | none =>
    dsimp only [ansV] at HA ⊢
    go_enter Tryz.func37, Tryz.ntmps37
    go_wp2_with (first
      | (go_at_call 73; refine (HROW.out _ ((Mod.refl _ _).alloc _)).mono ?_; rintro e w1 ⟨A, c, rfl, hsl, hw1⟩)
      | (go_at_call 75; refine (HA.out _ _ _ hsl).mono ?_; rintro e w2 ⟨rfl, hw2⟩))
    go_ret2
    exact ⟨rfl, New.trans (New.trans ((Mod.refl _ _).alloc _) hw1) hw2⟩
  | some y =>
    dsimp only [ansV] at HA ⊢
    go_enter Tryz.func37, Tryz.ntmps37
    go_wp2_with (first
      | (go_at_call 73; refine (HROW.out _ ((Mod.refl _ _).alloc _)).mono ?_; rintro e w1 ⟨A, c, rfl, hsl, hw1⟩)
      | (go_at_call 75; refine (HA.out _ _ _ hsl).mono ?_; rintro e w2 ⟨rfl, hw2⟩))
    go_ret2
    exact ⟨rfl, New.trans (New.trans ((Mod.refl _ _).alloc _) hw1) hw2⟩
set_option maxRecDepth 100000 in
set_option maxHeartbeats 1000000 in
theorem refSLast_any (R : RLay) (N m : Nat) (st : StS) (k : Key2) (w : World) (h : RefAt w R N m st) :
    Calls Tryz.prog 38 #[.pointer (some ⟨R.s, 0, none⟩), .agg #[.int .i64 k.1, .int .i64 k.2]] w fun e w' => e = .returned (ansL (rowOf st.rows k)) ∧ New w w' := by
  have HROW := Lib.hid (fun W (hW : New w W) => refRow_any R N m st k W (h.new_ hW))
  have HRI := Lib.hid (rowOf_rising h.ok k)
  have HTOP := Lib.hid (rowOf_top h.top k)
  unfold RowPost at HROW
  obtain ⟨k1, k2⟩ := k
  generalize rowOf st.rows (k1, k2) = row at *
  have HA := Lib.hid (fun W A c (hs : Sl W A row.length 2 (cellsL encVer row)) => refLast_any A row.length c row W hs HRI.out HTOP.out)
  have HANS := Lib.hid (show ∃ a b c, ansL row = .tuple #[.string a, .int .i64 b, .bool c] from ⟨_, _, _, rfl⟩)
  generalize ansL row = ans at *
  obtain ⟨x1, x2, x3, rfl⟩ := HANS.out
  clear h HANS
  go_enter Tryz.func38, Tryz.ntmps38
  go_wp2_with (first
    | (go_at_call 73; refine (HROW.out _ ((Mod.refl _ _).alloc _)).mono ?_; rintro e w1 ⟨A, c, rfl, hsl, hw1⟩)
    | (go_at_call 76; refine (HA.out _ _ _ hsl).mono ?_; rintro e w2 ⟨rfl, hw2⟩))
  go_ret3
  exact ⟨rfl, New.trans (New.trans ((Mod.refl _ _).alloc _) hw1) hw2⟩
end Go.Proofs.YtfifalopbfopnaaGreatDoor
