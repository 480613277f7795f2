/- Walks: the document's store (custodyref11): set, Put, At, Last, Prune. -/
import Derived.Test.YtfifalopbfopnaaGreatDoorUd
set_option linter.unusedVariables false
set_option linter.unusedSimpArgs false
namespace Go.Proofs.YtfifalopbfopnaaGreatDoor
open Go.RowKit

def RSetPost (w : World) (R : RLay) (N m : Nat) (st : StS) (v : Value) (e : Ending) (w' : World) : Prop := e = .returned (.tuple #[]) ∧ RSet w R N m st v w'
theorem RSet.of_new {w w' w'' : World} {R : RLay} {N m : Nat} {st : StS} {v : Value} (hm : New w w') (h : RSet w' R N m st v w'') : RSet w R N m st v w'' := by
  obtain ⟨R', h1, h3, h4, h5⟩ := h
  refine ⟨R', h1, h3, Mod.trans (Mod.mono hm (fun _ _ h => h.elim)) h4 (fun _ _ h => h), fun b hb => ?_⟩
  rcases h5 b hb with h | h | h
  · exact .inl h
  · exact .inr (.inl h)
  · exact .inr (.inr (Nat.le_trans hm.size h))
set_option maxRecDepth 100000 in
set_option maxHeartbeats 2000000 in
theorem refSet_any (R : RLay) (N m : Nat) (st : StS) (k : Key2) (A : Option Addr) (c : Nat) (l : VersS) (w : World) (h : RefAt w R N m st)
    (hv : w.ownsRow 0 153 2 (.slice A l.length c) l.length (cellsL encVer l)) (hr : Rising l) (hn0 : l ≠ []) (hl : l.length ≤ N + 1) (htop : ∀ p ∈ l, Top p.1) (hN' : N + 1 ≤ 1048576) :
    Calls Tryz.prog 74 #[.pointer (some ⟨R.s, 0, none⟩), .agg #[.int .i64 k.1, .int .i64 k.2], .slice A l.length c] w (RSetPost w R (N + 1) m { st with rows := setRow st.rows k l } (.slice A l.length c)) := by
  have HI := Lib.hid (fun W (hW : New w W) => refIdx_any R N m st k W (h.new_ hW))
  have n1 := Blk.new w 33 [.int .i64 k.1, .int .i64 k.2]
  have HB := Lib.hid n1
  have hle := h.rowsN
  have hlen := h.len
  have c1 := h.blk.cell 1
  have HB1 := Lib.hid h.blk
  have hsl := h.blk.lt
  have HR := Lib.hid h.rows
  cases hj : rowIdx st.rows k with
  | none =>
    rw [hj] at HI
    have HP := Lib.hid (show ∀ W w3 rv', New w W → Mod (fun b => R.rv.ownBlock = some b) W w3 → w3.ownsRow 0 77 3 rv' (R.ks.length + 1) (cellsL encRow R.ks ++ [.int .i64 k.1, .int .i64 k.2, .slice A l.length c]) → (rv'.ownBlock = R.rv.ownBlock ∨ rv'.ownBlock = some W.heap.size) →
        RSetPost w R (N + 1) m { st with rows := setRow st.rows k l } (.slice A l.length c) (.returned (.tuple #[])) (w3.setCell ⟨R.s, 1, none⟩ rv') from fun W w3 rv' hW hg hrow hrb =>
      ⟨rfl, RSet.of_new hW ((h.new_ hW).add hj hg hrow (by
        rcases hrb with e | e
        · exact .inl e
        · exact .inr ⟨_, e, Nat.le_refl _⟩) (own_new hv hW) hr hn0 hl htop hN')⟩)
    obtain ⟨rs, rv, dv, ks⟩ := R
    dsimp only at HR HB1 HP hlen c1 hsl
    obtain ⟨k1, k2⟩ := k
    obtain ⟨RA, rc, hrv⟩ := own_shape HR.out
    subst hrv
    simp only [List.getElem?_cons_zero, List.getElem?_cons_succ] at c1 hlen
    have HC1 := Lib.hid c1
    generalize hq : ks.length = n at *
    have hn1 : n ≤ 1048576 := by omega
    have HNE := Lib.hid (own_ne_blk HR.out HB1.out (by decide))
    clear hj h hv hr hn0 htop n1 c1 hq hlen
    dsimp only [idxV] at HI
    go_enter Tryz.func74, Tryz.ntmps74
    go_wp2_with (go_at_call 99; refine (HI.out _ ((Mod.refl _ _).alloc _)).mono ?_; rintro e w1 ⟨rfl, hw1⟩; have hw01 : New w w1 := New.trans ((Mod.refl _ _).alloc _) hw1; have d1 := hw01.cell HC1.out (fun h => h); have hk := HB.out.new_ hw1; have e0 := hk.cell 0; have e1 := hk.cell 1; simp only [List.getElem?_cons_zero, List.getElem?_cons_succ] at e0 e1; clear hk; have g1 := ((Mod.refl (fun _ => False) w1).alloc (.cells #[.int .i64 k1, .int .i64 k2, .slice A l.length c] 77)).cell d1 (fun h => h))
    go_region_law ((
      refine step_app Tryz.sltRow rfl (.tmp 16) (.tmp 20) rfl 0 _ n _ rfl (own_new HR.out ?hm) ⟨w1.heap.size, 0, none⟩ 1 1 [.int .i64 k1, .int .i64 k2, .slice A l.length c] rfl rfl ?hn ?h1 ?hb ?hB ?_
      case hm => exact (hw01.alloc _).drew
      case hn => exact cells_new w1 _ _
      case h1 => simp [Value.oneCell']
      case hb => omega
      case hB => exact Nat.zero_le _
      intro v3 w3 hown3 hg3 hat3
      obtain ⟨A3, c3, rfl⟩ := own_shape hown3
      have hm3 : Mod (fun b => (Value.slice RA n rc).ownBlock = some b) ((w1.alloc (.cells #[.int .i64 k1, .int .i64 k2, .slice A l.length c] 77)).drew) w3 := Mod.of_grown (S := fun b => (Value.slice RA n rc).ownBlock = some b) hg3 (fun _ h => h)
      have hb3 := (HB1.out.new_ (hw01.alloc (.cells #[.int .i64 k1, .int .i64 k2, .slice A l.length c] 77)).drew).kept hm3 HNE.out
      have f3 := hb3.frozen 1
      have q3 := hb3.cell 1
      simp only [List.getElem?_cons_zero, List.getElem?_cons_succ] at q3
      have hs3 := hb3.lt
      have HO3 := Lib.hid (HP.out _ w3 _ (hw01.alloc (.cells #[.int .i64 k1, .int .i64 k2, .slice A l.length c] 77)).drew hm3 hown3 hat3)
      clear hown3 hg3 hat3 hm3 hb3))
    all_goals
      go_wp2
      go_end0
      exact HO3.out
  | some j =>
    rw [hj] at HI
    obtain ⟨v0, hks, _, _⟩ := h.at_key hj
    have hjl := (List.getElem?_eq_some_iff.1 hks).1
    have hbig := h.bigN
    have HP := Lib.hid (show ∀ W gb n cap, New w W → R.rv = .slice (some ⟨gb, 0, none⟩) n cap →
        RSetPost w R (N + 1) m { st with rows := setRow st.rows k l } (.slice A l.length c) (.returned (.tuple #[])) (W.setCell ⟨gb, j * 3 + 2, none⟩ (.slice A l.length c)) from fun W gb n cap hW hrv =>
      ⟨rfl, RSet.of_new hW ((h.new_ hW).upd hj hrv (own_new hv hW) hr hn0 hl htop (by omega) hN')⟩)
    obtain ⟨rs, rv, dv, ks⟩ := R
    dsimp only at HR HB1 HP hlen c1 hsl
    obtain ⟨k1, k2⟩ := k
    obtain ⟨gb, cap, hrv, hg1, hg2⟩ := HR.out.form (by simp only at hjl; omega)
    subst hrv
    simp only [List.getElem?_cons_zero, List.getElem?_cons_succ] at c1 hlen hjl hks
    have HC1 := Lib.hid c1
    have HC2 := Lib.hid (own_at encRow_len HR.out hks 2 v0 rfl)
    have hfz : ∃ cur, w.heap[gb]? = some (.cells cur 77 (0, 0)) := by
      rcases HR.out.2 with ⟨h1, _⟩ | ⟨g', cap', cur, h1, _, hh, _⟩
      · cases h1
      · injection h1 with h1
        injection h1 with h1
        injection h1 with h1
        subst h1
        exact ⟨cur, hh⟩
    obtain ⟨cur, hcur⟩ := hfz
    have HF := Lib.hid (show ∀ W, New w W → W.frozen? ⟨gb, j * 3 + 2, none⟩ = false from fun W hW => by
      have := (hW.block gb hg2 (fun h => h)).trans hcur
      simp [World.frozen?, this])
    generalize hq : ks.length = n at *
    have hn1 : n ≤ 1048576 := by omega
    clear hj h hv hr hn0 htop n1 c1 hq hks hcur hlen
    dsimp only [idxV] at HI
    go_enter Tryz.func74, Tryz.ntmps74
    go_wp2_with (go_at_call 99; refine (HI.out _ ((Mod.refl _ _).alloc _)).mono ?_; rintro e w1 ⟨rfl, hw1⟩; have hw01 : New w w1 := New.trans ((Mod.refl _ _).alloc _) hw1; have d1 := hw01.cell HC1.out (fun h => h); have d2 := hw01.cell HC2.out (fun h => h); have f2 := HF.out w1 hw01)
    go_end0
    exact HP.out _ gb n cap hw01 rfl
end Go.Proofs.YtfifalopbfopnaaGreatDoor
