/- Walks: tell: what the document's store answers to a call. (Printed by gen_tell.py.) -/
import Derived.Test.YtfifalopbfopnaaGreatDoorUk
set_option linter.unusedVariables false
set_option linter.unusedSimpArgs false
namespace Go.Proofs.YtfifalopbfopnaaGreatDoor
open Go.RowKit

/-- What tell answers, and leaves. -/
def TellPost (w : World) (R : RLay) (N m : Nat) (st : StS) (c : CallV) (e : Ending) (w' : World) : Prop :=
  e = .returned (saidVal (answer m st c)) ∧ RStep w R (N + 1) m (after st c) w'
/-- The document's store behind a call, and block r, which is none of its own. -/
def RStepR (w : World) (R : RLay) (N m : Nat) (st : StS) (r : Nat) (w' : World) : Prop :=
  ∃ R', R'.s = R.s ∧ RefAt w' R' N m st ∧ Mod (RFoot R) w w' ∧ (∀ b, RFoot R' b → RFoot R b ∨ w.heap.size ≤ b) ∧ ¬ RFoot R' r
theorem RStepR.of {w wo w' : World} {R : RLay} {N m : Nat} {st : StS} {r : Nat} (hn : New w wo) (h : RStep wo R N m st w') (hr : r < wo.heap.size) (hf : ¬ RFoot R r) : RStepR w R N m st r w' := by
  obtain ⟨R', h1, h3, h4, h5⟩ := h
  refine ⟨R', h1, h3, Mod.trans (Mod.mono hn (fun _ _ h => h.elim)) h4 (fun _ _ h => h), fun b hb => ?_, fun hb => ?_⟩
  · rcases h5 b hb with h | h
    · exact .inl h
    · exact .inr (Nat.le_trans hn.size h)
  · rcases h5 r hb with h | h
    · exact hf h
    · omega
theorem RStepR.set_ {w w' : World} {R : RLay} {N m : Nat} {st : StS} {r : Nat} (h : RStepR w R N m st r w') (hr : w.heap.size ≤ r) (i : Nat) (u : Value) : RStepR w R N m st r (w'.setCell ⟨r, i, none⟩ u) := by
  obtain ⟨R', h1, h3, h4, h5, h6⟩ := h
  have hm := mod_set w' r i u
  exact ⟨R', h1, h3.mod hm (fun b hb e => h6 (by have e' : b = r := e; rw [← e']; exact hb)), Mod.trans h4 hm (fun b hb e => by have e' : b = r := e; omega), h5, h6⟩
theorem RStepR.step {w w' : World} {R : RLay} {N m : Nat} {st : StS} {r : Nat} (h : RStepR w R N m st r w') : RStep w R N m st w' := by
  obtain ⟨R', h1, h3, h4, h5, h6⟩ := h
  exact ⟨R', h1, h3, h4, h5⟩
theorem RStep.blk {w w' : World} {R : RLay} {N m : Nat} {st : StS} {g : Nat} {t : TypeId} {cs : List Value} (h : RStep w R N m st w') (hb : Blk w g t cs) (hf : ¬ RFoot R g) : Blk w' g t cs := by
  obtain ⟨R', _, _, hm, _⟩ := h
  exact hb.kept hm hf
theorem RStep.size {w w' : World} {R : RLay} {N m : Nat} {st : StS} (h : RStep w R N m st w') : w.heap.size ≤ w'.heap.size := by
  obtain ⟨R', _, _, hm, _⟩ := h
  exact hm.size

set_option maxRecDepth 100000 in
set_option maxHeartbeats 2000000 in
theorem tell0 (R : RLay) (N m : Nat) (st : StS) (c : CallV) (w : World) (h : RefAt w R N m st) (hc : CallOk c) (hN : N + 1 ≤ 1048576) (hk : c.kind = 0) :
    Calls Tryz.prog 11 #[.pointer (some ⟨R.s, 0, none⟩), .agg (encCall c).toArray] w (TellPost w R N m st c) := by
  obtain ⟨on, kind, ⟨k1, k2⟩, n, v⟩ := c
  obtain rfl : kind = 0 := hk
  show Calls Tryz.prog 11 #[.pointer (some ⟨R.s, 0, none⟩), .agg #[.int .i64 on, .int .i64 0, .int .i64 k1, .int .i64 k2, .int .i64 n, .string v]] w (TellPost w R N m st ⟨on, 0, (k1, k2), n, v⟩)
  have hsz := fun b (hb : RFoot R b) => h.foot_lt hb
  have n1 := Blk.new w 35 [.int .i64 on, .int .i64 0, .int .i64 k1, .int .i64 k2, .int .i64 n, .string v]
  have n2 := Blk.new (w.alloc (.cells #[.int .i64 on, .int .i64 0, .int .i64 k1, .int .i64 k2, .int .i64 n, .string v] 35)) 37 [.string ⟨#[]⟩, .int .i64 0, .bool false]
  simp only [World.size_alloc] at n2
  obtain ⟨wo, hwo⟩ : ∃ wo, (w.alloc (.cells #[.int .i64 on, .int .i64 0, .int .i64 k1, .int .i64 k2, .int .i64 n, .string v] 35)).alloc (.cells #[.string ⟨#[]⟩, .int .i64 0, .bool false] 37) = wo := ⟨_, rfl⟩
  have hnew : New w wo := by rw [← hwo]; exact ((Mod.refl _ w).alloc _).alloc _
  have hst0 := h.new_ hnew
  have HR := Lib.hid (show Blk wo (w.heap.size + 1) 37 [.string ⟨#[]⟩, .int .i64 0, .bool false] from by rw [← hwo]; exact n2)
  have HWO := Lib.hid hwo
  have hrf : ¬ RFoot R (w.heap.size + 1) := fun hb => by have := hsz _ hb; omega
  have HRF := Lib.hid hrf
  have HNEW := Lib.hid hnew
  have hrl : w.heap.size + 1 < wo.heap.size := by rw [← hwo]; simp
  have hwf := hc.2
  have hkw := hc.1
  have HC := Lib.hid (refSPut_any R N m st (k1, k2) n v wo hst0 (CallOk.top hc) hN)
  unfold RSPutPost at HC
  have HP := Lib.hid (show ∀ w', RStep w R (N + 1) m (stPut st (k1, k2) n v) w' → TellPost w R N m st ⟨on, 0, (k1, k2), n, v⟩ (.returned (.agg #[.string ⟨#[]⟩, .int .i64 (if canPut (rowOf st.rows (k1, k2)) n then 0 else 1), .bool true])) w' from fun w' hs => ⟨rfl, hs⟩)
  generalize (if canPut (rowOf st.rows (k1, k2)) n then (0 : Int) else 1) = ans at *
  clear hc h hst0 hkw hwf hnew
  clear hwo n1 n2 hrf
  go_enter Tryz.func11, Tryz.ntmps11
  go_wp2_with fail
  rw [HWO.out]
  refine HC.out.mono ?_
  rintro e w1 ⟨rfl, hst⟩
  have HB := Lib.hid (hst.blk HR.out HRF.out)
  have hs1 := RStepR.of HNEW.out hst hrl HRF.out
  have HST := Lib.hid hst
  clear hst
  have hb := HB.out
  have r0 := hb.cell 0
  have r1 := hb.cell 1
  have r2 := hb.cell 2
  have q0 := hb.frozen 0
  have q1 := hb.frozen 1
  have q2 := hb.frozen 2
  simp only [List.getElem?_cons_zero, List.getElem?_cons_succ] at r0 r1 r2
  have hrl2 : w.heap.size + 1 < w1.heap.size := hb.lt
  have HFIN := Lib.hid (HP.out _ (((hs1.set_ (by omega) 0 (.string ⟨#[]⟩)).set_ (by omega) 1 (.int .i64 ans)).set_ (by omega) 2 (.bool true)).step)
  clear hb
  go_wp2
  refine bodyPost_ret (v := .agg #[.string ⟨#[]⟩, .int .i64 ans, .bool true]) (by simp [results, Tryz.results11, go_sem, *]) rfl ?_
  exact HFIN.out

set_option maxRecDepth 100000 in
set_option maxHeartbeats 2000000 in
theorem tell1 (R : RLay) (N m : Nat) (st : StS) (c : CallV) (w : World) (h : RefAt w R N m st) (hc : CallOk c) (hN : N + 1 ≤ 1048576) (hk : c.kind = 1) :
    Calls Tryz.prog 11 #[.pointer (some ⟨R.s, 0, none⟩), .agg (encCall c).toArray] w (TellPost w R N m st c) := by
  obtain ⟨on, kind, ⟨k1, k2⟩, n, v⟩ := c
  obtain rfl : kind = 1 := hk
  show Calls Tryz.prog 11 #[.pointer (some ⟨R.s, 0, none⟩), .agg #[.int .i64 on, .int .i64 1, .int .i64 k1, .int .i64 k2, .int .i64 n, .string v]] w (TellPost w R N m st ⟨on, 1, (k1, k2), n, v⟩)
  have hsz := fun b (hb : RFoot R b) => h.foot_lt hb
  have n1 := Blk.new w 35 [.int .i64 on, .int .i64 1, .int .i64 k1, .int .i64 k2, .int .i64 n, .string v]
  have n2 := Blk.new (w.alloc (.cells #[.int .i64 on, .int .i64 1, .int .i64 k1, .int .i64 k2, .int .i64 n, .string v] 35)) 37 [.string ⟨#[]⟩, .int .i64 0, .bool false]
  simp only [World.size_alloc] at n2
  obtain ⟨wo, hwo⟩ : ∃ wo, (w.alloc (.cells #[.int .i64 on, .int .i64 1, .int .i64 k1, .int .i64 k2, .int .i64 n, .string v] 35)).alloc (.cells #[.string ⟨#[]⟩, .int .i64 0, .bool false] 37) = wo := ⟨_, rfl⟩
  have hnew : New w wo := by rw [← hwo]; exact ((Mod.refl _ w).alloc _).alloc _
  have hst0 := h.new_ hnew
  have HR := Lib.hid (show Blk wo (w.heap.size + 1) 37 [.string ⟨#[]⟩, .int .i64 0, .bool false] from by rw [← hwo]; exact n2)
  have HWO := Lib.hid hwo
  have hrf : ¬ RFoot R (w.heap.size + 1) := fun hb => by have := hsz _ hb; omega
  have HRF := Lib.hid hrf
  have HNEW := Lib.hid hnew
  have hrl : w.heap.size + 1 < wo.heap.size := by rw [← hwo]; simp
  have hwf := hc.2
  have hkw := hc.1
  have HC := Lib.hid (refSAt_any R N m st (k1, k2) n wo hst0)
  cases hat : atV (rowOf st.rows (k1, k2)) n with
  | none =>
    rw [hat] at HC
    dsimp only [ansV] at HC
    have HP := Lib.hid (show ∀ w', RStep w R (N + 1) m st w' → TellPost w R N m st ⟨on, 1, (k1, k2), n, v⟩ (.returned (.agg #[.string ⟨#[]⟩, .int .i64 0, .bool false])) w' from fun w' hs => ⟨by simp [answer, saidVal, hat, emptyB], hs⟩)
    have HST := Lib.hid hst0
    clear hc h hst0 hkw hwf hnew hat
    clear hwo n1 n2 hrf
    go_enter Tryz.func11, Tryz.ntmps11
    go_wp2_with fail
    rw [HWO.out]
    refine HC.out.mono ?_
    rintro e w1 ⟨rfl, hw1⟩
    have HB := Lib.hid (HR.out.new_ hw1)
    have hs1 := RStepR.of HNEW.out ((RStep.same HST.out hw1).mono (N' := N + 1) (by omega) hN) hrl HRF.out
    have hb := HB.out
    have r0 := hb.cell 0
    have r1 := hb.cell 1
    have r2 := hb.cell 2
    have q0 := hb.frozen 0
    have q1 := hb.frozen 1
    have q2 := hb.frozen 2
    simp only [List.getElem?_cons_zero, List.getElem?_cons_succ] at r0 r1 r2
    have hrl2 : w.heap.size + 1 < w1.heap.size := hb.lt
    have HFIN := Lib.hid (HP.out _ (((hs1.set_ (by omega) 0 (.string ⟨#[]⟩)).set_ (by omega) 1 (.int .i64 0)).set_ (by omega) 2 (.bool false)).step)
    clear hb
    go_wp2
    refine bodyPost_ret (v := .agg #[.string ⟨#[]⟩, .int .i64 0, .bool false]) (by simp [results, Tryz.results11, go_sem, *]) rfl ?_
    exact HFIN.out
  | some y =>
    rw [hat] at HC
    dsimp only [ansV] at HC
    have HP := Lib.hid (show ∀ w', RStep w R (N + 1) m st w' → TellPost w R N m st ⟨on, 1, (k1, k2), n, v⟩ (.returned (.agg #[.string y.2, .int .i64 0, .bool true])) w' from fun w' hs => ⟨by simp [answer, saidVal, hat, emptyB], hs⟩)
    have HST := Lib.hid hst0
    clear hc h hst0 hkw hwf hnew hat
    clear hwo n1 n2 hrf
    go_enter Tryz.func11, Tryz.ntmps11
    go_wp2_with fail
    rw [HWO.out]
    refine HC.out.mono ?_
    rintro e w1 ⟨rfl, hw1⟩
    have HB := Lib.hid (HR.out.new_ hw1)
    have hs1 := RStepR.of HNEW.out ((RStep.same HST.out hw1).mono (N' := N + 1) (by omega) hN) hrl HRF.out
    have hb := HB.out
    have r0 := hb.cell 0
    have r1 := hb.cell 1
    have r2 := hb.cell 2
    have q0 := hb.frozen 0
    have q1 := hb.frozen 1
    have q2 := hb.frozen 2
    simp only [List.getElem?_cons_zero, List.getElem?_cons_succ] at r0 r1 r2
    have hrl2 : w.heap.size + 1 < w1.heap.size := hb.lt
    have HFIN := Lib.hid (HP.out _ (((hs1.set_ (by omega) 0 (.string y.2)).set_ (by omega) 1 (.int .i64 0)).set_ (by omega) 2 (.bool true)).step)
    clear hb
    go_wp2
    refine bodyPost_ret (v := .agg #[.string y.2, .int .i64 0, .bool true]) (by simp [results, Tryz.results11, go_sem, *]) rfl ?_
    exact HFIN.out

set_option maxRecDepth 100000 in
set_option maxHeartbeats 2000000 in
theorem tell2 (R : RLay) (N m : Nat) (st : StS) (c : CallV) (w : World) (h : RefAt w R N m st) (hc : CallOk c) (hN : N + 1 ≤ 1048576) (hk : c.kind = 2) :
    Calls Tryz.prog 11 #[.pointer (some ⟨R.s, 0, none⟩), .agg (encCall c).toArray] w (TellPost w R N m st c) := by
  obtain ⟨on, kind, ⟨k1, k2⟩, n, v⟩ := c
  obtain rfl : kind = 2 := hk
  show Calls Tryz.prog 11 #[.pointer (some ⟨R.s, 0, none⟩), .agg #[.int .i64 on, .int .i64 2, .int .i64 k1, .int .i64 k2, .int .i64 n, .string v]] w (TellPost w R N m st ⟨on, 2, (k1, k2), n, v⟩)
  have hsz := fun b (hb : RFoot R b) => h.foot_lt hb
  have n1 := Blk.new w 35 [.int .i64 on, .int .i64 2, .int .i64 k1, .int .i64 k2, .int .i64 n, .string v]
  have n2 := Blk.new (w.alloc (.cells #[.int .i64 on, .int .i64 2, .int .i64 k1, .int .i64 k2, .int .i64 n, .string v] 35)) 37 [.string ⟨#[]⟩, .int .i64 0, .bool false]
  simp only [World.size_alloc] at n2
  obtain ⟨wo, hwo⟩ : ∃ wo, (w.alloc (.cells #[.int .i64 on, .int .i64 2, .int .i64 k1, .int .i64 k2, .int .i64 n, .string v] 35)).alloc (.cells #[.string ⟨#[]⟩, .int .i64 0, .bool false] 37) = wo := ⟨_, rfl⟩
  have hnew : New w wo := by rw [← hwo]; exact ((Mod.refl _ w).alloc _).alloc _
  have hst0 := h.new_ hnew
  have HR := Lib.hid (show Blk wo (w.heap.size + 1) 37 [.string ⟨#[]⟩, .int .i64 0, .bool false] from by rw [← hwo]; exact n2)
  have HWO := Lib.hid hwo
  have hrf : ¬ RFoot R (w.heap.size + 1) := fun hb => by have := hsz _ hb; omega
  have HRF := Lib.hid hrf
  have HNEW := Lib.hid hnew
  have hrl : w.heap.size + 1 < wo.heap.size := by rw [← hwo]; simp
  have hwf := hc.2
  have hkw := hc.1
  have HC := Lib.hid (refSLast_any R N m st (k1, k2) wo hst0)
  unfold ansL at HC
  have HP0 := Lib.hid (show ∀ w' x1 x2 x3, endV (rowOf st.rows (k1, k2)) = (x1, x2, x3) → RStep w R (N + 1) m st w' → TellPost w R N m st ⟨on, 2, (k1, k2), n, v⟩ (.returned (.agg #[.string x1, .int .i64 x2, .bool x3])) w' from fun w' x1 x2 x3 hx hs => ⟨by simp [answer, saidVal, hx], hs⟩)
  obtain ⟨⟨x1, x2, x3⟩, hx⟩ : ∃ x, endV (rowOf st.rows (k1, k2)) = x := ⟨_, rfl⟩
  rw [hx] at HC
  have HP := Lib.hid (fun w' hs => HP0.out w' x1 x2 x3 hx hs)
  have HST := Lib.hid hst0
  clear hc h hst0 hkw hwf hnew hx HP0
  clear hwo n1 n2 hrf
  go_enter Tryz.func11, Tryz.ntmps11
  go_wp2_with fail
  rw [HWO.out]
  refine HC.out.mono ?_
  rintro e w1 ⟨rfl, hw1⟩
  have HB := Lib.hid (HR.out.new_ hw1)
  have hs1 := RStepR.of HNEW.out ((RStep.same HST.out hw1).mono (N' := N + 1) (by omega) hN) hrl HRF.out
  have hb := HB.out
  have r0 := hb.cell 0
  have r1 := hb.cell 1
  have r2 := hb.cell 2
  have q0 := hb.frozen 0
  have q1 := hb.frozen 1
  have q2 := hb.frozen 2
  simp only [List.getElem?_cons_zero, List.getElem?_cons_succ] at r0 r1 r2
  have hrl2 : w.heap.size + 1 < w1.heap.size := hb.lt
  have HFIN := Lib.hid (HP.out _ (((hs1.set_ (by omega) 0 (.string x1)).set_ (by omega) 1 (.int .i64 x2)).set_ (by omega) 2 (.bool x3)).step)
  clear hb
  go_wp2
  refine bodyPost_ret (v := .agg #[.string x1, .int .i64 x2, .bool x3]) (by simp [results, Tryz.results11, go_sem, *]) rfl ?_
  exact HFIN.out

set_option maxRecDepth 100000 in
set_option maxHeartbeats 2000000 in
theorem tell4 (R : RLay) (N m : Nat) (st : StS) (c : CallV) (w : World) (h : RefAt w R N m st) (hc : CallOk c) (hN : N + 1 ≤ 1048576) (hk : c.kind = 4) :
    Calls Tryz.prog 11 #[.pointer (some ⟨R.s, 0, none⟩), .agg (encCall c).toArray] w (TellPost w R N m st c) := by
  obtain ⟨on, kind, ⟨k1, k2⟩, n, v⟩ := c
  obtain rfl : kind = 4 := hk
  show Calls Tryz.prog 11 #[.pointer (some ⟨R.s, 0, none⟩), .agg #[.int .i64 on, .int .i64 4, .int .i64 k1, .int .i64 k2, .int .i64 n, .string v]] w (TellPost w R N m st ⟨on, 4, (k1, k2), n, v⟩)
  have hsz := fun b (hb : RFoot R b) => h.foot_lt hb
  have n1 := Blk.new w 35 [.int .i64 on, .int .i64 4, .int .i64 k1, .int .i64 k2, .int .i64 n, .string v]
  have n2 := Blk.new (w.alloc (.cells #[.int .i64 on, .int .i64 4, .int .i64 k1, .int .i64 k2, .int .i64 n, .string v] 35)) 37 [.string ⟨#[]⟩, .int .i64 0, .bool false]
  simp only [World.size_alloc] at n2
  obtain ⟨wo, hwo⟩ : ∃ wo, (w.alloc (.cells #[.int .i64 on, .int .i64 4, .int .i64 k1, .int .i64 k2, .int .i64 n, .string v] 35)).alloc (.cells #[.string ⟨#[]⟩, .int .i64 0, .bool false] 37) = wo := ⟨_, rfl⟩
  have hnew : New w wo := by rw [← hwo]; exact ((Mod.refl _ w).alloc _).alloc _
  have hst0 := h.new_ hnew
  have HR := Lib.hid (show Blk wo (w.heap.size + 1) 37 [.string ⟨#[]⟩, .int .i64 0, .bool false] from by rw [← hwo]; exact n2)
  have HWO := Lib.hid hwo
  have hrf : ¬ RFoot R (w.heap.size + 1) := fun hb => by have := hsz _ hb; omega
  have HRF := Lib.hid hrf
  have HNEW := Lib.hid hnew
  have hrl : w.heap.size + 1 < wo.heap.size := by rw [← hwo]; simp
  have hwf := hc.2
  have hkw := hc.1
  have HC := Lib.hid (refOpen_any R N m st n wo hst0 hN)
  unfold ROpenPost at HC
  have HP := Lib.hid (show ∀ w', RStep w R (N + 1) m (stOpen st n) w' → TellPost w R N m st ⟨on, 4, (k1, k2), n, v⟩ (.returned (.agg #[.string ⟨#[]⟩, .int .i64 ((st.readers.length : Int) + 1), .bool false])) w' from fun w' hs => ⟨by simp [answer, saidVal, emptyB], hs⟩)
  generalize (st.readers.length : Int) + 1 = ans at *
  clear hc h hst0 hkw hwf hnew
  clear hwo n1 n2 hrf
  go_enter Tryz.func11, Tryz.ntmps11
  go_wp2_with fail
  rw [HWO.out]
  refine HC.out.mono ?_
  rintro e w1 ⟨rfl, hst⟩
  have HB := Lib.hid (hst.blk HR.out HRF.out)
  have hs1 := RStepR.of HNEW.out hst hrl HRF.out
  have HST := Lib.hid hst
  clear hst
  have hb := HB.out
  have r0 := hb.cell 0
  have r1 := hb.cell 1
  have r2 := hb.cell 2
  have q0 := hb.frozen 0
  have q1 := hb.frozen 1
  have q2 := hb.frozen 2
  simp only [List.getElem?_cons_zero, List.getElem?_cons_succ] at r0 r1 r2
  have hrl2 : w.heap.size + 1 < w1.heap.size := hb.lt
  have HFIN := Lib.hid (HP.out _ (((hs1.set_ (by omega) 0 (.string ⟨#[]⟩)).set_ (by omega) 1 (.int .i64 ans)).set_ (by omega) 2 (.bool false)).step)
  clear hb
  go_wp2
  refine bodyPost_ret (v := .agg #[.string ⟨#[]⟩, .int .i64 ans, .bool false]) (by simp [results, Tryz.results11, go_sem, *]) rfl ?_
  exact HFIN.out

set_option maxRecDepth 100000 in
set_option maxHeartbeats 2000000 in
theorem tell5 (R : RLay) (N m : Nat) (st : StS) (c : CallV) (w : World) (h : RefAt w R N m st) (hc : CallOk c) (hN : N + 1 ≤ 1048576) (hk : c.kind = 5) :
    Calls Tryz.prog 11 #[.pointer (some ⟨R.s, 0, none⟩), .agg (encCall c).toArray] w (TellPost w R N m st c) := by
  obtain ⟨on, kind, ⟨k1, k2⟩, n, v⟩ := c
  obtain rfl : kind = 5 := hk
  show Calls Tryz.prog 11 #[.pointer (some ⟨R.s, 0, none⟩), .agg #[.int .i64 on, .int .i64 5, .int .i64 k1, .int .i64 k2, .int .i64 n, .string v]] w (TellPost w R N m st ⟨on, 5, (k1, k2), n, v⟩)
  have hsz := fun b (hb : RFoot R b) => h.foot_lt hb
  have n1 := Blk.new w 35 [.int .i64 on, .int .i64 5, .int .i64 k1, .int .i64 k2, .int .i64 n, .string v]
  have n2 := Blk.new (w.alloc (.cells #[.int .i64 on, .int .i64 5, .int .i64 k1, .int .i64 k2, .int .i64 n, .string v] 35)) 37 [.string ⟨#[]⟩, .int .i64 0, .bool false]
  simp only [World.size_alloc] at n2
  obtain ⟨wo, hwo⟩ : ∃ wo, (w.alloc (.cells #[.int .i64 on, .int .i64 5, .int .i64 k1, .int .i64 k2, .int .i64 n, .string v] 35)).alloc (.cells #[.string ⟨#[]⟩, .int .i64 0, .bool false] 37) = wo := ⟨_, rfl⟩
  have hnew : New w wo := by rw [← hwo]; exact ((Mod.refl _ w).alloc _).alloc _
  have hst0 := h.new_ hnew
  have HR := Lib.hid (show Blk wo (w.heap.size + 1) 37 [.string ⟨#[]⟩, .int .i64 0, .bool false] from by rw [← hwo]; exact n2)
  have HWO := Lib.hid hwo
  have hrf : ¬ RFoot R (w.heap.size + 1) := fun hb => by have := hsz _ hb; omega
  have HRF := Lib.hid hrf
  have HNEW := Lib.hid hnew
  have hrl : w.heap.size + 1 < wo.heap.size := by rw [← hwo]; simp
  have hwf := hc.2
  have hkw := hc.1
  have HC := Lib.hid (refClose_any R N m st n wo hst0)
  unfold RClosePost at HC
  have HP := Lib.hid (show ∀ w', RStep w R (N + 1) m (stClose st n) w' → TellPost w R N m st ⟨on, 5, (k1, k2), n, v⟩ (.returned (.agg #[.string ⟨#[]⟩, .int .i64 0, .bool (closes st n)])) w' from fun w' hs => ⟨by simp [answer, saidVal, emptyB], hs⟩)
  generalize closes st n = ans at *
  clear hc h hst0 hkw hwf hnew
  clear hwo n1 n2 hrf
  go_enter Tryz.func11, Tryz.ntmps11
  go_wp2_with fail
  rw [HWO.out]
  refine HC.out.mono ?_
  rintro e w1 ⟨rfl, hst⟩
  have HB := Lib.hid (hst.blk HR.out HRF.out)
  have hs1 := RStepR.of HNEW.out (hst.mono (N' := N + 1) (by omega) hN) hrl HRF.out
  have HST := Lib.hid hst
  clear hst
  have hb := HB.out
  have r0 := hb.cell 0
  have r1 := hb.cell 1
  have r2 := hb.cell 2
  have q0 := hb.frozen 0
  have q1 := hb.frozen 1
  have q2 := hb.frozen 2
  simp only [List.getElem?_cons_zero, List.getElem?_cons_succ] at r0 r1 r2
  have hrl2 : w.heap.size + 1 < w1.heap.size := hb.lt
  have HFIN := Lib.hid (HP.out _ (((hs1.set_ (by omega) 0 (.string ⟨#[]⟩)).set_ (by omega) 1 (.int .i64 0)).set_ (by omega) 2 (.bool ans)).step)
  clear hb
  go_wp2
  refine bodyPost_ret (v := .agg #[.string ⟨#[]⟩, .int .i64 0, .bool ans]) (by simp [results, Tryz.results11, go_sem, *]) rfl ?_
  exact HFIN.out

set_option maxRecDepth 100000 in
set_option maxHeartbeats 2000000 in
theorem tell7 (R : RLay) (N m : Nat) (st : StS) (c : CallV) (w : World) (h : RefAt w R N m st) (hc : CallOk c) (hN : N + 1 ≤ 1048576) (hk : c.kind = 7) :
    Calls Tryz.prog 11 #[.pointer (some ⟨R.s, 0, none⟩), .agg (encCall c).toArray] w (TellPost w R N m st c) := by
  obtain ⟨on, kind, ⟨k1, k2⟩, n, v⟩ := c
  obtain rfl : kind = 7 := hk
  show Calls Tryz.prog 11 #[.pointer (some ⟨R.s, 0, none⟩), .agg #[.int .i64 on, .int .i64 7, .int .i64 k1, .int .i64 k2, .int .i64 n, .string v]] w (TellPost w R N m st ⟨on, 7, (k1, k2), n, v⟩)
  have hsz := fun b (hb : RFoot R b) => h.foot_lt hb
  have n1 := Blk.new w 35 [.int .i64 on, .int .i64 7, .int .i64 k1, .int .i64 k2, .int .i64 n, .string v]
  have n2 := Blk.new (w.alloc (.cells #[.int .i64 on, .int .i64 7, .int .i64 k1, .int .i64 k2, .int .i64 n, .string v] 35)) 37 [.string ⟨#[]⟩, .int .i64 0, .bool false]
  simp only [World.size_alloc] at n2
  obtain ⟨wo, hwo⟩ : ∃ wo, (w.alloc (.cells #[.int .i64 on, .int .i64 7, .int .i64 k1, .int .i64 k2, .int .i64 n, .string v] 35)).alloc (.cells #[.string ⟨#[]⟩, .int .i64 0, .bool false] 37) = wo := ⟨_, rfl⟩
  have hnew : New w wo := by rw [← hwo]; exact ((Mod.refl _ w).alloc _).alloc _
  have hst0 := h.new_ hnew
  have HR := Lib.hid (show Blk wo (w.heap.size + 1) 37 [.string ⟨#[]⟩, .int .i64 0, .bool false] from by rw [← hwo]; exact n2)
  have HWO := Lib.hid hwo
  have hrf : ¬ RFoot R (w.heap.size + 1) := fun hb => by have := hsz _ hb; omega
  have HRF := Lib.hid hrf
  have HNEW := Lib.hid hnew
  have hrl : w.heap.size + 1 < wo.heap.size := by rw [← hwo]; simp
  have hwf := hc.2
  have hkw := hc.1
  have HC := Lib.hid (refSPrune_any R N m st (k1, k2) n wo hst0 hN)
  unfold RSPrunePost at HC
  have HP := Lib.hid (show ∀ w', RStep w R (N + 1) m (stPrune st (k1, k2) n) w' → TellPost w R N m st ⟨on, 7, (k1, k2), n, v⟩ (.returned (.agg #[.string ⟨#[]⟩, .int .i64 (goneV (rowOf st.rows (k1, k2)) (stOldest st n) : Int), .bool false])) w' from fun w' hs => ⟨by simp [answer, saidVal, emptyB], hs⟩)
  generalize (goneV (rowOf st.rows (k1, k2)) (stOldest st n) : Int) = ans at *
  clear hc h hst0 hkw hwf hnew
  clear hwo n1 n2 hrf
  go_enter Tryz.func11, Tryz.ntmps11
  go_wp2_with fail
  rw [HWO.out]
  refine HC.out.mono ?_
  rintro e w1 ⟨rfl, hst⟩
  have HB := Lib.hid (hst.blk HR.out HRF.out)
  have hs1 := RStepR.of HNEW.out hst hrl HRF.out
  have HST := Lib.hid hst
  clear hst
  have hb := HB.out
  have r0 := hb.cell 0
  have r1 := hb.cell 1
  have r2 := hb.cell 2
  have q0 := hb.frozen 0
  have q1 := hb.frozen 1
  have q2 := hb.frozen 2
  simp only [List.getElem?_cons_zero, List.getElem?_cons_succ] at r0 r1 r2
  have hrl2 : w.heap.size + 1 < w1.heap.size := hb.lt
  have HFIN := Lib.hid (HP.out _ (((hs1.set_ (by omega) 0 (.string ⟨#[]⟩)).set_ (by omega) 1 (.int .i64 ans)).set_ (by omega) 2 (.bool false)).step)
  clear hb
  go_wp2
  refine bodyPost_ret (v := .agg #[.string ⟨#[]⟩, .int .i64 ans, .bool false]) (by simp [results, Tryz.results11, go_sem, *]) rfl ?_
  exact HFIN.out

set_option maxRecDepth 100000 in
set_option maxHeartbeats 2000000 in
theorem tell6 (R : RLay) (N m : Nat) (st : StS) (c : CallV) (w : World) (h : RefAt w R N m st) (hc : CallOk c) (hN : N + 1 ≤ 1048576) (hk : c.kind = 6) :
    Calls Tryz.prog 11 #[.pointer (some ⟨R.s, 0, none⟩), .agg (encCall c).toArray] w (TellPost w R N m st c) := by
  obtain ⟨on, kind, ⟨k1, k2⟩, n, v⟩ := c
  obtain rfl : kind = 6 := hk
  show Calls Tryz.prog 11 #[.pointer (some ⟨R.s, 0, none⟩), .agg #[.int .i64 on, .int .i64 6, .int .i64 k1, .int .i64 k2, .int .i64 n, .string v]] w (TellPost w R N m st ⟨on, 6, (k1, k2), n, v⟩)
  have hsz := fun b (hb : RFoot R b) => h.foot_lt hb
  have n1 := Blk.new w 35 [.int .i64 on, .int .i64 6, .int .i64 k1, .int .i64 k2, .int .i64 n, .string v]
  have n2 := Blk.new (w.alloc (.cells #[.int .i64 on, .int .i64 6, .int .i64 k1, .int .i64 k2, .int .i64 n, .string v] 35)) 37 [.string ⟨#[]⟩, .int .i64 0, .bool false]
  simp only [World.size_alloc] at n2
  obtain ⟨wo, hwo⟩ : ∃ wo, (w.alloc (.cells #[.int .i64 on, .int .i64 6, .int .i64 k1, .int .i64 k2, .int .i64 n, .string v] 35)).alloc (.cells #[.string ⟨#[]⟩, .int .i64 0, .bool false] 37) = wo := ⟨_, rfl⟩
  have hnew : New w wo := by rw [← hwo]; exact ((Mod.refl _ w).alloc _).alloc _
  have hst0 := h.new_ hnew
  have HR := Lib.hid (show Blk wo (w.heap.size + 1) 37 [.string ⟨#[]⟩, .int .i64 0, .bool false] from by rw [← hwo]; exact n2)
  have HWO := Lib.hid hwo
  have hrf : ¬ RFoot R (w.heap.size + 1) := fun hb => by have := hsz _ hb; omega
  have HRF := Lib.hid hrf
  have HNEW := Lib.hid hnew
  have hrl : w.heap.size + 1 < wo.heap.size := by rw [← hwo]; simp
  have hwf := hc.2
  have hkw := hc.1
  have HC := Lib.hid (refOldest_any R N m st n wo hst0)
  have HP := Lib.hid (show ∀ w', RStep w R (N + 1) m st w' → TellPost w R N m st ⟨on, 6, (k1, k2), n, v⟩ (.returned (.agg #[.string ⟨#[]⟩, .int .i64 (stOldest st n), .bool false])) w' from fun w' hs => ⟨by simp [answer, saidVal, emptyB], hs⟩)
  generalize stOldest st n = ans at *
  have HST := Lib.hid hst0
  clear hc h hst0 hkw hwf hnew
  clear hwo n1 n2 hrf
  go_enter Tryz.func11, Tryz.ntmps11
  go_wp2_with fail
  rw [HWO.out]
  refine HC.out.mono ?_
  rintro e w1 ⟨rfl, hw1⟩
  have HB := Lib.hid (HR.out.new_ hw1)
  have hs1 := RStepR.of HNEW.out ((RStep.same HST.out hw1).mono (N' := N + 1) (by omega) hN) hrl HRF.out
  have hb := HB.out
  have r0 := hb.cell 0
  have r1 := hb.cell 1
  have r2 := hb.cell 2
  have q0 := hb.frozen 0
  have q1 := hb.frozen 1
  have q2 := hb.frozen 2
  simp only [List.getElem?_cons_zero, List.getElem?_cons_succ] at r0 r1 r2
  have hrl2 : w.heap.size + 1 < w1.heap.size := hb.lt
  have HFIN := Lib.hid (HP.out _ (((hs1.set_ (by omega) 0 (.string ⟨#[]⟩)).set_ (by omega) 1 (.int .i64 ans)).set_ (by omega) 2 (.bool false)).step)
  clear hb
  go_wp2
  refine bodyPost_ret (v := .agg #[.string ⟨#[]⟩, .int .i64 ans, .bool false]) (by simp [results, Tryz.results11, go_sem, *]) rfl ?_
  exact HFIN.out

set_option maxRecDepth 100000 in
set_option maxHeartbeats 2000000 in
theorem tell8 (R : RLay) (N m : Nat) (st : StS) (c : CallV) (w : World) (h : RefAt w R N m st) (hc : CallOk c) (hN : N + 1 ≤ 1048576) (hk : c.kind = 8) :
    Calls Tryz.prog 11 #[.pointer (some ⟨R.s, 0, none⟩), .agg (encCall c).toArray] w (TellPost w R N m st c) := by
  obtain ⟨on, kind, ⟨k1, k2⟩, n, v⟩ := c
  obtain rfl : kind = 8 := hk
  show Calls Tryz.prog 11 #[.pointer (some ⟨R.s, 0, none⟩), .agg #[.int .i64 on, .int .i64 8, .int .i64 k1, .int .i64 k2, .int .i64 n, .string v]] w (TellPost w R N m st ⟨on, 8, (k1, k2), n, v⟩)
  have hsz := fun b (hb : RFoot R b) => h.foot_lt hb
  have n1 := Blk.new w 35 [.int .i64 on, .int .i64 8, .int .i64 k1, .int .i64 k2, .int .i64 n, .string v]
  have n2 := Blk.new (w.alloc (.cells #[.int .i64 on, .int .i64 8, .int .i64 k1, .int .i64 k2, .int .i64 n, .string v] 35)) 37 [.string ⟨#[]⟩, .int .i64 0, .bool false]
  simp only [World.size_alloc] at n2
  obtain ⟨wo, hwo⟩ : ∃ wo, (w.alloc (.cells #[.int .i64 on, .int .i64 8, .int .i64 k1, .int .i64 k2, .int .i64 n, .string v] 35)).alloc (.cells #[.string ⟨#[]⟩, .int .i64 0, .bool false] 37) = wo := ⟨_, rfl⟩
  have hnew : New w wo := by rw [← hwo]; exact ((Mod.refl _ w).alloc _).alloc _
  have hst0 := h.new_ hnew
  have HR := Lib.hid (show Blk wo (w.heap.size + 1) 37 [.string ⟨#[]⟩, .int .i64 0, .bool false] from by rw [← hwo]; exact n2)
  have HWO := Lib.hid hwo
  have hrf : ¬ RFoot R (w.heap.size + 1) := fun hb => by have := hsz _ hb; omega
  have HRF := Lib.hid hrf
  have HNEW := Lib.hid hnew
  have hrl : w.heap.size + 1 < wo.heap.size := by rw [← hwo]; simp
  have hwf := hc.2
  have hkw := hc.1
  have HC := Lib.hid (refVersions_any R N m st wo hst0)
  have HP := Lib.hid (show ∀ w', RStep w R (N + 1) m st w' → TellPost w R N m st ⟨on, 8, (k1, k2), n, v⟩ (.returned (.agg #[.string ⟨#[]⟩, .int .i64 ((stVersions st : Int)), .bool false])) w' from fun w' hs => ⟨by simp [answer, saidVal, emptyB], hs⟩)
  generalize (stVersions st : Int) = ans at *
  have HST := Lib.hid hst0
  clear hc h hst0 hkw hwf hnew
  clear hwo n1 n2 hrf
  go_enter Tryz.func11, Tryz.ntmps11
  go_wp2_with fail
  rw [HWO.out]
  refine HC.out.mono ?_
  rintro e w1 ⟨rfl, hw1⟩
  have HB := Lib.hid (HR.out.new_ hw1)
  have hs1 := RStepR.of HNEW.out ((RStep.same HST.out hw1).mono (N' := N + 1) (by omega) hN) hrl HRF.out
  have hb := HB.out
  have r0 := hb.cell 0
  have r1 := hb.cell 1
  have r2 := hb.cell 2
  have q0 := hb.frozen 0
  have q1 := hb.frozen 1
  have q2 := hb.frozen 2
  simp only [List.getElem?_cons_zero, List.getElem?_cons_succ] at r0 r1 r2
  have hrl2 : w.heap.size + 1 < w1.heap.size := hb.lt
  have HFIN := Lib.hid (HP.out _ (((hs1.set_ (by omega) 0 (.string ⟨#[]⟩)).set_ (by omega) 1 (.int .i64 ans)).set_ (by omega) 2 (.bool false)).step)
  clear hb
  go_wp2
  refine bodyPost_ret (v := .agg #[.string ⟨#[]⟩, .int .i64 ans, .bool false]) (by simp [results, Tryz.results11, go_sem, *]) rfl ?_
  exact HFIN.out

set_option maxRecDepth 100000 in
set_option maxHeartbeats 2000000 in
theorem tellE (R : RLay) (N m : Nat) (st : StS) (c : CallV) (w : World) (h : RefAt w R N m st) (hc : CallOk c) (hN : N + 1 ≤ 1048576) (h0 : c.kind ≠ 0) (h1 : c.kind ≠ 1) (h2 : c.kind ≠ 2) (h4 : c.kind ≠ 4) (h5 : c.kind ≠ 5) (h6 : c.kind ≠ 6) (h7 : c.kind ≠ 7) (h8 : c.kind ≠ 8) :
    Calls Tryz.prog 11 #[.pointer (some ⟨R.s, 0, none⟩), .agg (encCall c).toArray] w (TellPost w R N m st c) := by
  obtain ⟨on, kind, ⟨k1, k2⟩, n, v⟩ := c
  simp only at h0 h1 h2 h4 h5 h6 h7 h8
  show Calls Tryz.prog 11 #[.pointer (some ⟨R.s, 0, none⟩), .agg #[.int .i64 on, .int .i64 kind, .int .i64 k1, .int .i64 k2, .int .i64 n, .string v]] w (TellPost w R N m st ⟨on, kind, (k1, k2), n, v⟩)
  have hsz := fun b (hb : RFoot R b) => h.foot_lt hb
  have n1 := Blk.new w 35 [.int .i64 on, .int .i64 kind, .int .i64 k1, .int .i64 k2, .int .i64 n, .string v]
  have n2 := Blk.new (w.alloc (.cells #[.int .i64 on, .int .i64 kind, .int .i64 k1, .int .i64 k2, .int .i64 n, .string v] 35)) 37 [.string ⟨#[]⟩, .int .i64 0, .bool false]
  simp only [World.size_alloc] at n2
  obtain ⟨wo, hwo⟩ : ∃ wo, (w.alloc (.cells #[.int .i64 on, .int .i64 kind, .int .i64 k1, .int .i64 k2, .int .i64 n, .string v] 35)).alloc (.cells #[.string ⟨#[]⟩, .int .i64 0, .bool false] 37) = wo := ⟨_, rfl⟩
  have hnew : New w wo := by rw [← hwo]; exact ((Mod.refl _ w).alloc _).alloc _
  have hst0 := h.new_ hnew
  have HR := Lib.hid (show Blk wo (w.heap.size + 1) 37 [.string ⟨#[]⟩, .int .i64 0, .bool false] from by rw [← hwo]; exact n2)
  have HWO := Lib.hid hwo
  have hrf : ¬ RFoot R (w.heap.size + 1) := fun hb => by have := hsz _ hb; omega
  have HRF := Lib.hid hrf
  have HNEW := Lib.hid hnew
  have hrl : w.heap.size + 1 < wo.heap.size := by rw [← hwo]; simp
  have hwf := hc.2
  have hkw := hc.1
  have t0 : ((kind : Int) == 0) = false := by simpa using h0
  have t1 : ((kind : Int) == 1) = false := by simpa using h1
  have t2 : ((kind : Int) == 2) = false := by simpa using h2
  have t4 : ((kind : Int) == 4) = false := by simpa using h4
  have t5 : ((kind : Int) == 5) = false := by simpa using h5
  have t6 : ((kind : Int) == 6) = false := by simpa using h6
  have t7 : ((kind : Int) == 7) = false := by simpa using h7
  have t8 : ((kind : Int) == 8) = false := by simpa using h8
  have s0 := hst0.blk.cell 0
  simp only [List.getElem?_cons_zero] at s0
  have HP := Lib.hid (show ∀ w', RStep w R (N + 1) m st w' → TellPost w R N m st ⟨on, kind, (k1, k2), n, v⟩ (.returned (.agg #[.string ⟨#[]⟩, .int .i64 (m : Int), .bool false])) w' from fun w' hs => ⟨by simp [answer, saidVal, emptyB, h0, h1, h2, h4, h5, h6, h7, h8], by simpa [after, h0, h1, h2, h4, h5, h6, h7, h8] using hs⟩)
  have HW := Lib.hid h
  rw [← hwo] at s0
  clear hc h hst0 hkw hwf hnew h0 h1 h2 h4 h5 h6 h7 h8
  clear n1 n2 hrf hwo
  go_enter Tryz.func11, Tryz.ntmps11
  go_wp2
  refine bodyPost_ret (v := .agg #[.string ⟨#[]⟩, .int .i64 (m : Int), .bool false]) (by simp [results, Tryz.results11, go_sem, *]) rfl ?_
  exact HP.out _ ((RStep.same HW.out (((Mod.refl _ _).alloc _).alloc _)).mono (by omega) hN)

theorem tell_any (R : RLay) (N m : Nat) (st : StS) (c : CallV) (w : World) (h : RefAt w R N m st) (hc : CallOk c) (hN : N + 1 ≤ 1048576) :
    Calls Tryz.prog 11 #[.pointer (some ⟨R.s, 0, none⟩), .agg (encCall c).toArray] w (TellPost w R N m st c) := by
  by_cases h0 : c.kind = 0
  · exact tell0 R N m st c w h hc hN h0
  by_cases h1 : c.kind = 1
  · exact tell1 R N m st c w h hc hN h1
  by_cases h2 : c.kind = 2
  · exact tell2 R N m st c w h hc hN h2
  by_cases h4 : c.kind = 4
  · exact tell4 R N m st c w h hc hN h4
  by_cases h5 : c.kind = 5
  · exact tell5 R N m st c w h hc hN h5
  by_cases h6 : c.kind = 6
  · exact tell6 R N m st c w h hc hN h6
  by_cases h7 : c.kind = 7
  · exact tell7 R N m st c w h hc hN h7
  by_cases h8 : c.kind = 8
  · exact tell8 R N m st c w h hc hN h8
  exact tellE R N m st c w h hc hN h0 h1 h2 h4 h5 h6 h7 h8
end Go.Proofs.YtfifalopbfopnaaGreatDoor
