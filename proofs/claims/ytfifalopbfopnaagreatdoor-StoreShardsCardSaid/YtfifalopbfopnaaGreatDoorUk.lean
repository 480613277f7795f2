/- Walks: ask: what the program's store answers to a call. (Printed by gen_ask.py.) -/
import Derived.Test.YtfifalopbfopnaaGreatDoorUja
set_option linter.unusedVariables false
set_option linter.unusedSimpArgs false
namespace Go.Proofs.YtfifalopbfopnaaGreatDoor
open Go.RowKit

/-- What ask answers, and leaves. -/
def AskPost (w : World) (L : Lay) (N : Nat) (st : StS) (c : CallV) (e : Ending) (w' : World) : Prop :=
  e = .returned (saidVal (answer L.bs.length st c)) ∧ Step w L (N + 1) (after st c) w'
/-- A store behind a call, and block r, which is none of its own. -/
def StepR (w : World) (L : Lay) (N : Nat) (st : StS) (r : Nat) (w' : World) : Prop :=
  ∃ L', L'.s = L.s ∧ L'.bs = L.bs ∧ StoreAt w' L' N st ∧ Mod (Foot L) w w' ∧ (∀ b, Foot L' b → Foot L b ∨ w.heap.size ≤ b) ∧ ¬ Foot L' r
theorem StepR.of {w wo w' : World} {L : Lay} {N : Nat} {st : StS} {r : Nat} (hn : New w wo) (h : Step wo L N st w') (hr : r < wo.heap.size) (hf : ¬ Foot L r) : StepR w L N st r w' := by
  obtain ⟨L', h1, h2, h3, h4, h5⟩ := h
  refine ⟨L', h1, h2, h3, Mod.trans (Mod.mono hn (fun _ _ h => h.elim)) h4 (fun _ _ h => h), fun b hb => ?_, fun hb => ?_⟩
  · rcases h5 b hb with h | h
    · exact .inl h
    · exact .inr (Nat.le_trans hn.size h)
  · rcases h5 r hb with h | h
    · exact hf h
    · omega
theorem StepR.set_ {w w' : World} {L : Lay} {N : Nat} {st : StS} {r : Nat} (h : StepR w L N st r w') (hr : w.heap.size ≤ r) (i : Nat) (u : Value) : StepR w L N st r (w'.setCell ⟨r, i, none⟩ u) := by
  obtain ⟨L', h1, h2, h3, h4, h5, h6⟩ := h
  have hm := mod_set w' r i u
  exact ⟨L', h1, h2, h3.mod hm (fun b hb e => h6 (by have e' : b = r := e; rw [← e']; exact hb)), Mod.trans h4 hm (fun b hb e => by have e' : b = r := e; omega), h5, h6⟩
theorem StepR.new_ {w w' w'' : World} {L : Lay} {N : Nat} {st : StS} {r : Nat} (h : StepR w L N st r w') (hm : New w' w'') : StepR w L N st r w'' := by
  obtain ⟨L', h1, h2, h3, h4, h5, h6⟩ := h
  exact ⟨L', h1, h2, h3.new_ hm, Mod.trans h4 hm (fun _ _ h => h.elim), h5, h6⟩
theorem StepR.step {w w' : World} {L : Lay} {N : Nat} {st : StS} {r : Nat} (h : StepR w L N st r w') : Step w L N st w' := by
  obtain ⟨L', h1, h2, h3, h4, h5, h6⟩ := h
  exact ⟨L', h1, h2, h3, h4, h5⟩
theorem Step.blk {w w' : World} {L : Lay} {N : Nat} {st : StS} {g : Nat} {t : TypeId} {cs : List Value} (h : Step w L N st w') (hb : Blk w g t cs) (hf : ¬ Foot L g) : Blk w' g t cs := by
  obtain ⟨L', _, _, _, hm, _⟩ := h
  exact hb.kept hm hf
theorem Step.err {w w' : World} {L : Lay} {N : Nat} {st : StS} (h : Step w L N st w') (hg : ErrVar w) (hf : ¬ Foot L 0) : ErrVar w' := by
  obtain ⟨L', _, _, _, hm, _⟩ := h
  exact hm.cell hg hf
theorem Step.size {w w' : World} {L : Lay} {N : Nat} {st : StS} (h : Step w L N st w') : w.heap.size ≤ w'.heap.size := by
  obtain ⟨L', _, _, _, hm, _⟩ := h
  exact hm.size

set_option maxRecDepth 100000 in
set_option maxHeartbeats 2000000 in
theorem ask0 (L : Lay) (N : Nat) (st : StS) (c : CallV) (w : World) (h : StoreAt w L N st) (hc : CallOk c) (hN : N + 1 ≤ 1048576) (hg : ErrVar w) (hf : ¬ Foot L 0) (hk : c.kind = 0) :
    Calls Tryz.prog 10 #[.pointer (some ⟨L.s, 0, none⟩), .agg (encCall c).toArray] w (AskPost w L N st c) := by
  obtain ⟨on, kind, ⟨k1, k2⟩, n, v⟩ := c
  obtain rfl : kind = 0 := hk
  show Calls Tryz.prog 10 #[.pointer (some ⟨L.s, 0, none⟩), .agg #[.int .i64 on, .int .i64 0, .int .i64 k1, .int .i64 k2, .int .i64 n, .string v]] w (AskPost w L N st ⟨on, 0, (k1, k2), n, v⟩)
  have hsz := fun b (hb : Foot L b) => h.foot_lt hb
  have n1 := Blk.new w 35 [.int .i64 on, .int .i64 0, .int .i64 k1, .int .i64 k2, .int .i64 n, .string v]
  have n2 := Blk.new (w.alloc (.cells #[.int .i64 on, .int .i64 0, .int .i64 k1, .int .i64 k2, .int .i64 n, .string v] 35)) 37 [.string ⟨#[]⟩, .int .i64 0, .bool false]
  simp only [World.size_alloc] at n2
  obtain ⟨wo, hwo⟩ : ∃ wo, (w.alloc (.cells #[.int .i64 on, .int .i64 0, .int .i64 k1, .int .i64 k2, .int .i64 n, .string v] 35)).alloc (.cells #[.string ⟨#[]⟩, .int .i64 0, .bool false] 37) = wo := ⟨_, rfl⟩
  have hnew : New w wo := by rw [← hwo]; exact ((Mod.refl _ w).alloc _).alloc _
  have hst0 := h.new_ hnew
  have HR := Lib.hid (show Blk wo (w.heap.size + 1) 37 [.string ⟨#[]⟩, .int .i64 0, .bool false] from by rw [← hwo]; exact n2)
  have HWO := Lib.hid hwo
  have hrf : ¬ Foot L (w.heap.size + 1) := fun hb => by have := hsz _ hb; omega
  have HRF := Lib.hid hrf
  have HNEW := Lib.hid hnew
  have hrl : w.heap.size + 1 < wo.heap.size := by rw [← hwo]; simp
  have hwf := hc.2
  have hkw := hc.1
  have HPUT := Lib.hid (storePut_any L N st (k1, k2) n v wo hst0 hkw hN)
  have hg0 := hg.new_ hnew
  have HG := Lib.hid hg0
  have HF := Lib.hid hf
  have HP := Lib.hid (show ∀ w' x, (if canPut (rowOf st.rows (k1, k2)) n then (0 : Int) else 1) = x → Step w L (N + 1) (stPut st (k1, k2) n v) w' → AskPost w L N st ⟨on, 0, (k1, k2), n, v⟩ (.returned (.agg #[.string ⟨#[]⟩, .int .i64 x, .bool true])) w' from fun w' x hx hs => ⟨by rw [← hx]; rfl, hs⟩)
  obtain ⟨cp, hcp⟩ : ∃ cp, canPut (rowOf st.rows (k1, k2)) n = cp := ⟨_, rfl⟩
  unfold SPutPost at HPUT
  rw [hcp] at HPUT HP
  clear hc h hcp hf hg hnew hg0 hst0 hkw hwf
  clear hwo n1 n2 hrf
  go_enter Tryz.func10, Tryz.ntmps10
  go_wp2_with fail
  rw [HWO.out]
  refine HPUT.out.mono ?_
  rintro e w1 ⟨rfl, hst⟩
  have hg1 := hst.err HG.out HF.out
  have HG1 := Lib.hid hg1
  have HSR := Lib.hid (StepR.of HNEW.out hst hrl HRF.out)
  have hb := hst.blk HR.out HRF.out
  have r0 := hb.cell 0
  have r1 := hb.cell 1
  have r2 := hb.cell 2
  have q0 := hb.frozen 0
  have q1 := hb.frozen 1
  have q2 := hb.frozen 2
  simp only [List.getElem?_cons_zero, List.getElem?_cons_succ] at r0 r1 r2
  have hrl2 : w.heap.size + 1 < w1.heap.size := hb.lt
  have HB := Lib.hid hb
  have HST := Lib.hid hst
  clear hst hg1 hb r0 r1 r2 q0 q1 q2
  cases cp with
  | true =>
    simp only [if_true]
    go_wp2_with fail
    refine (num_nil _).mono ?_
    rintro e w2 ⟨rfl, hw2⟩
    go_wp2_with fail
    refine (plain_nil _).mono ?_
    rintro e w3 ⟨rfl, hw3⟩
    have hw13 := New.trans hw2 hw3
    have hb := HB.out.new_ hw13
    have r0 := hb.cell 0
    have r1 := hb.cell 1
    have r2 := hb.cell 2
    have q0 := hb.frozen 0
    have q1 := hb.frozen 1
    have q2 := hb.frozen 2
    simp only [List.getElem?_cons_zero, List.getElem?_cons_succ] at r0 r1 r2
    have hrl2 : w.heap.size + 1 < w3.heap.size := hb.lt
    have hs3 := HSR.out.new_ hw13
    have HFIN := Lib.hid (HP.out _ 0 rfl (((hs3.set_ (by omega) 0 (.string ⟨#[]⟩)).set_ (by omega) 1 (.int .i64 0)).set_ (by omega) 2 (.bool true)).step)
    clear hb hs3 hw13
    go_wp2
    refine bodyPost_ret (v := .agg #[.string ⟨#[]⟩, .int .i64 0, .bool true]) (by simp [results, Tryz.results10, go_sem, *]) rfl ?_
    exact HFIN.out
  | false =>
    simp only [Bool.false_eq_true, if_false]
    go_wp2_with fail
    refine (num_any (Er.errno 1) (by omega) (by omega) _).mono ?_
    rintro e w2 ⟨rfl, hw2⟩
    go_wp2_with fail
    refine (plain_any (Er.errno 1) (by omega) (by omega) _ (HG1.out.new_ hw2)).mono ?_
    rintro e w3 ⟨rfl, hw3⟩
    have hw13 := New.trans hw2 hw3
    have hb := HB.out.new_ hw13
    have r0 := hb.cell 0
    have r1 := hb.cell 1
    have r2 := hb.cell 2
    have q0 := hb.frozen 0
    have q1 := hb.frozen 1
    have q2 := hb.frozen 2
    simp only [List.getElem?_cons_zero, List.getElem?_cons_succ] at r0 r1 r2
    have hrl2 : w.heap.size + 1 < w3.heap.size := hb.lt
    have hs3 := HSR.out.new_ hw13
    have HFIN := Lib.hid (HP.out _ 1 (by simp) (((hs3.set_ (by omega) 0 (.string ⟨#[]⟩)).set_ (by omega) 1 (.int .i64 1)).set_ (by omega) 2 (.bool true)).step)
    clear hb hs3 hw13
    go_wp2
    refine bodyPost_ret (v := .agg #[.string ⟨#[]⟩, .int .i64 1, .bool true]) (by simp [results, Tryz.results10, go_sem, *]) rfl ?_
    exact HFIN.out

set_option maxRecDepth 100000 in
set_option maxHeartbeats 2000000 in
theorem ask1 (L : Lay) (N : Nat) (st : StS) (c : CallV) (w : World) (h : StoreAt w L N st) (hc : CallOk c) (hN : N + 1 ≤ 1048576) (hg : ErrVar w) (hf : ¬ Foot L 0) (hk : c.kind = 1) :
    Calls Tryz.prog 10 #[.pointer (some ⟨L.s, 0, none⟩), .agg (encCall c).toArray] w (AskPost w L N st c) := by
  obtain ⟨on, kind, ⟨k1, k2⟩, n, v⟩ := c
  obtain rfl : kind = 1 := hk
  show Calls Tryz.prog 10 #[.pointer (some ⟨L.s, 0, none⟩), .agg #[.int .i64 on, .int .i64 1, .int .i64 k1, .int .i64 k2, .int .i64 n, .string v]] w (AskPost w L N st ⟨on, 1, (k1, k2), n, v⟩)
  have hsz := fun b (hb : Foot L b) => h.foot_lt hb
  have n1 := Blk.new w 35 [.int .i64 on, .int .i64 1, .int .i64 k1, .int .i64 k2, .int .i64 n, .string v]
  have n2 := Blk.new (w.alloc (.cells #[.int .i64 on, .int .i64 1, .int .i64 k1, .int .i64 k2, .int .i64 n, .string v] 35)) 37 [.string ⟨#[]⟩, .int .i64 0, .bool false]
  simp only [World.size_alloc] at n2
  obtain ⟨wo, hwo⟩ : ∃ wo, (w.alloc (.cells #[.int .i64 on, .int .i64 1, .int .i64 k1, .int .i64 k2, .int .i64 n, .string v] 35)).alloc (.cells #[.string ⟨#[]⟩, .int .i64 0, .bool false] 37) = wo := ⟨_, rfl⟩
  have hnew : New w wo := by rw [← hwo]; exact ((Mod.refl _ w).alloc _).alloc _
  have hst0 := h.new_ hnew
  have HR := Lib.hid (show Blk wo (w.heap.size + 1) 37 [.string ⟨#[]⟩, .int .i64 0, .bool false] from by rw [← hwo]; exact n2)
  have HWO := Lib.hid hwo
  have hrf : ¬ Foot L (w.heap.size + 1) := fun hb => by have := hsz _ hb; omega
  have HRF := Lib.hid hrf
  have HNEW := Lib.hid hnew
  have hrl : w.heap.size + 1 < wo.heap.size := by rw [← hwo]; simp
  have hwf := hc.2
  have hkw := hc.1
  have HC := Lib.hid (storeAt_any L N st (k1, k2) n wo hst0 hkw)
  cases hat : atV (rowOf st.rows (k1, k2)) n with
  | none =>
    rw [hat] at HC
    dsimp only [ansV] at HC
    have HP := Lib.hid (show ∀ w', Step w L (N + 1) st w' → AskPost w L N st ⟨on, 1, (k1, k2), n, v⟩ (.returned (.agg #[.string ⟨#[]⟩, .int .i64 0, .bool false])) w' from fun w' hs => ⟨by simp [answer, saidVal, hat, emptyB], hs⟩)
    have HST := Lib.hid hst0
    clear hc h hf hg hst0 hkw hwf hnew hat
    clear hwo n1 n2 hrf
    go_enter Tryz.func10, Tryz.ntmps10
    go_wp2_with fail
    rw [HWO.out]
    refine HC.out.mono ?_
    rintro e w1 ⟨rfl, hw1⟩
    have HB := Lib.hid (HR.out.new_ hw1)
    have hs1 := StepR.of HNEW.out ((Step.same HST.out hw1).mono (N' := N + 1) (by omega) hN) hrl HRF.out
    have hb := HB.out
    have r0 := hb.cell 0
    have r1 := hb.cell 1
    have r2 := hb.cell 2
    have q0 := hb.frozen 0
    have q1 := hb.frozen 1
    have q2 := hb.frozen 2
    simp only [List.getElem?_cons_zero, List.getElem?_cons_succ] at r0 r1 r2
    have hrl2 : w.heap.size + 1 < w1.heap.size := hb.lt
    have HFIN := Lib.hid (HP.out _ (((hs1.set_ (by omega) 0 (.string ⟨#[]⟩)).set_ (by omega) 1 (.int .i64 0)).set_ (by omega) 2 (.bool false)).step)
    clear hb
    go_wp2
    refine bodyPost_ret (v := .agg #[.string ⟨#[]⟩, .int .i64 0, .bool false]) (by simp [results, Tryz.results10, go_sem, *]) rfl ?_
    exact HFIN.out
  | some y =>
    rw [hat] at HC
    dsimp only [ansV] at HC
    have HP := Lib.hid (show ∀ w', Step w L (N + 1) st w' → AskPost w L N st ⟨on, 1, (k1, k2), n, v⟩ (.returned (.agg #[.string y.2, .int .i64 0, .bool true])) w' from fun w' hs => ⟨by simp [answer, saidVal, hat, emptyB], hs⟩)
    have HST := Lib.hid hst0
    clear hc h hf hg hst0 hkw hwf hnew hat
    clear hwo n1 n2 hrf
    go_enter Tryz.func10, Tryz.ntmps10
    go_wp2_with fail
    rw [HWO.out]
    refine HC.out.mono ?_
    rintro e w1 ⟨rfl, hw1⟩
    have HB := Lib.hid (HR.out.new_ hw1)
    have hs1 := StepR.of HNEW.out ((Step.same HST.out hw1).mono (N' := N + 1) (by omega) hN) hrl HRF.out
    have hb := HB.out
    have r0 := hb.cell 0
    have r1 := hb.cell 1
    have r2 := hb.cell 2
    have q0 := hb.frozen 0
    have q1 := hb.frozen 1
    have q2 := hb.frozen 2
    simp only [List.getElem?_cons_zero, List.getElem?_cons_succ] at r0 r1 r2
    have hrl2 : w.heap.size + 1 < w1.heap.size := hb.lt
    have HFIN := Lib.hid (HP.out _ (((hs1.set_ (by omega) 0 (.string y.2)).set_ (by omega) 1 (.int .i64 0)).set_ (by omega) 2 (.bool true)).step)
    clear hb
    go_wp2
    refine bodyPost_ret (v := .agg #[.string y.2, .int .i64 0, .bool true]) (by simp [results, Tryz.results10, go_sem, *]) rfl ?_
    exact HFIN.out

set_option maxRecDepth 100000 in
set_option maxHeartbeats 2000000 in
theorem ask2 (L : Lay) (N : Nat) (st : StS) (c : CallV) (w : World) (h : StoreAt w L N st) (hc : CallOk c) (hN : N + 1 ≤ 1048576) (hg : ErrVar w) (hf : ¬ Foot L 0) (hk : c.kind = 2) :
    Calls Tryz.prog 10 #[.pointer (some ⟨L.s, 0, none⟩), .agg (encCall c).toArray] w (AskPost w L N st c) := by
  obtain ⟨on, kind, ⟨k1, k2⟩, n, v⟩ := c
  obtain rfl : kind = 2 := hk
  show Calls Tryz.prog 10 #[.pointer (some ⟨L.s, 0, none⟩), .agg #[.int .i64 on, .int .i64 2, .int .i64 k1, .int .i64 k2, .int .i64 n, .string v]] w (AskPost w L N st ⟨on, 2, (k1, k2), n, v⟩)
  have hsz := fun b (hb : Foot L b) => h.foot_lt hb
  have n1 := Blk.new w 35 [.int .i64 on, .int .i64 2, .int .i64 k1, .int .i64 k2, .int .i64 n, .string v]
  have n2 := Blk.new (w.alloc (.cells #[.int .i64 on, .int .i64 2, .int .i64 k1, .int .i64 k2, .int .i64 n, .string v] 35)) 37 [.string ⟨#[]⟩, .int .i64 0, .bool false]
  simp only [World.size_alloc] at n2
  obtain ⟨wo, hwo⟩ : ∃ wo, (w.alloc (.cells #[.int .i64 on, .int .i64 2, .int .i64 k1, .int .i64 k2, .int .i64 n, .string v] 35)).alloc (.cells #[.string ⟨#[]⟩, .int .i64 0, .bool false] 37) = wo := ⟨_, rfl⟩
  have hnew : New w wo := by rw [← hwo]; exact ((Mod.refl _ w).alloc _).alloc _
  have hst0 := h.new_ hnew
  have HR := Lib.hid (show Blk wo (w.heap.size + 1) 37 [.string ⟨#[]⟩, .int .i64 0, .bool false] from by rw [← hwo]; exact n2)
  have HWO := Lib.hid hwo
  have hrf : ¬ Foot L (w.heap.size + 1) := fun hb => by have := hsz _ hb; omega
  have HRF := Lib.hid hrf
  have HNEW := Lib.hid hnew
  have hrl : w.heap.size + 1 < wo.heap.size := by rw [← hwo]; simp
  have hwf := hc.2
  have hkw := hc.1
  have HC := Lib.hid (storeLast_any L N st (k1, k2) wo hst0 hkw)
  unfold ansL at HC
  have HP0 := Lib.hid (show ∀ w' x1 x2 x3, endV (rowOf st.rows (k1, k2)) = (x1, x2, x3) → Step w L (N + 1) st w' → AskPost w L N st ⟨on, 2, (k1, k2), n, v⟩ (.returned (.agg #[.string x1, .int .i64 x2, .bool x3])) w' from fun w' x1 x2 x3 hx hs => ⟨by simp [answer, saidVal, hx], hs⟩)
  obtain ⟨⟨x1, x2, x3⟩, hx⟩ : ∃ x, endV (rowOf st.rows (k1, k2)) = x := ⟨_, rfl⟩
  rw [hx] at HC
  have HP := Lib.hid (fun w' hs => HP0.out w' x1 x2 x3 hx hs)
  have HST := Lib.hid hst0
  clear hc h hf hg hst0 hkw hwf hnew hx HP0
  clear hwo n1 n2 hrf
  go_enter Tryz.func10, Tryz.ntmps10
  go_wp2_with fail
  rw [HWO.out]
  refine HC.out.mono ?_
  rintro e w1 ⟨rfl, hw1⟩
  have HB := Lib.hid (HR.out.new_ hw1)
  have hs1 := StepR.of HNEW.out ((Step.same HST.out hw1).mono (N' := N + 1) (by omega) hN) hrl HRF.out
  have hb := HB.out
  have r0 := hb.cell 0
  have r1 := hb.cell 1
  have r2 := hb.cell 2
  have q0 := hb.frozen 0
  have q1 := hb.frozen 1
  have q2 := hb.frozen 2
  simp only [List.getElem?_cons_zero, List.getElem?_cons_succ] at r0 r1 r2
  have hrl2 : w.heap.size + 1 < w1.heap.size := hb.lt
  have HFIN := Lib.hid (HP.out _ (((hs1.set_ (by omega) 0 (.string x1)).set_ (by omega) 1 (.int .i64 x2)).set_ (by omega) 2 (.bool x3)).step)
  clear hb
  go_wp2
  refine bodyPost_ret (v := .agg #[.string x1, .int .i64 x2, .bool x3]) (by simp [results, Tryz.results10, go_sem, *]) rfl ?_
  exact HFIN.out

set_option maxRecDepth 100000 in
set_option maxHeartbeats 2000000 in
theorem ask4 (L : Lay) (N : Nat) (st : StS) (c : CallV) (w : World) (h : StoreAt w L N st) (hc : CallOk c) (hN : N + 1 ≤ 1048576) (hg : ErrVar w) (hf : ¬ Foot L 0) (hk : c.kind = 4) :
    Calls Tryz.prog 10 #[.pointer (some ⟨L.s, 0, none⟩), .agg (encCall c).toArray] w (AskPost w L N st c) := by
  obtain ⟨on, kind, ⟨k1, k2⟩, n, v⟩ := c
  obtain rfl : kind = 4 := hk
  show Calls Tryz.prog 10 #[.pointer (some ⟨L.s, 0, none⟩), .agg #[.int .i64 on, .int .i64 4, .int .i64 k1, .int .i64 k2, .int .i64 n, .string v]] w (AskPost w L N st ⟨on, 4, (k1, k2), n, v⟩)
  have hsz := fun b (hb : Foot L b) => h.foot_lt hb
  have n1 := Blk.new w 35 [.int .i64 on, .int .i64 4, .int .i64 k1, .int .i64 k2, .int .i64 n, .string v]
  have n2 := Blk.new (w.alloc (.cells #[.int .i64 on, .int .i64 4, .int .i64 k1, .int .i64 k2, .int .i64 n, .string v] 35)) 37 [.string ⟨#[]⟩, .int .i64 0, .bool false]
  simp only [World.size_alloc] at n2
  obtain ⟨wo, hwo⟩ : ∃ wo, (w.alloc (.cells #[.int .i64 on, .int .i64 4, .int .i64 k1, .int .i64 k2, .int .i64 n, .string v] 35)).alloc (.cells #[.string ⟨#[]⟩, .int .i64 0, .bool false] 37) = wo := ⟨_, rfl⟩
  have hnew : New w wo := by rw [← hwo]; exact ((Mod.refl _ w).alloc _).alloc _
  have hst0 := h.new_ hnew
  have HR := Lib.hid (show Blk wo (w.heap.size + 1) 37 [.string ⟨#[]⟩, .int .i64 0, .bool false] from by rw [← hwo]; exact n2)
  have HWO := Lib.hid hwo
  have hrf : ¬ Foot L (w.heap.size + 1) := fun hb => by have := hsz _ hb; omega
  have HRF := Lib.hid hrf
  have HNEW := Lib.hid hnew
  have hrl : w.heap.size + 1 < wo.heap.size := by rw [← hwo]; simp
  have hwf := hc.2
  have hkw := hc.1
  have HC := Lib.hid (storeOpen_any L N st n wo hst0 hN)
  unfold OpenPost at HC
  have HP := Lib.hid (show ∀ w', Step w L (N + 1) (stOpen st n) w' → AskPost w L N st ⟨on, 4, (k1, k2), n, v⟩ (.returned (.agg #[.string ⟨#[]⟩, .int .i64 ((st.readers.length : Int) + 1), .bool false])) w' from fun w' hs => ⟨by simp [answer, saidVal, emptyB], hs⟩)
  generalize (st.readers.length : Int) + 1 = ans at *
  clear hc h hf hg hst0 hkw hwf hnew
  clear hwo n1 n2 hrf
  go_enter Tryz.func10, Tryz.ntmps10
  go_wp2_with fail
  rw [HWO.out]
  refine HC.out.mono ?_
  rintro e w1 ⟨rfl, hst⟩
  have HB := Lib.hid (hst.blk HR.out HRF.out)
  have hs1 := StepR.of HNEW.out hst hrl HRF.out
  have HST := Lib.hid hst
  clear hst
  have hb := HB.out
  have r0 := hb.cell 0
  have r1 := hb.cell 1
  have r2 := hb.cell 2
  have q0 := hb.frozen 0
  have q1 := hb.frozen 1
  have q2 := hb.frozen 2
  simp only [List.getElem?_cons_zero, List.getElem?_cons_succ] at r0 r1 r2
  have hrl2 : w.heap.size + 1 < w1.heap.size := hb.lt
  have HFIN := Lib.hid (HP.out _ (((hs1.set_ (by omega) 0 (.string ⟨#[]⟩)).set_ (by omega) 1 (.int .i64 ans)).set_ (by omega) 2 (.bool false)).step)
  clear hb
  go_wp2
  refine bodyPost_ret (v := .agg #[.string ⟨#[]⟩, .int .i64 ans, .bool false]) (by simp [results, Tryz.results10, go_sem, *]) rfl ?_
  exact HFIN.out

set_option maxRecDepth 100000 in
set_option maxHeartbeats 2000000 in
theorem ask5 (L : Lay) (N : Nat) (st : StS) (c : CallV) (w : World) (h : StoreAt w L N st) (hc : CallOk c) (hN : N + 1 ≤ 1048576) (hg : ErrVar w) (hf : ¬ Foot L 0) (hk : c.kind = 5) :
    Calls Tryz.prog 10 #[.pointer (some ⟨L.s, 0, none⟩), .agg (encCall c).toArray] w (AskPost w L N st c) := by
  obtain ⟨on, kind, ⟨k1, k2⟩, n, v⟩ := c
  obtain rfl : kind = 5 := hk
  show Calls Tryz.prog 10 #[.pointer (some ⟨L.s, 0, none⟩), .agg #[.int .i64 on, .int .i64 5, .int .i64 k1, .int .i64 k2, .int .i64 n, .string v]] w (AskPost w L N st ⟨on, 5, (k1, k2), n, v⟩)
  have hsz := fun b (hb : Foot L b) => h.foot_lt hb
  have n1 := Blk.new w 35 [.int .i64 on, .int .i64 5, .int .i64 k1, .int .i64 k2, .int .i64 n, .string v]
  have n2 := Blk.new (w.alloc (.cells #[.int .i64 on, .int .i64 5, .int .i64 k1, .int .i64 k2, .int .i64 n, .string v] 35)) 37 [.string ⟨#[]⟩, .int .i64 0, .bool false]
  simp only [World.size_alloc] at n2
  obtain ⟨wo, hwo⟩ : ∃ wo, (w.alloc (.cells #[.int .i64 on, .int .i64 5, .int .i64 k1, .int .i64 k2, .int .i64 n, .string v] 35)).alloc (.cells #[.string ⟨#[]⟩, .int .i64 0, .bool false] 37) = wo := ⟨_, rfl⟩
  have hnew : New w wo := by rw [← hwo]; exact ((Mod.refl _ w).alloc _).alloc _
  have hst0 := h.new_ hnew
  have HR := Lib.hid (show Blk wo (w.heap.size + 1) 37 [.string ⟨#[]⟩, .int .i64 0, .bool false] from by rw [← hwo]; exact n2)
  have HWO := Lib.hid hwo
  have hrf : ¬ Foot L (w.heap.size + 1) := fun hb => by have := hsz _ hb; omega
  have HRF := Lib.hid hrf
  have HNEW := Lib.hid hnew
  have hrl : w.heap.size + 1 < wo.heap.size := by rw [← hwo]; simp
  have hwf := hc.2
  have hkw := hc.1
  have HC := Lib.hid (storeClose_any L N st n wo hst0 hwf)
  unfold ClosePost at HC
  have HP := Lib.hid (show ∀ w', Step w L (N + 1) (stClose st n) w' → AskPost w L N st ⟨on, 5, (k1, k2), n, v⟩ (.returned (.agg #[.string ⟨#[]⟩, .int .i64 0, .bool (closes st n)])) w' from fun w' hs => ⟨by simp [answer, saidVal, emptyB], hs⟩)
  generalize closes st n = ans at *
  clear hc h hf hg hst0 hkw hwf hnew
  clear hwo n1 n2 hrf
  go_enter Tryz.func10, Tryz.ntmps10
  go_wp2_with fail
  rw [HWO.out]
  refine HC.out.mono ?_
  rintro e w1 ⟨rfl, hst⟩
  have HB := Lib.hid (hst.blk HR.out HRF.out)
  have hs1 := StepR.of HNEW.out (hst.mono (N' := N + 1) (by omega) hN) hrl HRF.out
  have HST := Lib.hid hst
  clear hst
  have hb := HB.out
  have r0 := hb.cell 0
  have r1 := hb.cell 1
  have r2 := hb.cell 2
  have q0 := hb.frozen 0
  have q1 := hb.frozen 1
  have q2 := hb.frozen 2
  simp only [List.getElem?_cons_zero, List.getElem?_cons_succ] at r0 r1 r2
  have hrl2 : w.heap.size + 1 < w1.heap.size := hb.lt
  have HFIN := Lib.hid (HP.out _ (((hs1.set_ (by omega) 0 (.string ⟨#[]⟩)).set_ (by omega) 1 (.int .i64 0)).set_ (by omega) 2 (.bool ans)).step)
  clear hb
  go_wp2
  refine bodyPost_ret (v := .agg #[.string ⟨#[]⟩, .int .i64 0, .bool ans]) (by simp [results, Tryz.results10, go_sem, *]) rfl ?_
  exact HFIN.out

set_option maxRecDepth 100000 in
set_option maxHeartbeats 2000000 in
theorem ask7 (L : Lay) (N : Nat) (st : StS) (c : CallV) (w : World) (h : StoreAt w L N st) (hc : CallOk c) (hN : N + 1 ≤ 1048576) (hg : ErrVar w) (hf : ¬ Foot L 0) (hk : c.kind = 7) :
    Calls Tryz.prog 10 #[.pointer (some ⟨L.s, 0, none⟩), .agg (encCall c).toArray] w (AskPost w L N st c) := by
  obtain ⟨on, kind, ⟨k1, k2⟩, n, v⟩ := c
  obtain rfl : kind = 7 := hk
  show Calls Tryz.prog 10 #[.pointer (some ⟨L.s, 0, none⟩), .agg #[.int .i64 on, .int .i64 7, .int .i64 k1, .int .i64 k2, .int .i64 n, .string v]] w (AskPost w L N st ⟨on, 7, (k1, k2), n, v⟩)
  have hsz := fun b (hb : Foot L b) => h.foot_lt hb
  have n1 := Blk.new w 35 [.int .i64 on, .int .i64 7, .int .i64 k1, .int .i64 k2, .int .i64 n, .string v]
  have n2 := Blk.new (w.alloc (.cells #[.int .i64 on, .int .i64 7, .int .i64 k1, .int .i64 k2, .int .i64 n, .string v] 35)) 37 [.string ⟨#[]⟩, .int .i64 0, .bool false]
  simp only [World.size_alloc] at n2
  obtain ⟨wo, hwo⟩ : ∃ wo, (w.alloc (.cells #[.int .i64 on, .int .i64 7, .int .i64 k1, .int .i64 k2, .int .i64 n, .string v] 35)).alloc (.cells #[.string ⟨#[]⟩, .int .i64 0, .bool false] 37) = wo := ⟨_, rfl⟩
  have hnew : New w wo := by rw [← hwo]; exact ((Mod.refl _ w).alloc _).alloc _
  have hst0 := h.new_ hnew
  have HR := Lib.hid (show Blk wo (w.heap.size + 1) 37 [.string ⟨#[]⟩, .int .i64 0, .bool false] from by rw [← hwo]; exact n2)
  have HWO := Lib.hid hwo
  have hrf : ¬ Foot L (w.heap.size + 1) := fun hb => by have := hsz _ hb; omega
  have HRF := Lib.hid hrf
  have HNEW := Lib.hid hnew
  have hrl : w.heap.size + 1 < wo.heap.size := by rw [← hwo]; simp
  have hwf := hc.2
  have hkw := hc.1
  have HC := Lib.hid (storePrune_any L N st (k1, k2) n wo hst0 hkw)
  unfold SPrunePost at HC
  have HP := Lib.hid (show ∀ w', Step w L (N + 1) (stPrune st (k1, k2) n) w' → AskPost w L N st ⟨on, 7, (k1, k2), n, v⟩ (.returned (.agg #[.string ⟨#[]⟩, .int .i64 (goneV (rowOf st.rows (k1, k2)) (stOldest st n) : Int), .bool false])) w' from fun w' hs => ⟨by simp [answer, saidVal, emptyB], hs⟩)
  generalize (goneV (rowOf st.rows (k1, k2)) (stOldest st n) : Int) = ans at *
  clear hc h hf hg hst0 hkw hwf hnew
  clear hwo n1 n2 hrf
  go_enter Tryz.func10, Tryz.ntmps10
  go_wp2_with fail
  rw [HWO.out]
  refine HC.out.mono ?_
  rintro e w1 ⟨rfl, hst⟩
  have HB := Lib.hid (hst.blk HR.out HRF.out)
  have hs1 := StepR.of HNEW.out (hst.mono (N' := N + 1) (by omega) hN) hrl HRF.out
  have HST := Lib.hid hst
  clear hst
  have hb := HB.out
  have r0 := hb.cell 0
  have r1 := hb.cell 1
  have r2 := hb.cell 2
  have q0 := hb.frozen 0
  have q1 := hb.frozen 1
  have q2 := hb.frozen 2
  simp only [List.getElem?_cons_zero, List.getElem?_cons_succ] at r0 r1 r2
  have hrl2 : w.heap.size + 1 < w1.heap.size := hb.lt
  have HFIN := Lib.hid (HP.out _ (((hs1.set_ (by omega) 0 (.string ⟨#[]⟩)).set_ (by omega) 1 (.int .i64 ans)).set_ (by omega) 2 (.bool false)).step)
  clear hb
  go_wp2
  refine bodyPost_ret (v := .agg #[.string ⟨#[]⟩, .int .i64 ans, .bool false]) (by simp [results, Tryz.results10, go_sem, *]) rfl ?_
  exact HFIN.out

set_option maxRecDepth 100000 in
set_option maxHeartbeats 2000000 in
theorem ask6 (L : Lay) (N : Nat) (st : StS) (c : CallV) (w : World) (h : StoreAt w L N st) (hc : CallOk c) (hN : N + 1 ≤ 1048576) (hg : ErrVar w) (hf : ¬ Foot L 0) (hk : c.kind = 6) :
    Calls Tryz.prog 10 #[.pointer (some ⟨L.s, 0, none⟩), .agg (encCall c).toArray] w (AskPost w L N st c) := by
  obtain ⟨on, kind, ⟨k1, k2⟩, n, v⟩ := c
  obtain rfl : kind = 6 := hk
  show Calls Tryz.prog 10 #[.pointer (some ⟨L.s, 0, none⟩), .agg #[.int .i64 on, .int .i64 6, .int .i64 k1, .int .i64 k2, .int .i64 n, .string v]] w (AskPost w L N st ⟨on, 6, (k1, k2), n, v⟩)
  have hsz := fun b (hb : Foot L b) => h.foot_lt hb
  have n1 := Blk.new w 35 [.int .i64 on, .int .i64 6, .int .i64 k1, .int .i64 k2, .int .i64 n, .string v]
  have n2 := Blk.new (w.alloc (.cells #[.int .i64 on, .int .i64 6, .int .i64 k1, .int .i64 k2, .int .i64 n, .string v] 35)) 37 [.string ⟨#[]⟩, .int .i64 0, .bool false]
  simp only [World.size_alloc] at n2
  obtain ⟨wo, hwo⟩ : ∃ wo, (w.alloc (.cells #[.int .i64 on, .int .i64 6, .int .i64 k1, .int .i64 k2, .int .i64 n, .string v] 35)).alloc (.cells #[.string ⟨#[]⟩, .int .i64 0, .bool false] 37) = wo := ⟨_, rfl⟩
  have hnew : New w wo := by rw [← hwo]; exact ((Mod.refl _ w).alloc _).alloc _
  have hst0 := h.new_ hnew
  have HR := Lib.hid (show Blk wo (w.heap.size + 1) 37 [.string ⟨#[]⟩, .int .i64 0, .bool false] from by rw [← hwo]; exact n2)
  have HWO := Lib.hid hwo
  have hrf : ¬ Foot L (w.heap.size + 1) := fun hb => by have := hsz _ hb; omega
  have HRF := Lib.hid hrf
  have HNEW := Lib.hid hnew
  have hrl : w.heap.size + 1 < wo.heap.size := by rw [← hwo]; simp
  have hwf := hc.2
  have hkw := hc.1
  have HC := Lib.hid (storeOldest_any L N st n wo hst0)
  have HP := Lib.hid (show ∀ w', Step w L (N + 1) st w' → AskPost w L N st ⟨on, 6, (k1, k2), n, v⟩ (.returned (.agg #[.string ⟨#[]⟩, .int .i64 (stOldest st n), .bool false])) w' from fun w' hs => ⟨by simp [answer, saidVal, emptyB], hs⟩)
  generalize stOldest st n = ans at *
  have HST := Lib.hid hst0
  clear hc h hf hg hst0 hkw hwf hnew
  clear hwo n1 n2 hrf
  go_enter Tryz.func10, Tryz.ntmps10
  go_wp2_with fail
  rw [HWO.out]
  refine HC.out.mono ?_
  rintro e w1 ⟨rfl, hw1⟩
  have HB := Lib.hid (HR.out.new_ hw1)
  have hs1 := StepR.of HNEW.out ((Step.same HST.out hw1).mono (N' := N + 1) (by omega) hN) hrl HRF.out
  have hb := HB.out
  have r0 := hb.cell 0
  have r1 := hb.cell 1
  have r2 := hb.cell 2
  have q0 := hb.frozen 0
  have q1 := hb.frozen 1
  have q2 := hb.frozen 2
  simp only [List.getElem?_cons_zero, List.getElem?_cons_succ] at r0 r1 r2
  have hrl2 : w.heap.size + 1 < w1.heap.size := hb.lt
  have HFIN := Lib.hid (HP.out _ (((hs1.set_ (by omega) 0 (.string ⟨#[]⟩)).set_ (by omega) 1 (.int .i64 ans)).set_ (by omega) 2 (.bool false)).step)
  clear hb
  go_wp2
  refine bodyPost_ret (v := .agg #[.string ⟨#[]⟩, .int .i64 ans, .bool false]) (by simp [results, Tryz.results10, go_sem, *]) rfl ?_
  exact HFIN.out

set_option maxRecDepth 100000 in
set_option maxHeartbeats 2000000 in
theorem ask8 (L : Lay) (N : Nat) (st : StS) (c : CallV) (w : World) (h : StoreAt w L N st) (hc : CallOk c) (hN : N + 1 ≤ 1048576) (hg : ErrVar w) (hf : ¬ Foot L 0) (hk : c.kind = 8) :
    Calls Tryz.prog 10 #[.pointer (some ⟨L.s, 0, none⟩), .agg (encCall c).toArray] w (AskPost w L N st c) := by
  obtain ⟨on, kind, ⟨k1, k2⟩, n, v⟩ := c
  obtain rfl : kind = 8 := hk
  show Calls Tryz.prog 10 #[.pointer (some ⟨L.s, 0, none⟩), .agg #[.int .i64 on, .int .i64 8, .int .i64 k1, .int .i64 k2, .int .i64 n, .string v]] w (AskPost w L N st ⟨on, 8, (k1, k2), n, v⟩)
  have hsz := fun b (hb : Foot L b) => h.foot_lt hb
  have n1 := Blk.new w 35 [.int .i64 on, .int .i64 8, .int .i64 k1, .int .i64 k2, .int .i64 n, .string v]
  have n2 := Blk.new (w.alloc (.cells #[.int .i64 on, .int .i64 8, .int .i64 k1, .int .i64 k2, .int .i64 n, .string v] 35)) 37 [.string ⟨#[]⟩, .int .i64 0, .bool false]
  simp only [World.size_alloc] at n2
  obtain ⟨wo, hwo⟩ : ∃ wo, (w.alloc (.cells #[.int .i64 on, .int .i64 8, .int .i64 k1, .int .i64 k2, .int .i64 n, .string v] 35)).alloc (.cells #[.string ⟨#[]⟩, .int .i64 0, .bool false] 37) = wo := ⟨_, rfl⟩
  have hnew : New w wo := by rw [← hwo]; exact ((Mod.refl _ w).alloc _).alloc _
  have hst0 := h.new_ hnew
  have HR := Lib.hid (show Blk wo (w.heap.size + 1) 37 [.string ⟨#[]⟩, .int .i64 0, .bool false] from by rw [← hwo]; exact n2)
  have HWO := Lib.hid hwo
  have hrf : ¬ Foot L (w.heap.size + 1) := fun hb => by have := hsz _ hb; omega
  have HRF := Lib.hid hrf
  have HNEW := Lib.hid hnew
  have hrl : w.heap.size + 1 < wo.heap.size := by rw [← hwo]; simp
  have hwf := hc.2
  have hkw := hc.1
  have HC := Lib.hid (storeVersions_any L N st wo hst0)
  have HP := Lib.hid (show ∀ w', Step w L (N + 1) st w' → AskPost w L N st ⟨on, 8, (k1, k2), n, v⟩ (.returned (.agg #[.string ⟨#[]⟩, .int .i64 ((stVersions st : Int)), .bool false])) w' from fun w' hs => ⟨by simp [answer, saidVal, emptyB], hs⟩)
  generalize (stVersions st : Int) = ans at *
  have HST := Lib.hid hst0
  clear hc h hf hg hst0 hkw hwf hnew
  clear hwo n1 n2 hrf
  go_enter Tryz.func10, Tryz.ntmps10
  go_wp2_with fail
  rw [HWO.out]
  refine HC.out.mono ?_
  rintro e w1 ⟨rfl, hw1⟩
  have HB := Lib.hid (HR.out.new_ hw1)
  have hs1 := StepR.of HNEW.out ((Step.same HST.out hw1).mono (N' := N + 1) (by omega) hN) hrl HRF.out
  have hb := HB.out
  have r0 := hb.cell 0
  have r1 := hb.cell 1
  have r2 := hb.cell 2
  have q0 := hb.frozen 0
  have q1 := hb.frozen 1
  have q2 := hb.frozen 2
  simp only [List.getElem?_cons_zero, List.getElem?_cons_succ] at r0 r1 r2
  have hrl2 : w.heap.size + 1 < w1.heap.size := hb.lt
  have HFIN := Lib.hid (HP.out _ (((hs1.set_ (by omega) 0 (.string ⟨#[]⟩)).set_ (by omega) 1 (.int .i64 ans)).set_ (by omega) 2 (.bool false)).step)
  clear hb
  go_wp2
  refine bodyPost_ret (v := .agg #[.string ⟨#[]⟩, .int .i64 ans, .bool false]) (by simp [results, Tryz.results10, go_sem, *]) rfl ?_
  exact HFIN.out

set_option maxRecDepth 100000 in
set_option maxHeartbeats 2000000 in
theorem askE (L : Lay) (N : Nat) (st : StS) (c : CallV) (w : World) (h : StoreAt w L N st) (hc : CallOk c) (hN : N + 1 ≤ 1048576) (hg : ErrVar w) (hf : ¬ Foot L 0) (h0 : c.kind ≠ 0) (h1 : c.kind ≠ 1) (h2 : c.kind ≠ 2) (h4 : c.kind ≠ 4) (h5 : c.kind ≠ 5) (h6 : c.kind ≠ 6) (h7 : c.kind ≠ 7) (h8 : c.kind ≠ 8) :
    Calls Tryz.prog 10 #[.pointer (some ⟨L.s, 0, none⟩), .agg (encCall c).toArray] w (AskPost w L N st c) := by
  obtain ⟨on, kind, ⟨k1, k2⟩, n, v⟩ := c
  simp only at h0 h1 h2 h4 h5 h6 h7 h8
  show Calls Tryz.prog 10 #[.pointer (some ⟨L.s, 0, none⟩), .agg #[.int .i64 on, .int .i64 kind, .int .i64 k1, .int .i64 k2, .int .i64 n, .string v]] w (AskPost w L N st ⟨on, kind, (k1, k2), n, v⟩)
  have hsz := fun b (hb : Foot L b) => h.foot_lt hb
  have n1 := Blk.new w 35 [.int .i64 on, .int .i64 kind, .int .i64 k1, .int .i64 k2, .int .i64 n, .string v]
  have n2 := Blk.new (w.alloc (.cells #[.int .i64 on, .int .i64 kind, .int .i64 k1, .int .i64 k2, .int .i64 n, .string v] 35)) 37 [.string ⟨#[]⟩, .int .i64 0, .bool false]
  simp only [World.size_alloc] at n2
  obtain ⟨wo, hwo⟩ : ∃ wo, (w.alloc (.cells #[.int .i64 on, .int .i64 kind, .int .i64 k1, .int .i64 k2, .int .i64 n, .string v] 35)).alloc (.cells #[.string ⟨#[]⟩, .int .i64 0, .bool false] 37) = wo := ⟨_, rfl⟩
  have hnew : New w wo := by rw [← hwo]; exact ((Mod.refl _ w).alloc _).alloc _
  have hst0 := h.new_ hnew
  have HR := Lib.hid (show Blk wo (w.heap.size + 1) 37 [.string ⟨#[]⟩, .int .i64 0, .bool false] from by rw [← hwo]; exact n2)
  have HWO := Lib.hid hwo
  have hrf : ¬ Foot L (w.heap.size + 1) := fun hb => by have := hsz _ hb; omega
  have HRF := Lib.hid hrf
  have HNEW := Lib.hid hnew
  have hrl : w.heap.size + 1 < wo.heap.size := by rw [← hwo]; simp
  have hwf := hc.2
  have hkw := hc.1
  have t0 : ((kind : Int) == 0) = false := by simpa using h0
  have t1 : ((kind : Int) == 1) = false := by simpa using h1
  have t2 : ((kind : Int) == 2) = false := by simpa using h2
  have t4 : ((kind : Int) == 4) = false := by simpa using h4
  have t5 : ((kind : Int) == 5) = false := by simpa using h5
  have t6 : ((kind : Int) == 6) = false := by simpa using h6
  have t7 : ((kind : Int) == 7) = false := by simpa using h7
  have t8 : ((kind : Int) == 8) = false := by simpa using h8
  have HC := Lib.hid (storeShards_any L N st wo hst0)
  have HP := Lib.hid (show ∀ w', Step w L (N + 1) st w' → AskPost w L N st ⟨on, kind, (k1, k2), n, v⟩ (.returned (.agg #[.string ⟨#[]⟩, .int .i64 (L.bs.length : Int), .bool false])) w' from fun w' hs => ⟨by simp [answer, saidVal, emptyB, h0, h1, h2, h4, h5, h6, h7, h8], by simpa [after, h0, h1, h2, h4, h5, h6, h7, h8] using hs⟩)
  generalize (L.bs.length : Int) = ans at *
  have HST := Lib.hid hst0
  clear hc h hf hg hst0 hkw hwf hnew h0 h1 h2 h4 h5 h6 h7 h8
  clear hwo n1 n2 hrf
  go_enter Tryz.func10, Tryz.ntmps10
  go_wp2_with fail
  rw [HWO.out]
  refine HC.out.mono ?_
  rintro e w1 ⟨rfl, hw1⟩
  have HB := Lib.hid (HR.out.new_ hw1)
  have hs1 := StepR.of HNEW.out ((Step.same HST.out hw1).mono (N' := N + 1) (by omega) hN) hrl HRF.out
  have hb := HB.out
  have r0 := hb.cell 0
  have r1 := hb.cell 1
  have r2 := hb.cell 2
  have q0 := hb.frozen 0
  have q1 := hb.frozen 1
  have q2 := hb.frozen 2
  simp only [List.getElem?_cons_zero, List.getElem?_cons_succ] at r0 r1 r2
  have hrl2 : w.heap.size + 1 < w1.heap.size := hb.lt
  have HFIN := Lib.hid (HP.out _ (((hs1.set_ (by omega) 0 (.string ⟨#[]⟩)).set_ (by omega) 1 (.int .i64 ans)).set_ (by omega) 2 (.bool false)).step)
  clear hb
  go_wp2
  refine bodyPost_ret (v := .agg #[.string ⟨#[]⟩, .int .i64 ans, .bool false]) (by simp [results, Tryz.results10, go_sem, *]) rfl ?_
  exact HFIN.out

theorem ask_any (L : Lay) (N : Nat) (st : StS) (c : CallV) (w : World) (h : StoreAt w L N st) (hc : CallOk c) (hN : N + 1 ≤ 1048576) (hg : ErrVar w) (hf : ¬ Foot L 0) :
    Calls Tryz.prog 10 #[.pointer (some ⟨L.s, 0, none⟩), .agg (encCall c).toArray] w (AskPost w L N st c) := by
  by_cases h0 : c.kind = 0
  · exact ask0 L N st c w h hc hN hg hf h0
  by_cases h1 : c.kind = 1
  · exact ask1 L N st c w h hc hN hg hf h1
  by_cases h2 : c.kind = 2
  · exact ask2 L N st c w h hc hN hg hf h2
  by_cases h4 : c.kind = 4
  · exact ask4 L N st c w h hc hN hg hf h4
  by_cases h5 : c.kind = 5
  · exact ask5 L N st c w h hc hN hg hf h5
  by_cases h6 : c.kind = 6
  · exact ask6 L N st c w h hc hN hg hf h6
  by_cases h7 : c.kind = 7
  · exact ask7 L N st c w h hc hN hg hf h7
  by_cases h8 : c.kind = 8
  · exact ask8 L N st c w h hc hN hg hf h8
  exact askE L N st c w h hc hN hg hf h0 h1 h2 h4 h5 h6 h7 h8
end Go.Proofs.YtfifalopbfopnaaGreatDoor
