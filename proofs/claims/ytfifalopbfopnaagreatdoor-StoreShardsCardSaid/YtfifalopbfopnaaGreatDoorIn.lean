/- Walks: the store (numbers): Open, Close. -/
import Derived.Test.YtfifalopbfopnaaGreatDoorIm
set_option linter.unusedVariables false
set_option linter.unusedSimpArgs false
namespace Go.Proofs.YtfifalopbfopnaaGreatDoor.I
open Go.RowKit Go.Maps

theorem readM_open (rs : List (Int × Bool)) (n : Int) : readM (rs ++ [(n, false)]) = updO (readM rs) ((rs.length : Int) + 1) (some (.int .i64 n)) := by
  funext r
  unfold updO
  split
  · rename_i h
    subst h
    have := readM_of (rs := rs ++ [(n, false)]) (i := rs.length) (x := (n, false)) (by simp) rfl
    exact this
  · rename_i h
    unfold readM
    split
    · by_cases hl : (r - 1).toNat < rs.length
      · rw [List.getElem?_append_left hl]
      · rw [List.getElem?_eq_none (l := rs) (by omega), List.getElem?_eq_none (by simp; omega)]
    · rfl
theorem closes_iff {α : Type} (s : St α) (r : Int) : closes s r = (readM s.readers r).isSome := by
  unfold closes readM
  by_cases h : 1 ≤ r
  · rw [if_pos h]
    cases hx : s.readers[(r - 1).toNat]? with
    | none => simp
    | some x =>
      simp only [h, decide_true, Bool.true_and]
      cases x.2 <;> rfl
  · rw [if_neg h]; simp [h]
theorem readM_close {α : Type} (s : St α) (r : Int) : readM (stClose s r).readers = updO (readM s.readers) r none := by
  funext q
  have hc := closes_iff s r
  unfold stClose
  cases hcl : closes s r with
  | false =>
    rw [hcl] at hc
    simp only [Bool.false_eq_true, if_false]
    unfold updO
    split
    · rename_i h; subst h
      cases hq : readM s.readers q with
      | none => rfl
      | some v => rw [hq] at hc; cases hc
    · rfl
  | true =>
    rw [hcl] at hc
    simp only [if_true]
    cases hr : readM s.readers r with
    | none => rw [hr] at hc; cases hc
    | some v =>
      obtain ⟨i, x, rfl, hi, hx, rfl⟩ := readM_at hr
      have hi1 : ((i : Int) + 1 - 1).toNat = i := by omega
      rw [hi1]
      unfold updO readM
      by_cases hq : 1 ≤ q
      · rw [if_pos hq, if_pos hq]
        by_cases e : q = (i : Int) + 1
        · subst e
          rw [hi1, if_pos rfl]
          simp [List.getElem?_modify, hi]
        · rw [if_neg e, List.getElem?_modify]
          have e2 : i ≠ (q - 1).toNat := by omega
          simp only [if_neg e2]
          cases s.readers[(q - 1).toNat]? <;> rfl
      · rw [if_neg hq, if_neg hq]
        split <;> rfl
theorem stClose_length {α : Type} (s : St α) (r : Int) : (stClose s r).readers.length = s.readers.length ∧ (stClose s r).rows = s.rows := by
  unfold stClose
  split <;> simp

/-- A store whose readers have changed. -/
theorem StoreAt.upd_readers {w w' : World} {L : Lay} {N N' : Nat} {st : StS} {rs : List (Int × Bool)} (h : StoreAt w L N st) (hm : Mod (fun b => b = L.s ∨ b = L.rb) w w')
    (hb : Blk w' L.s 87 [.slice (some ⟨L.g, 0, none⟩) L.bs.length L.bs.length, .map (some L.rb), .int .i64 (rs.length : Int)]) (hr : MapO 3 numVal w' L.rb N' (readM rs)) (hN : N ≤ N') (hl : rs.length ≤ N') (hN' : N' ≤ 1048576) :
    Step w L N' { st with readers := rs } w' := by
  have hch : ∀ (i : Nat) (q : Nat × Value) (x : Nat), L.cs[i]? = some q → ChainF q.1 q.2 x → ¬ (x = L.s ∨ x = L.rb) := fun i q x hq hx e => by
    have hi : i < st.rows.length := by rw [← h.chains.len]; exact (List.getElem?_eq_some_iff.1 hq).1
    have hc := h.chains.at_ i q _ hq (List.getElem?_eq_getElem hi)
    rcases e with rfl | rfl
    · exact hc.ne_blk h.blk (by decide) (by decide) hx
    · exact hc.ne_map h.rmap hx
  refine ⟨L, rfl, rfl, ?_, Mod.mono hm (fun b _ hb => by rcases hb with hb | hb; exact .inl hb; exact .inr (.inr (.inr (.inl hb)))), fun b hb => .inl hb⟩
  exact {
    blk := hb
    gblk := h.gblk.kept hm (fun e => by
      rcases e with e | e
      · exact h.gblk.ne_ h.blk (by decide) e
      · exact h.rmap.not_blk h.gblk e)
    m1 := h.m1
    maps := fun i b hi => ((h.maps i b hi).mod hm (fun e => by
      rcases e with e | e
      · exact (h.maps i b hi).not_blk h.blk e.symm
      · exact h.rbs (by rw [← e]; exact List.mem_of_getElem? hi))).mono hN
    bnodup := h.bnodup
    rmap := hr
    rbs := h.rbs
    chains := h.chains.mod hm (fun j p b hp hb => hch j p b hp hb)
    ok := h.ok
    vers := fun x hx => Nat.le_trans (h.vers x hx) hN
    rowsN := Nat.le_trans h.rowsN hN
    readN := hl
    bigN := hN' }

theorem Tryz.zeroIntS (w : World) : (zeroValue 3).run Tryz.prog w = .ok (.int .i64 0) w := by kernel_rfl
/-- What Open leaves. -/
def OpenPost (w : World) (L : Lay) (N : Nat) (st : StS) (n : Int) (e : Ending) (w' : World) : Prop := e = .returned (.int .i64 ((st.readers.length : Int) + 1)) ∧ Step w L (N + 1) (stOpen st n) w'
set_option maxRecDepth 100000 in
set_option maxHeartbeats 1000000 in
theorem storeOpen_any (L : Lay) (N : Nat) (st : StS) (n : Int) (w : World) (h : StoreAt w L N st) (hN : N + 1 ≤ 1048576) :
    Calls Tryz.prog 59 #[.pointer (some ⟨L.s, 0, none⟩), .int .i64 n] w (OpenPost w L N st n) := by
  have c1 := h.blk.cell 1
  have c2 := h.blk.cell 2
  have f2 := h.blk.frozen 2
  simp only [List.getElem?_cons_zero, List.getElem?_cons_succ] at c1 c2
  have hle := h.readN
  have hsr : L.s ≠ L.rb := fun e => h.rmap.not_blk h.blk e
  obtain ⟨r, hr⟩ : ∃ r, st.readers.length = r := ⟨_, rfl⟩
  have HRL := Lib.hid hr
  rw [hr] at c2 hle
  have hk : keyOf Tryz.prog 3 (numVal ((r : Int) + 1)) = some (.int .i64 ((r : Int) + 1)) := Tryz.keyOfNum (WalkArith.wf_i64 (by omega))
  have hmm : MapO 3 numVal (w.setCell ⟨L.s, 2, none⟩ (.int .i64 ((r : Int) + 1))).drew L.rb N (readM st.readers) := (h.rmap.mod (mod_set w L.s 2 (.int .i64 ((r : Int) + 1))) (fun e => hsr e.symm)).mod (Mod.drew (Mod.refl (fun _ => False) _)) (fun h => h)
  obtain ⟨w3, hrun, hmap, hturn⟩ := hmm.store numVal_inj Tryz.keyedNum Tryz.underlying62 (by unfold maxLen; omega) ((r : Int) + 1) hk (.int .i64 n)
  dsimp only [numVal] at hrun
  have hm3 := mapTurned_mod hturn
  have hb3 : Blk w3 L.s 87 [.slice (some ⟨L.g, 0, none⟩) L.bs.length L.bs.length, .map (some L.rb), .int .i64 ((r : Int) + 1)] := by
    have h1 := h.blk.set_ 2 (.int .i64 ((r : Int) + 1))
    exact (h1.drew).kept hm3 hsr
  have HPOST := Lib.hid (show OpenPost w L N st n (.returned (.int .i64 ((r : Int) + 1))) w3 from ⟨by rw [HRL.out], by
    refine h.upd_readers (rs := st.readers ++ [(n, false)]) (Mod.trans (Mod.drew (Mod.mono (mod_set w L.s 2 (.int .i64 ((r : Int) + 1))) (fun _ _ h => .inl h))) hm3 (fun _ _ h => .inr h)) ?_ ?_ (by omega) (by simp; omega) hN
    · rw [show ((st.readers ++ [(n, false)]).length : Int) = (r : Int) + 1 from by simp [HRL.out]]
      exact hb3
    · rw [readM_open, HRL.out]
      exact hmap⟩)
  have d1 : (w.setCell ⟨L.s, 2, none⟩ (.int .i64 ((r : Int) + 1))).drew.cell? ⟨L.s, 1, none⟩ = some (.map (some L.rb)) := by
    have h1 := (h.blk.set_ 2 (.int .i64 ((r : Int) + 1))).drew.cell 1
    exact h1
  have e2 := hb3.cell 2
  simp only [List.getElem?_cons_zero, List.getElem?_cons_succ] at e2
  clear hr h hmm hmap hturn hm3 hb3 hk d1
  go_enter Tryz.func59, Tryz.ntmps59
  go_wp2
  go_region
  all_goals
    go_wp2
    go_ret
    exact HPOST.out

/-- What Close leaves. -/
def ClosePost (w : World) (L : Lay) (N : Nat) (st : StS) (r : Int) (e : Ending) (w' : World) : Prop := e = .returned (.bool (closes st r)) ∧ Step w L N (stClose st r) w'
set_option maxRecDepth 100000 in
set_option maxHeartbeats 1000000 in
theorem storeClose_any (L : Lay) (N : Nat) (st : StS) (r : Int) (w : World) (h : StoreAt w L N st) (hr : (Lit.int .i64 r).wf = true) :
    Calls Tryz.prog 60 #[.pointer (some ⟨L.s, 0, none⟩), .int .i64 r] w (ClosePost w L N st r) := by
  have c1 := h.blk.cell 1
  simp only [List.getElem?_cons_zero, List.getElem?_cons_succ] at c1
  have hk := Tryz.keyOfNum hr
  have HK := Lib.hid hk
  have hlook := h.rmap.look (z := .int .i64 0) Tryz.keyedNum Tryz.underlying62 (Tryz.zeroIntS w) r hk
  dsimp only [numVal] at hlook
  have hcl := closes_iff st r
  have HM := Lib.hid h.rmap
  have hpost : ∀ w', MapO 3 numVal w' L.rb N (updO (readM st.readers) r none) → w.mapTurned w' L.rb → Step w L N (stClose st r) w' := fun w' hmap hturn => by
    have hm := mapTurned_mod hturn
    obtain ⟨h1, h2⟩ := stClose_length st r
    have h3 := h.upd_readers (rs := (stClose st r).readers) (N' := N) (Mod.mono hm (fun _ _ h => .inr h)) ?_ ?_ (Nat.le_refl _) (by rw [h1]; exact h.readN) h.bigN
    · have e : ({ st with readers := (stClose st r).readers } : StS) = stClose st r := by
        rw [← h2]
      rwa [e] at h3
    · rw [h1]; exact h.blk.kept hm (h.rmap.not_blk h.blk)
    · rw [readM_close]; exact hmap
  have HPOST := Lib.hid hpost
  cases hM : readM st.readers r with
  | none =>
    rw [hM] at hlook hcl
    have HC := Lib.hid (show closes st r = false from hcl)
    clear hpost hcl hM hk h
    go_enter Tryz.func60, Tryz.ntmps60
    go_wp2_with ((with_reducible refine wpList_mapO_del numVal_inj rfl (.tmp 19) (.tmp 20) rfl Tryz.keyedNum Tryz.underlying62 rfl HM.out r rfl HK.out ?_); intro w3 hmap3 hturn3; have HP3 := Lib.hid (HPOST.out w3 hmap3 hturn3); clear hmap3 hturn3)
    go_ret
    exact ⟨by rw [HC.out]; rfl, HP3.out⟩
  | some v =>
    rw [hM] at hlook hcl
    have HC := Lib.hid (show closes st r = true from hcl)
    clear hpost hcl hM hk h
    go_enter Tryz.func60, Tryz.ntmps60
    go_wp2_with ((with_reducible refine wpList_mapO_del numVal_inj rfl (.tmp 19) (.tmp 20) rfl Tryz.keyedNum Tryz.underlying62 rfl HM.out r rfl HK.out ?_); intro w3 hmap3 hturn3; have HP3 := Lib.hid (HPOST.out w3 hmap3 hturn3); clear hmap3 hturn3)
    go_ret
    exact ⟨by rw [HC.out]; rfl, HP3.out⟩
end Go.Proofs.YtfifalopbfopnaaGreatDoor.I
