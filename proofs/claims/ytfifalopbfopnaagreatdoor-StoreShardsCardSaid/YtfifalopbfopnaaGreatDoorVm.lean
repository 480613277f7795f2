/- Walks: the store (texts): Last, Put, Prune's readers: Oldest. -/
import Derived.Test.YtfifalopbfopnaaGreatDoorVl
set_option linter.unusedVariables false
set_option linter.unusedSimpArgs false
namespace Go.Proofs.YtfifalopbfopnaaGreatDoor
open Go.RowKit Go.Maps

set_option maxRecDepth 100000 in
set_option maxHeartbeats 1000000 in
theorem storeLast_any (L : Lay) (N : Nat) (st : StS) (k : Key2) (w : World) (h : StoreAt w L N st) (hk : KeyWf k) :
    Calls Tryz.prog 26 #[.pointer (some ⟨L.s, 0, none⟩), .agg #[.int .i64 k.1, .int .i64 k.2]] w fun e w' => e = .returned (ansL (rowOf st.rows k)) ∧ New w w' := by
  obtain ⟨b, hb, _, _⟩ := h.shard k
  have HS := Lib.hid (fun W (hW : New w W) => storeShard_any L N st k b W (h.new_ hW) hb)
  have n1 := Blk.new w 33 [.int .i64 k.1, .int .i64 k.2]
  have d0 := n1.cell 0
  have d1 := n1.cell 1
  simp only [List.getElem?_cons_zero, List.getElem?_cons_succ] at d0 d1
  clear n1
  obtain ⟨wo, hwo⟩ : ∃ wo, w.alloc (.cells #[.int .i64 k.1, .int .i64 k.2] 33) = wo := ⟨_, rfl⟩
  have hnew : New w wo := by rw [← hwo]; exact (Mod.refl _ _).alloc _
  have HWO := Lib.hid hwo
  cases hj : rowIdx st.rows k with
  | none =>
    have HLK := Lib.hid (fun W (hW : New w W) => (h.new_ hW).lookNone hk hb hj)
    rw [rowOf_idx_none hj]
    obtain ⟨k1, k2⟩ := k
    clear hj hb h hwo
    go_enter Tryz.func26, Tryz.ntmps26
    go_wp2
    rw [HWO.out] at d0 d1 ⊢
    go_region_held3 (fun w' => (w'.cell? ⟨w.heap.size, 0, none⟩ = some (.int .i64 k1) ∧ w'.cell? ⟨w.heap.size, 1, none⟩ = some (.int .i64 k2)) ∧ New wo w') ((first | exact ⟨⟨‹_›, ‹_›⟩, (Mod.refl _ _).drew⟩ | (refine two_step' ?_ hw1; assumption) | assumption)) ((go_at_call 64; refine (HS.out _ (New.trans hnew (And.right (by assumption)))).mono ?_; rintro e w1 ⟨rfl, hw1⟩; have hlk := HLK.out w1 (New.trans (New.trans hnew (And.right (by assumption))) hw1)))
    all_goals
      go_wp2
      go_ret3
      exact ⟨rfl, New.trans hnew (And.right (by assumption))⟩
  | some j =>
    obtain ⟨p, hp, hch, hri, hle, _⟩ := h.chain hj
    have HLK := Lib.hid (fun W (hW : New w W) => (h.new_ hW).lookSome hk hb hj hp)
    have hbig := h.bigN
    have HA := Lib.hid (fun W (hW : New w W) => chainLast_any 0 p.1 p.2 (rowOf st.rows k) W (hch.new_ hW) hri (by omega))
    have HANS := Lib.hid (show ∃ a b c, ansL (rowOf st.rows k) = .tuple #[.string a, .int .i64 b, .bool c] from ⟨_, _, _, rfl⟩)
    generalize ansL (rowOf st.rows k) = ans at *
    obtain ⟨x1, x2, x3, rfl⟩ := HANS.out
    obtain ⟨k1, k2⟩ := k
    obtain ⟨c, v⟩ := p
    clear hj hb h hwo hp hch hri hle HANS
    go_enter Tryz.func26, Tryz.ntmps26
    go_wp2
    rw [HWO.out] at d0 d1 ⊢
    go_region_held3 (fun w' => (w'.cell? ⟨w.heap.size, 0, none⟩ = some (.int .i64 k1) ∧ w'.cell? ⟨w.heap.size, 1, none⟩ = some (.int .i64 k2)) ∧ New wo w') ((first | exact ⟨⟨‹_›, ‹_›⟩, (Mod.refl _ _).drew⟩ | (refine two_step' ?_ hw1; assumption) | assumption)) ((go_at_call 64; refine (HS.out _ (New.trans hnew (And.right (by assumption)))).mono ?_; rintro e w1 ⟨rfl, hw1⟩; have hlk := HLK.out w1 (New.trans (New.trans hnew (And.right (by assumption))) hw1)))
    all_goals
      go_wp2_with (go_at_call 67; refine (HA.out _ (New.trans hnew (And.right (by assumption)))).mono ?_; rintro e w2 ⟨rfl, hw2⟩)
      go_ret3
      exact ⟨rfl, New.trans (New.trans hnew (And.right (by assumption))) hw2⟩

/-- The least of n and of what readers read that have not ended. -/
structure IsOldest (rs : List (Int × Bool)) (n a : Int) : Prop where
  le : a ≤ n
  all : ∀ (i : Nat) (x : Int × Bool), rs[i]? = some x → x.2 = false → a ≤ x.1
  one : a = n ∨ ∃ (i : Nat) (x : Int × Bool), rs[i]? = some x ∧ x.2 = false ∧ a = x.1
theorem IsOldest.unique {rs : List (Int × Bool)} {n a b : Int} (h : IsOldest rs n a) (k : IsOldest rs n b) : a = b := by
  have key : ∀ {a b : Int}, IsOldest rs n a → IsOldest rs n b → a ≤ b := fun {a b} h k => by
    rcases k.one with e | ⟨i, x, hi, hx, e⟩
    · rw [e]; exact h.le
    · rw [e]; exact h.all i x hi hx
  exact Int.le_antisymm (key h k) (key k h)
theorem oldest_is (rs : List (Int × Bool)) (n : Int) : IsOldest rs n (rs.foldl (fun m r => if r.2 then m else min m r.1) n) := by
  induction rs generalizing n with
  | nil => exact ⟨Int.le_refl _, fun i x h => by simp at h, .inl rfl⟩
  | cons r rs ih =>
    simp only [List.foldl_cons]
    by_cases hr : r.2 = true
    · rw [if_pos hr]
      have h := ih n
      refine ⟨h.le, fun i x hi hx => ?_, ?_⟩
      · cases i with
        | zero => simp at hi; subst hi; rw [hr] at hx; cases hx
        | succ i => exact h.all i x (by simpa using hi) hx
      · rcases h.one with e | ⟨i, x, hi, hx, e⟩
        · exact .inl e
        · exact .inr ⟨i + 1, x, by simpa using hi, hx, e⟩
    · rw [if_neg hr]
      have hr' : r.2 = false := by simpa using hr
      have h := ih (min n r.1)
      have h1 := h.le
      refine ⟨by omega, fun i x hi hx => ?_, ?_⟩
      · cases i with
        | zero => simp at hi; subst hi; omega
        | succ i => exact h.all i x (by simpa using hi) hx
      · rcases h.one with e | ⟨i, x, hi, hx, e⟩
        · by_cases hc : n ≤ r.1
          · exact .inl (by omega)
          · exact .inr ⟨0, r, rfl, hr', by omega⟩
        · exact .inr ⟨i + 1, x, by simpa using hi, hx, e⟩
/-- What has come of the readers: the least so far. -/
structure Sofar (rs : List (Int × Bool)) (n a : Int) (done : List Int) : Prop where
  le : a ≤ n
  all : ∀ r ∈ done, ∀ v, readM rs r = some (.int .i64 v) → a ≤ v
  one : a = n ∨ ∃ r ∈ done, readM rs r = some (.int .i64 a)
theorem Sofar.nil (rs : List (Int × Bool)) (n : Int) : Sofar rs n n [] := ⟨Int.le_refl _, fun r h => (by cases h), .inl rfl⟩
theorem Sofar.step {rs : List (Int × Bool)} {n a v r : Int} {done : List Int} (h : Sofar rs n a done) (hr : readM rs r = some (.int .i64 v)) : Sofar rs n (min a v) (done ++ [r]) := by
  refine ⟨by have := h.le; omega, fun q hq u hu => ?_, ?_⟩
  · rcases List.mem_append.1 hq with hq | hq
    · have := h.all q hq u hu; omega
    · simp at hq; subst hq
      rw [hr] at hu
      injection hu with hu; injection hu with _ hu
      omega
  · by_cases hc : a ≤ v
    · rcases h.one with e | ⟨q, hq, e⟩
      · exact .inl (by omega)
      · exact .inr ⟨q, by simp [hq], by rw [Int.min_eq_left hc]; exact e⟩
    · exact .inr ⟨r, by simp, by rw [Int.min_eq_right (by omega)]; exact hr⟩
theorem readM_at {rs : List (Int × Bool)} {r : Int} {v : Value} (h : readM rs r = some v) : ∃ (i : Nat) (x : Int × Bool), r = (i : Int) + 1 ∧ rs[i]? = some x ∧ x.2 = false ∧ v = .int .i64 x.1 := by
  unfold readM at h
  split at h
  · rename_i h1
    split at h
    · rename_i x hx
      split at h
      · cases h
      · rename_i h2
        injection h with h
        exact ⟨(r - 1).toNat, x, by omega, hx, by simpa using h2, h.symm⟩
    · cases h
  · cases h
theorem readM_of {rs : List (Int × Bool)} {i : Nat} {x : Int × Bool} (h : rs[i]? = some x) (hx : x.2 = false) : readM rs ((i : Int) + 1) = some (.int .i64 x.1) := by
  unfold readM
  rw [if_pos (by omega), show ((i : Int) + 1 - 1).toNat = i from by omega, h]
  simp [hx]
theorem Sofar.done {rs : List (Int × Bool)} {n a : Int} {done : List Int} (h : Sofar rs n a done) (hall : ∀ x, readM rs x ≠ none → x ∈ done) : IsOldest rs n a := by
  refine ⟨h.le, fun i x hi hx => h.all _ (hall _ ?_) _ (readM_of hi hx), ?_⟩
  · rw [readM_of hi hx]; simp
  · rcases h.one with e | ⟨r, _, hr⟩
    · exact .inl e
    · obtain ⟨i, x, _, hi, hx, e⟩ := readM_at hr
      injection e with _ e
      exact .inr ⟨i, x, hi, hx, e⟩

set_option maxRecDepth 100000 in
set_option maxHeartbeats 1000000 in
theorem storeOldest_any (L : Lay) (N : Nat) (st : StS) (n : Int) (w : World) (h : StoreAt w L N st) :
    Calls Tryz.prog 34 #[.pointer (some ⟨L.s, 0, none⟩), .int .i64 n] w fun e w' => e = .returned (.int .i64 (stOldest st n)) ∧ New w w' := by
  have c1 := h.blk.cell 1
  simp only [List.getElem?_cons_zero, List.getElem?_cons_succ] at c1
  have HM := Lib.hid h.rmap
  have HO := Lib.hid (oldest_is st.readers n)
  have HE : stOldest st n = st.readers.foldl (fun m r => if r.2 then m else min m r.1) n := rfl
  rw [HE]
  generalize st.readers.foldl (fun m r => if r.2 then m else min m r.1) n = ans at *
  clear HE
  have hlow := h.rmap.lt
  clear h
  go_enter Tryz.func34, Tryz.ntmps34
  go_wp2_with (at_range; refine wpList_range_mapO rfl _ rfl Tryz.keyedNum Tryz.underlying62 rfl HM.out ?_; intro w1 hr1 hw1 hs1; have HS1 := Lib.hid hs1; clear hs1; have HR1 := Lib.hid hr1; clear hr1)
  go_frame
  go_loopw [1] (fun a wr => ∃ (x : Int) (done : List Int), a = .int .i64 x ∧ Sofar st.readers n x done ∧ RangeO 3 numVal wr L.rb w.heap.size N (readM st.readers) done ∧ New w wr) (fun _ wr => wr.rangeLeft L.rb w.heap.size)
  case atStart => exact ⟨n, [], rfl, Sofar.nil _ _, HR1.out, hw1⟩
  case round =>
    obtain ⟨a, done, rfl, hsf, hrg, hwr⟩ := hrel
    have HSF := Lib.hid hsf
    have HRG := Lib.hid hrg
    clear hsf hrg
    go_wp2_with (at_next; refine wpList_next_mapO rfl _ rfl Tryz.keyedNum numVal_inj Tryz.numInv w.heap.size done rfl HRG.out ?_ ?_)
    · intro hall
      obtain rfl := IsOldest.unique (HSF.out.done hall) HO.out
      clear hall
      go_wp2
      go_ret
      exact ⟨rfl, hwr⟩
    · intro x c w3 hMx hnd kl hkl hrg3 hlt3 hm3 hs3 hen
      obtain ⟨i, y, rfl, hi, hy, rfl⟩ := readM_at hMx
      have HSF3 := Lib.hid (show Sofar st.readers n (if y.1 < a then y.1 else a) (done ++ [(i : Int) + 1]) from by
        have h3 := HSF.out.step hMx
        rwa [show min a y.1 = if y.1 < a then y.1 else a from by rw [Int.min_def]; split <;> split <;> omega] at h3)
      have HRG3 := Lib.hid hrg3
      have HLT := Lib.hid hlt3
      have HN := Lib.hid (show New w w3 from Mod.trans hwr hm3 (fun b hb e => by have e' : b = w.heap.size := e; omega))
      clear hMx hnd hkl hi hy hs3 hrg3 hlt3 hm3
      go_wp2
      all_goals
        go_roundw
        case rel => exact ⟨_, _, rfl, HSF3.out, HRG3.out, HN.out⟩
        case measure => exact HLT.out
end Go.Proofs.YtfifalopbfopnaaGreatDoor
