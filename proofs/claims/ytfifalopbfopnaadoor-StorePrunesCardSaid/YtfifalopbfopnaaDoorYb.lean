/- Plain: stores behind rows of calls, and all keys pruned. -/
import Derived.Test.YtfifalopbfopnaaDoorYa
set_option linter.unusedVariables false
set_option linter.unusedSimpArgs false
namespace Go.Proofs.YtfifalopbfopnaaDoor

/-- How many calls put a version of a key above a number. -/
def putsN (cs : List CallV) (k : Key2) (x : Int) : Nat := (cs.filter fun c => decide (c.kind = 0) && (decide (c.key = k) && decide (x < c.n))).length
theorem putsN_snoc (cs : List CallV) (c : CallV) (k : Key2) (x : Int) : putsN (cs ++ [c]) k x = putsN cs k x + if c.kind = 0 ∧ c.key = k ∧ x < c.n then 1 else 0 := by
  unfold putsN
  rw [List.filter_append, List.length_append]
  by_cases h : c.kind = 0 ∧ c.key = k ∧ x < c.n
  · rw [if_pos h]
    simp [h]
  · rw [if_neg h]
    have : (decide (c.kind = 0) && (decide (c.key = k) && decide (x < c.n))) = false := by
      rw [Bool.eq_false_iff]
      intro e
      simp only [Bool.and_eq_true, decide_eq_true_eq] at e
      exact h e
    simp [this]
theorem putsN_le (cs : List CallV) (k : Key2) (x : Int) : putsN cs k x ≤ cs.length := List.length_filter_le _ _
theorem keysL_setRow {α : Type} {rs : RowsV α} {k : Key2} {l : List (Int × α)} : keysL (setRow rs k l) = if rowIdx rs k = none then keysL rs ++ [k] else keysL rs := setRow_keys
theorem keysL_stPrune {α : Type} (st : St α) (k : Key2) (n : Int) : keysL (stPrune st k n).rows = keysL st.rows := by
  unfold stPrune
  split
  · rfl
  · rename_i h
    rw [keysL_setRow, if_neg]
    intro e
    rw [rowOf_none e] at h
    exact h rfl
theorem rowOf_stPrune {α : Type} {st : St α} (h : st.ok) (k : Key2) (n : Int) (k' : Key2) : rowOf (stPrune st k n).rows k' = if k' = k then pruneV (rowOf st.rows k) (stOldest st n) else rowOf st.rows k' := by
  unfold stPrune
  split
  · rename_i hz
    rw [pruneV_zero hz]
    split
    · rename_i e; rw [e]
    · rfl
  · exact rowOf_setRow h.nodup
theorem readers_stPrune {α : Type} (st : St α) (k : Key2) (n : Int) : (stPrune st k n).readers = st.readers := by
  unfold stPrune
  split <;> rfl
theorem oldest_stPrune {α : Type} (st : St α) (k : Key2) (n m : Int) : stOldest (stPrune st k n) m = stOldest st m := by unfold stOldest; rw [readers_stPrune]

/-- A store behind calls. -/
structure Ran (cs : List CallV) (st : StS) : Prop where
  ok : st.ok
  keys : ∀ k ∈ keysL st.rows, ∃ c ∈ cs, c.key = k
  above : ∀ k x, aboveN (rowOf st.rows k) x ≤ putsN cs k x
theorem Ran.nil : Ran [] stNew := ⟨RowsOk.nil, fun k hk => by simp [keysL, stNew] at hk, fun k x => Nat.le_refl _⟩
theorem Ran.more {cs : List CallV} {st st' : StS} (h : Ran cs st) (c : CallV) (hr : st'.rows = st.rows) : Ran (cs ++ [c]) st' := by
  refine ⟨by unfold St.ok; rw [hr]; exact h.ok, fun k hk => ?_, fun k x => ?_⟩
  · rw [hr] at hk
    obtain ⟨d, hd, e⟩ := h.keys k hk
    exact ⟨d, List.mem_append_left _ hd, e⟩
  · rw [hr, putsN_snoc]
    exact Nat.le_add_right_of_le (h.above k x)
theorem Ran.step {cs : List CallV} {st : StS} (h : Ran cs st) (c : CallV) : Ran (cs ++ [c]) (after st c) := by
  unfold after
  split
  · rename_i h0
    unfold stPut
    split
    · rename_i hcan
      have hok := stPut_ok h.ok c.key c.n c.v
      unfold stPut at hok
      rw [if_pos hcan] at hok
      refine ⟨hok, fun k hk => ?_, fun k x => ?_⟩
      · simp only [keysL_setRow] at hk
        split at hk
        · rcases List.mem_append.1 hk with hk | hk
          · obtain ⟨d, hd, e⟩ := h.keys k hk
            exact ⟨d, List.mem_append_left _ hd, e⟩
          · rw [List.mem_singleton] at hk
            exact ⟨c, by simp, hk.symm⟩
        · obtain ⟨d, hd, e⟩ := h.keys k hk
          exact ⟨d, List.mem_append_left _ hd, e⟩
      · simp only
        rw [rowOf_setRow h.ok.nodup, putsN_snoc]
        split
        · rename_i hk
          subst hk
          rw [aboveN_snoc]
          refine Nat.add_le_add (h.above _ x) ?_
          by_cases hx : x < c.n
          · rw [if_pos hx, if_pos ⟨h0, rfl, hx⟩]; exact Nat.le_refl _
          · rw [if_neg hx]; exact Nat.zero_le _
        · exact Nat.le_add_right_of_le (h.above k x)
    · exact h.more c rfl
  · split
    · exact h.more c rfl
    · split
      · unfold stClose
        split <;> exact h.more c rfl
      · split
        · refine ⟨stPrune_ok h.ok _ _, fun k hk => ?_, fun k x => ?_⟩
          · rw [keysL_stPrune] at hk
            obtain ⟨d, hd, e⟩ := h.keys k hk
            exact ⟨d, List.mem_append_left _ hd, e⟩
          · rw [rowOf_stPrune h.ok, putsN_snoc]
            split
            · rename_i hk
              rw [hk]
              refine Nat.le_add_right_of_le (Nat.le_trans ?_ (h.above _ x))
              unfold pruneV
              exact aboveN_drop _ _ _
            · exact Nat.le_add_right_of_le (h.above k x)
        · exact h.more c rfl

/-- A store of which some keys are pruned. -/
structure Pruned (t : StS) (n : Int) (ks : List Key2) (s : StS) : Prop where
  ok : s.ok
  keys : keysL s.rows = keysL t.rows
  readers : s.readers = t.readers
  rows : ∀ k, rowOf s.rows k = if k ∈ ks then pruneV (rowOf t.rows k) (stOldest t n) else rowOf t.rows k
theorem Pruned.nil {t : StS} (h : t.ok) (n : Int) : Pruned t n [] t := ⟨h, rfl, rfl, fun k => by simp⟩
theorem Pruned.oldest {t s : StS} {n : Int} {ks : List Key2} (h : Pruned t n ks s) (m : Int) : stOldest s m = stOldest t m := by unfold stOldest; rw [h.readers]
theorem Pruned.step {t s : StS} {n : Int} {ks : List Key2} (ht : t.ok) (h : Pruned t n ks s) (k : Key2) : Pruned t n (ks ++ [k]) (stPrune s k n) := by
  refine ⟨stPrune_ok h.ok _ _, by rw [keysL_stPrune]; exact h.keys, by rw [readers_stPrune]; exact h.readers, fun k' => ?_⟩
  rw [rowOf_stPrune h.ok, h.oldest]
  by_cases hk : k' = k
  · subst hk
    rw [if_pos rfl, if_pos (by simp), h.rows]
    split
    · exact pruneV_twice (rowOf_rising ht _) _
    · rfl
  · rw [if_neg hk, h.rows]
    simp [hk]
theorem Pruned.all {t s : StS} {n : Int} (ht : t.ok) (h : Pruned t n (keysOf t.rows) s) (k : Key2) : rowOf s.rows k = pruneV (rowOf t.rows k) (stOldest t n) := by
  rw [h.rows]
  split
  · rfl
  · rename_i hk
    have : rowIdx t.rows k = none := by
      have h2 := (keysOf_up ht.nodup).2.1 k
      rw [rowIdx_none]
      intro x hx e
      exact hk (h2.2 (List.mem_map.2 ⟨x, hx, e⟩))
    rw [rowOf_none this, pruneV_nil]
theorem Pruned.again {t s : StS} {n : Int} (ht : t.ok) (h : Pruned t n (keysOf t.rows) s) (k : Key2) : goneV (rowOf s.rows k) (stOldest s n) = 0 ∧ stPrune s k n = s := by
  have : goneV (rowOf s.rows k) (stOldest s n) = 0 := by
    rw [h.all ht, h.oldest]
    exact goneV_prune (rowOf_rising ht _) _
  refine ⟨this, ?_⟩
  unfold stPrune
  rw [if_pos this]
theorem Pruned.at_ {t s : StS} {n : Int} (ht : t.ok) (h : Pruned t n (keysOf t.rows) s) (k : Key2) {m : Int} (hm : stOldest t n ≤ m) : atV (rowOf s.rows k) m = atV (rowOf t.rows k) m := by
  rw [h.all ht, atV_prune (rowOf_rising ht _) hm]
theorem Pruned.end_ {t s : StS} {n : Int} (ht : t.ok) (h : Pruned t n (keysOf t.rows) s) (k : Key2) : endV (rowOf s.rows k) = endV (rowOf t.rows k) := by
  rw [h.all ht]
  unfold endV
  rw [last_prune]
theorem Pruned.sameKeys {t s : StS} {n : Int} {ks : List Key2} (h : Pruned t n ks s) : keysOf s.rows = keysOf t.rows := by
  have := h.keys
  unfold keysL at this
  unfold keysOf
  rw [this]
theorem end_true {t : StS} (ht : t.ok) {k : Key2} (hk : k ∈ keysOf t.rows) : (endV (rowOf t.rows k)).2.2 = true := by
  have h2 := ((keysOf_up ht.nodup).2.1 k).1 hk
  obtain ⟨x, hx, rfl⟩ := List.mem_map.1 h2
  obtain ⟨i, hi⟩ := List.getElem?_of_mem hx
  have hne := ht.some_ x hx
  rw [rowOf_at ht.nodup (l := x.2) hi]
  unfold endV
  cases hl : x.2.getLast? with
  | none => exact absurd (List.getLast?_eq_none_iff.1 hl) hne
  | some y => rfl
theorem sum_add_le (f g : Key2 → Nat) : ∀ l : List Key2, (∀ x ∈ l, f x ≤ 1 + g x) → (l.map f).sum ≤ l.length + (l.map g).sum
  | [], _ => by simp
  | x :: l, h => by
    have h1 := h x (by simp)
    have h2 := sum_add_le f g l (fun y hy => h y (by simp [hy]))
    simp only [List.map_cons, List.sum_cons, List.length_cons]
    omega
theorem Pruned.versions {cs : List CallV} {t s : StS} {n : Int} (hr : Ran cs t) (h : Pruned t n (keysOf t.rows) s) : stVersions s ≤ (keysOf t.rows).length + ((keysOf t.rows).map fun k => putsN cs k (stOldest t n)).sum := by
  have hu := keysOf_up hr.ok.nodup
  have hnd : (keysOf t.rows).Nodup := hu.1.imp fun hab e => by
    subst e
    rw [keyLess_irr] at hab
    exact absurd hab (by simp)
  have hp : (keysL s.rows).Perm (keysOf t.rows) := by
    rw [h.keys]
    exact (List.perm_ext_iff_of_nodup hr.ok.nodup hnd).2 fun x => (hu.2.1 x).symm
  unfold stVersions
  rw [← totK_all h.ok.nodup, totK_perm _ hp]
  unfold totK
  refine sum_add_le _ _ _ fun k hk => ?_
  rw [h.all hr.ok]
  exact Nat.le_trans (prune_len (rowOf_rising hr.ok _) _) (Nat.add_le_add_left (hr.above _ _) _)
theorem keys_up_at {t : StS} (ht : t.ok) {i : Nat} {a b : Key2} (ha : (keysOf t.rows)[i]? = some a) (hb : (keysOf t.rows)[i + 1]? = some b) : keyLess a b = true := by
  have hu := (keysOf_up ht.nodup).1
  have h1 := (List.getElem?_eq_some_iff.1 ha)
  have h2 := (List.getElem?_eq_some_iff.1 hb)
  obtain ⟨l1, rfl⟩ := h1
  obtain ⟨l2, rfl⟩ := h2
  exact List.pairwise_iff_getElem.1 hu i (i + 1) l1 l2 (by omega)
theorem keys_wf {cs : List CallV} {t : StS} (hr : Ran cs t) (hc : ∀ c ∈ cs, CallOk c) : ∀ k ∈ keysOf t.rows, KeyWf k := by
  intro k hk
  obtain ⟨c, hcm, rfl⟩ := hr.keys k (((keysOf_up hr.ok.nodup).2.1 k).1 hk)
  exact (hc c hcm).1
theorem oldest_le {α : Type} (st : St α) (n : Int) : stOldest st n ≤ n := (oldest_is st.readers n).1
end Go.Proofs.YtfifalopbfopnaaDoor
