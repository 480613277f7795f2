/- Plain: what pruning leaves. -/
import Derived.Test.YtfifalopbfopnaaDoorUja
set_option linter.unusedVariables false
set_option linter.unusedSimpArgs false
namespace Go.Proofs.YtfifalopbfopnaaDoor
section
variable {α : Type}

theorem upTo_drop {l : List (Int × α)} (hr : Rising l) {d : Nat} {m : Int} (hd : d ≤ upTo l m) : upTo (l.drop d) m = upTo l m - d := by
  symm
  refine upTo_unique (hr.drop d) ?_ ?_ ?_
  · have := upTo_le l m; simp only [List.length_drop]; omega
  · intro i x hi hx
    rw [List.getElem?_drop] at hx
    exact upTo_below (i := d + i) (by omega) hx
  · intro i x hi hx
    rw [List.getElem?_drop] at hx
    exact upTo_above hr (i := d + i) (by omega) hx
theorem upTo_mono {l : List (Int × α)} (hr : Rising l) {a b : Int} (h : a ≤ b) : upTo l a ≤ upTo l b := by
  rcases Nat.lt_or_ge (upTo l b) (upTo l a) with hlt | hge
  · have h1 := upTo_le l a
    have e : l[upTo l b]? = some (l[upTo l b]'(by omega)) := List.getElem?_eq_getElem _
    have := upTo_below hlt e
    have := upTo_above hr (Nat.le_refl _) e
    omega
  · exact hge
theorem goneV_prune {l : List (Int × α)} (hr : Rising l) (o : Int) : goneV (pruneV l o) o = 0 := by
  unfold pruneV goneV
  rw [upTo_drop hr (by omega)]
  omega
theorem pruneV_zero {l : List (Int × α)} {o : Int} (h : goneV l o = 0) : pruneV l o = l := by unfold pruneV; rw [h]; rfl
theorem pruneV_twice {l : List (Int × α)} (hr : Rising l) (o : Int) : pruneV (pruneV l o) o = pruneV l o := pruneV_zero (goneV_prune hr o)
theorem atV_prune {l : List (Int × α)} (hr : Rising l) {o m : Int} (h : o ≤ m) : atV (pruneV l o) m = atV l m := by
  have hm := upTo_mono hr h
  unfold atV pruneV goneV
  rw [upTo_drop hr (by omega), List.getElem?_drop]
  by_cases h0 : upTo l o = 0
  · rw [h0]; simp
  · rw [if_neg (by omega), if_neg (by omega)]
    congr 1
    omega
theorem pruneV_nil (o : Int) : pruneV ([] : List (Int × α)) o = [] := rfl
theorem last_prune {l : List (Int × α)} (o : Int) : (pruneV l o).getLast? = l.getLast? := by
  cases l with
  | nil => rfl
  | cons x l =>
    unfold pruneV goneV
    have := upTo_le (x :: l) o
    rw [List.getLast?_drop, if_neg (by simp only [List.length_cons] at this ⊢; omega)]

/-- How many versions stand above a number. -/
def aboveN (l : List (Int × α)) (x : Int) : Nat := (l.filter fun v => decide (x < v.1)).length
theorem aboveN_snoc (l : List (Int × α)) (v : Int × α) (x : Int) : aboveN (l ++ [v]) x = aboveN l x + if x < v.1 then 1 else 0 := by
  unfold aboveN
  rw [List.filter_append, List.length_append]
  by_cases h : x < v.1 <;> simp [h]
theorem aboveN_drop (l : List (Int × α)) (d : Nat) (x : Int) : aboveN (l.drop d) x ≤ aboveN l x := ((List.drop_sublist d l).filter _).length_le
theorem aboveN_all {l : List (Int × α)} {x : Int} (h : ∀ v ∈ l, x < v.1) : aboveN l x = l.length := by
  unfold aboveN
  rw [List.filter_eq_self.2 (fun v hv => by simp [h v hv])]
theorem prune_len {l : List (Int × α)} (hr : Rising l) (o : Int) : (pruneV l o).length ≤ 1 + aboveN l o := by
  have h1 := aboveN_drop l (upTo l o) o
  have h2 : aboveN (l.drop (upTo l o)) o = (l.drop (upTo l o)).length := aboveN_all fun v hv => by
    obtain ⟨i, hi⟩ := List.getElem?_of_mem hv
    rw [List.getElem?_drop] at hi
    exact upTo_above hr (by omega) hi
  rw [h2, List.length_drop] at h1
  unfold pruneV goneV
  rw [List.length_drop]
  omega

/-- A row's place in another row's stead. -/
theorem rowOf_setRow {rs : RowsV α} {k : Key2} {l : List (Int × α)} {k' : Key2} (hn : (rs.map (·.1)).Nodup) : rowOf (setRow rs k l) k' = if k' = k then l else rowOf rs k' := by
  by_cases hk : k' = k
  · subst hk
    rw [if_pos rfl]
    unfold setRow
    cases hj : rowIdx rs k' with
    | none =>
      simp only
      have hnew : ((rs ++ [(k', l)]).map (·.1)).Nodup := by
        rw [List.map_append, List.nodup_append]
        refine ⟨hn, by simp, fun a ha b hb => ?_⟩
        simp only [List.map_cons, List.map_nil, List.mem_singleton] at hb
        subst hb
        obtain ⟨x, hx, rfl⟩ := List.mem_map.1 ha
        exact rowIdx_none.1 hj x hx
      exact rowOf_at hnew (i := rs.length) (by simp)
    | some j =>
      simp only
      obtain ⟨l0, hl0⟩ := rowIdx_at hj
      have hjl := (List.getElem?_eq_some_iff.1 hl0).1
      have hmap : (rs.set j (k', l)).map (·.1) = rs.map (·.1) := by
        rw [List.map_set]
        apply List.ext_getElem?
        intro i
        rw [List.getElem?_set]
        split
        · rename_i he
          subst he
          rw [if_pos (by simpa using hjl), List.getElem?_map, hl0]
          rfl
        · rfl
      refine rowOf_at (by rw [hmap]; exact hn) (i := j) ?_
      rw [List.getElem?_set_self hjl]
  · rw [if_neg hk]
    unfold setRow
    cases hj : rowIdx rs k with
    | none =>
      simp only
      cases hi : rowIdx rs k' with
      | none =>
        rw [rowOf_none hi]
        refine rowOf_none (rowIdx_none.2 fun x hx => ?_)
        rcases List.mem_append.1 hx with h | h
        · exact rowIdx_none.1 hi x h
        · rw [List.mem_singleton] at h
          subst h
          exact fun h => hk h.symm
      | some i =>
        obtain ⟨l0, hl0⟩ := rowIdx_at hi
        have hnew : ((rs ++ [(k, l)]).map (·.1)).Nodup := by
          rw [List.map_append, List.nodup_append]
          refine ⟨hn, by simp, fun a ha b hb => ?_⟩
          simp only [List.map_cons, List.map_nil, List.mem_singleton] at hb
          subst hb
          obtain ⟨x, hx, rfl⟩ := List.mem_map.1 ha
          exact rowIdx_none.1 hj x hx
        rw [rowOf_at hn hl0]
        exact rowOf_at hnew (i := i) (by rw [List.getElem?_append_left (List.getElem?_eq_some_iff.1 hl0).1]; exact hl0)
    | some j =>
      simp only
      obtain ⟨lj, hlj⟩ := rowIdx_at hj
      have hjl := (List.getElem?_eq_some_iff.1 hlj).1
      have hmap : (rs.set j (k, l)).map (·.1) = rs.map (·.1) := by
        rw [List.map_set]
        apply List.ext_getElem?
        intro i
        rw [List.getElem?_set]
        split
        · rename_i he
          subst he
          rw [if_pos (by simpa using hjl), List.getElem?_map, hlj]
          rfl
        · rfl
      cases hi : rowIdx rs k' with
      | none =>
        rw [rowOf_none hi]
        refine rowOf_none (rowIdx_none.2 fun x hx => ?_)
        rcases List.mem_or_eq_of_mem_set hx with h | h
        · exact rowIdx_none.1 hi x h
        · subst h
          exact fun h => hk h.symm
      | some i =>
        obtain ⟨l0, hl0⟩ := rowIdx_at hi
        have hij : j ≠ i := fun h => by
          subst h
          rw [hlj] at hl0
          injection hl0 with hl0
          injection hl0 with e _
          exact hk e.symm
        rw [rowOf_at hn hl0]
        exact rowOf_at (by rw [hmap]; exact hn) (i := i) (by rw [List.getElem?_set_ne hij]; exact hl0)
end
end Go.Proofs.YtfifalopbfopnaaDoor
