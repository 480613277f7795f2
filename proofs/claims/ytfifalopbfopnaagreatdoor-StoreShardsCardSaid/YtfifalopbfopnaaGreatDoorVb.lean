/- Plain: a store of versions under keys, with readers. No program in sight. -/
import Derived.Test.YtfifalopbfopnaaGreatDoorVa
set_option linter.unusedVariables false
set_option linter.unusedSimpArgs false
namespace Go.Proofs.YtfifalopbfopnaaGreatDoor

abbrev Key2 := Int × Int
section
variable {α : Type}
abbrev RowsV (α : Type) := List (Key2 × List (Int × α))
/-- The place of a key's row. -/
def rowIdx (rs : RowsV α) (k : Key2) : Option Nat := match rs with
  | [] => none
  | x :: l => if x.1 = k then some 0 else (rowIdx l k).map (· + 1)
theorem rowIdx_at : ∀ {rs : RowsV α} {k : Key2} {i : Nat}, rowIdx rs k = some i → ∃ l, rs[i]? = some (k, l)
  | [], _, _, h => by simp [rowIdx] at h
  | x :: rs, k, i, h => by
    unfold rowIdx at h
    split at h
    · rename_i e
      injection h with h
      subst h
      exact ⟨x.2, by subst e; rfl⟩
    · obtain ⟨j, hj, rfl⟩ := Option.map_eq_some_iff.1 h
      obtain ⟨l, hl⟩ := rowIdx_at hj
      exact ⟨l, by simpa using hl⟩
theorem rowIdx_none : ∀ {rs : RowsV α} {k : Key2}, rowIdx rs k = none ↔ ∀ x, x ∈ rs → x.1 ≠ k
  | [], k => by simp [rowIdx]
  | x :: rs, k => by
    have ih := rowIdx_none (rs := rs) (k := k)
    unfold rowIdx
    split
    · rename_i e; simp [e]
    · rename_i e
      simp only [Option.map_eq_none_iff, ih, List.mem_cons, forall_eq_or_imp]
      exact ⟨fun h => ⟨e, h⟩, fun h => h.2⟩
/-- The versions under a key. -/
def rowOf (rs : RowsV α) (k : Key2) : List (Int × α) := match rowIdx rs k with
  | some i => match rs[i]? with | some x => x.2 | none => []
  | none => []
/-- A key's versions are these from now on. -/
def setRow (rs : RowsV α) (k : Key2) (l : List (Int × α)) : RowsV α := match rowIdx rs k with
  | some i => rs.set i (k, l)
  | none => rs ++ [(k, l)]
/-- Each key once, with versions by rising numbers, one at least. -/
structure RowsOk (rs : RowsV α) : Prop where
  nodup : (rs.map (·.1)).Nodup
  rising : ∀ x, x ∈ rs → Rising x.2
  some_ : ∀ x, x ∈ rs → x.2 ≠ []
theorem RowsOk.nil : RowsOk ([] : RowsV α) := ⟨by simp, fun x h => by simp at h, fun x h => by simp at h⟩
theorem rowIdx_unique {rs : RowsV α} (h : (rs.map (·.1)).Nodup) {i : Nat} {k : Key2} {l : List (Int × α)} (hi : rs[i]? = some (k, l)) : rowIdx rs k = some i := by
  cases hj : rowIdx rs k with
  | none => exact absurd rfl (rowIdx_none.1 hj _ (List.mem_of_getElem? hi))
  | some j =>
    obtain ⟨l', hl'⟩ := rowIdx_at hj
    have h1 : (rs.map (·.1))[i]? = some k := by simp [hi]
    have h2 : (rs.map (·.1))[j]? = some k := by simp [hl']
    have := (List.getElem?_inj (List.getElem?_eq_some_iff.1 h1).1 h).1 (h1.trans h2.symm)
    rw [this]
theorem rowOf_at {rs : RowsV α} (h : (rs.map (·.1)).Nodup) {i : Nat} {k : Key2} {l : List (Int × α)} (hi : rs[i]? = some (k, l)) : rowOf rs k = l := by
  unfold rowOf; rw [rowIdx_unique h hi]; simp [hi]
theorem rowOf_none {rs : RowsV α} {k : Key2} (h : rowIdx rs k = none) : rowOf rs k = [] := by unfold rowOf; rw [h]
theorem rowOf_rising {rs : RowsV α} (h : RowsOk rs) (k : Key2) : Rising (rowOf rs k) := by
  unfold rowOf
  split
  · rename_i i hi
    obtain ⟨l, hl⟩ := rowIdx_at hi
    simp only [hl]
    exact h.rising _ (List.mem_of_getElem? hl)
  · exact Rising.nil
theorem setRow_keys {rs : RowsV α} {k : Key2} {l : List (Int × α)} : (setRow rs k l).map (·.1) = if rowIdx rs k = none then rs.map (·.1) ++ [k] else rs.map (·.1) := by
  unfold setRow
  cases h : rowIdx rs k with
  | none => simp
  | some i =>
    obtain ⟨l', hl'⟩ := rowIdx_at h
    rw [if_neg (by simp)]
    simp only [List.map_set]
    refine List.ext_getElem? fun j => ?_
    by_cases e : j = i
    · subst e
      rw [List.getElem?_set_self (by simpa using (List.getElem?_eq_some_iff.1 hl').1)]
      simp [hl']
    · rw [List.getElem?_set_ne (Ne.symm e)]
theorem setRow_ok {rs : RowsV α} (h : RowsOk rs) {k : Key2} {l : List (Int × α)} (hr : Rising l) (hl : l ≠ []) : RowsOk (setRow rs k l) := by
  refine ⟨?_, fun x hx => ?_, fun x hx => ?_⟩
  · rw [setRow_keys]
    split
    · rename_i hn
      rw [List.nodup_append]
      refine ⟨h.nodup, by simp, fun a ha b hb => ?_⟩
      simp at hb; subst hb
      obtain ⟨x, hx, rfl⟩ := List.mem_map.1 ha
      exact rowIdx_none.1 hn x hx
    · exact h.nodup
  · unfold setRow at hx
    split at hx
    · rcases List.mem_or_eq_of_mem_set hx with hx | hx
      · exact h.rising x hx
      · subst hx; exact hr
    · rcases List.mem_append.1 hx with hx | hx
      · exact h.rising x hx
      · simp at hx; subst hx; exact hr
  · unfold setRow at hx
    split at hx
    · rcases List.mem_or_eq_of_mem_set hx with hx | hx
      · exact h.some_ x hx
      · subst hx; exact hl
    · rcases List.mem_append.1 hx with hx | hx
      · exact h.some_ x hx
      · simp at hx; subst hx; exact hl
/-- A store: what lies under keys; of each reader its number, and whether it has ended. -/
structure St (α : Type) where
  rows : RowsV α
  readers : List (Int × Bool)
def St.ok (s : St α) : Prop := RowsOk s.rows
def stNew : St α := ⟨[], []⟩
def stPut (s : St α) (k : Key2) (n : Int) (v : α) : St α := if canPut (rowOf s.rows k) n then { s with rows := setRow s.rows k (rowOf s.rows k ++ [(n, v)]) } else s
def stOldest (s : St α) (n : Int) : Int := s.readers.foldl (fun m r => if r.2 then m else min m r.1) n
def stPrune (s : St α) (k : Key2) (n : Int) : St α := if goneV (rowOf s.rows k) (stOldest s n) = 0 then s else { s with rows := setRow s.rows k (pruneV (rowOf s.rows k) (stOldest s n)) }
def stOpen (s : St α) (n : Int) : St α := { s with readers := s.readers ++ [(n, false)] }
def closes (s : St α) (r : Int) : Bool := decide (1 ≤ r) && (match s.readers[(r - 1).toNat]? with | some x => !x.2 | none => false)
def stClose (s : St α) (r : Int) : St α := if closes s r then { s with readers := s.readers.modify (r - 1).toNat (fun x => (x.1, true)) } else s
def stVersions (s : St α) : Nat := (s.rows.map fun x => x.2.length).sum
theorem put_ne {l : List (Int × α)} {n : Int} {v : α} : l ++ [(n, v)] ≠ [] := by simp
theorem stPut_ok {s : St α} (h : s.ok) (k : Key2) (n : Int) (v : α) : (stPut s k n v).ok := by
  unfold stPut
  split
  · rename_i hc
    have := (rowOf_rising h k).put n v
    unfold putV at this
    rw [if_pos hc] at this
    exact setRow_ok h this put_ne
  · exact h
theorem stPrune_ok {s : St α} (h : s.ok) (k : Key2) (n : Int) : (stPrune s k n).ok := by
  unfold stPrune
  split
  · exact h
  · rename_i hg
    refine setRow_ok h ((rowOf_rising h k).prune _) (prune_ne _ fun e => hg ?_)
    rw [e]; rfl
end
end Go.Proofs.YtfifalopbfopnaaGreatDoor
