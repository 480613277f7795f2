/- Plain: versions of one thing by rising numbers: what is laid down, seen, forgotten. No program in sight. -/
set_option linter.unusedVariables false
set_option linter.unusedSimpArgs false
namespace Go.Proofs.YtfifalopbfopnaaGreatDoor

section
variable {α : Type}
/-- Versions by rising numbers from 0 on. -/
def Rising (l : List (Int × α)) : Prop := l.Pairwise (fun a b => a.1 < b.1) ∧ ∀ x, x ∈ l → 0 ≤ x.1
theorem Rising.nil : Rising ([] : List (Int × α)) := ⟨List.Pairwise.nil, fun x h => by simp at h⟩
theorem Rising.at_lt {l : List (Int × α)} (h : Rising l) {i j : Nat} {x y : Int × α} (hi : l[i]? = some x) (hj : l[j]? = some y) (hij : i < j) : x.1 < y.1 := by
  obtain ⟨h1, e1⟩ := List.getElem?_eq_some_iff.1 hi
  obtain ⟨h2, e2⟩ := List.getElem?_eq_some_iff.1 hj
  rw [← e1, ← e2]
  exact List.pairwise_iff_getElem.1 h.1 i j h1 h2 hij
theorem Rising.drop {l : List (Int × α)} (h : Rising l) (k : Nat) : Rising (l.drop k) := ⟨h.1.sublist (List.drop_sublist k l), fun x hx => h.2 x (List.mem_of_mem_drop hx)⟩
/-- How many versions have a number up to n. -/
def upTo : List (Int × α) → Int → Nat
  | [], _ => 0
  | x :: l, n => if x.1 ≤ n then upTo l n + 1 else 0
theorem upTo_le (l : List (Int × α)) (n : Int) : upTo l n ≤ l.length := by
  induction l with
  | nil => exact Nat.le_refl _
  | cons x l ih => unfold upTo; split <;> simp only [List.length_cons] <;> omega
theorem upTo_below {l : List (Int × α)} {n : Int} : ∀ {i : Nat} {x : Int × α}, i < upTo l n → l[i]? = some x → x.1 ≤ n := by
  induction l with
  | nil => intro i x h; simp [upTo] at h
  | cons y l ih =>
    intro i x h hx
    unfold upTo at h
    split at h
    · rename_i hy
      cases i with
      | zero => simp at hx; subst hx; exact hy
      | succ i => exact ih (i := i) (by omega) (by simpa using hx)
    · omega
theorem upTo_above {l : List (Int × α)} (hr : Rising l) {n : Int} : ∀ {i : Nat} {x : Int × α}, upTo l n ≤ i → l[i]? = some x → n < x.1 := by
  induction l with
  | nil => intro i x _ h; simp at h
  | cons y l ih =>
    have hr2 : Rising l := ⟨(List.pairwise_cons.1 hr.1).2, fun x hx => hr.2 x (by simp [hx])⟩
    intro i x h hx
    unfold upTo at h
    split at h
    · cases i with
      | zero => omega
      | succ i => exact ih hr2 (i := i) (by omega) (by simpa using hx)
    · rename_i hy
      cases i with
      | zero => simp at hx; subst hx; omega
      | succ i =>
        have := (List.pairwise_cons.1 hr.1).1 x (List.mem_of_getElem? (by simpa using hx))
        omega
/-- The place that parts the versions up to n from those above. -/
theorem upTo_unique {l : List (Int × α)} (hr : Rising l) {n : Int} {k : Nat} (hk : k ≤ l.length) (h1 : ∀ i x, i < k → l[i]? = some x → x.1 ≤ n) (h2 : ∀ i x, k ≤ i → l[i]? = some x → n < x.1) : k = upTo l n := by
  have h3 := upTo_le l n
  rcases Nat.lt_trichotomy k (upTo l n) with h | h | h
  · have e : l[k]? = some (l[k]'(by omega)) := List.getElem?_eq_getElem _
    have := upTo_below h e
    have := h2 k _ (Nat.le_refl _) e
    omega
  · exact h
  · have e : l[upTo l n]? = some (l[upTo l n]'(by omega)) := List.getElem?_eq_getElem _
    have := upTo_above hr (Nat.le_refl _) e
    have := h1 (upTo l n) _ h e
    omega
/-- May a version of this number be laid behind these? -/
def canPut (l : List (Int × α)) (n : Int) : Bool := decide (0 ≤ n) && (match l.getLast? with | some x => decide (x.1 < n) | none => true)
def putV (l : List (Int × α)) (n : Int) (v : α) : List (Int × α) := if canPut l n then l ++ [(n, v)] else l
theorem last_max {l : List (Int × α)} (hr : Rising l) {x y : Int × α} (hx : l.getLast? = some x) (hy : y ∈ l) : y.1 ≤ x.1 := by
  obtain ⟨i, hi⟩ := List.getElem?_of_mem hy
  have hil := (List.getElem?_eq_some_iff.1 hi).1
  rw [List.getLast?_eq_getElem?] at hx
  by_cases e : i = l.length - 1
  · subst e; rw [hi] at hx; injection hx with hx; subst hx; exact Int.le_refl _
  · have := hr.at_lt hi hx (by omega); omega
theorem canPut_iff {l : List (Int × α)} (hr : Rising l) {n : Int} : canPut l n = true ↔ 0 ≤ n ∧ ∀ x, x ∈ l → x.1 < n := by
  unfold canPut
  cases h : l.getLast? with
  | none =>
    have : l = [] := by simpa using h
    subst this
    simp
  | some x =>
    simp only [Bool.and_eq_true, decide_eq_true_eq]
    constructor
    · rintro ⟨h1, h2⟩
      exact ⟨h1, fun y hy => by have := last_max hr h hy; omega⟩
    · rintro ⟨h1, h2⟩
      exact ⟨h1, h2 x (List.mem_of_getLast? h)⟩
theorem Rising.put {l : List (Int × α)} (h : Rising l) (n : Int) (v : α) : Rising (putV l n v) := by
  unfold putV
  split
  · rename_i hc
    obtain ⟨h0, h1⟩ := (canPut_iff h).1 hc
    refine ⟨List.pairwise_append.2 ⟨h.1, by simp, fun a ha b hb => ?_⟩, fun x hx => ?_⟩
    · simp at hb; subst hb; exact h1 a ha
    · rcases List.mem_append.1 hx with hx | hx
      · exact h.2 x hx
      · simp at hx; subst hx; exact h0
  · exact h
/-- What counts at n. -/
def atV (l : List (Int × α)) (n : Int) : Option (Int × α) := if upTo l n = 0 then none else l[upTo l n - 1]?
/-- How many are forgotten at n, and what is left. -/
def goneV (l : List (Int × α)) (n : Int) : Nat := upTo l n - 1
def pruneV (l : List (Int × α)) (n : Int) : List (Int × α) := l.drop (goneV l n)
theorem Rising.prune {l : List (Int × α)} (h : Rising l) (n : Int) : Rising (pruneV l n) := h.drop _
theorem prune_ne {l : List (Int × α)} (n : Int) (h : l ≠ []) : pruneV l n ≠ [] := by
  have h1 := upTo_le l n
  have h2 : 0 < l.length := List.length_pos_iff.2 h
  intro e
  have := congrArg List.length e
  simp [pruneV, goneV] at this
  omega
end
end Go.Proofs.YtfifalopbfopnaaGreatDoor
