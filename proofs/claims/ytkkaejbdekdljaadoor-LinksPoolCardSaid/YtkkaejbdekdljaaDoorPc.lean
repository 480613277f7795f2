/- Plain: the pooling of legs. -/
import Derived.Test.YtkkaejbdekdljaaDoorProg
set_option linter.unusedVariables false
set_option linter.unusedSimpArgs false
namespace Go.Proofs.YtkkaejbdekdljaaDoor

abbrev Leg5 := Int × Int × Int × Int × Int
def legKey (p : Leg5) : Leg5 := (p.1, p.2.1, p.2.2.1, 0, p.2.2.2.2)
def legQty (p : Leg5) : Int := p.2.2.2.1
def legAdd (p : Leg5) (q : Int) : Leg5 := (p.1, p.2.1, p.2.2.1, p.2.2.2.1 + q, p.2.2.2.2)
/-- The last of the first n that have this key. -/
def lastN (out : List Leg5) (k : Leg5) : Nat → Option Nat
  | 0 => none
  | j + 1 => if out[j]?.map legKey = some k then some j else lastN out k j
def lastIdx (out : List Leg5) (k : Leg5) : Option Nat := lastN out k out.length
def idxInt : Option Nat → Int
  | none => -1
  | some i => (i : Int)
/-- From what has been pooled, over the legs that are left: the error's number, or 0 and what is pooled. -/
def poolRun : List Leg5 → List Leg5 → Int × List Leg5
  | out, [] => (0, out)
  | out, x :: r =>
    if legQty x < 1 then (16, []) else
    match lastIdx out (legKey x) with
    | none => poolRun (out ++ [x]) r
    | some i =>
      match out[i]? with
      | none => (0, [])
      | some y => if 9223372036854775807 - legQty x < legQty y then (9, []) else poolRun (out.set i (legAdd y (legQty x))) r
def poolEnd (p : Int × List Leg5) : Int × List Leg5 := if p.1 ≠ 0 then (p.1, []) else if p.2.length = 0 then (2, []) else if 4 < p.2.length then (5, []) else (0, p.2)
def poolAns (l : List Leg5) : Int × List Leg5 := poolEnd (poolRun [] l)

theorem legKey_add (p : Leg5) (q : Int) : legKey (legAdd p q) = legKey p := rfl
theorem legKey_key (p : Leg5) : legKey (legKey p) = legKey p := rfl
theorem lastN_lt {out : List Leg5} {k : Leg5} : ∀ {n i : Nat}, lastN out k n = some i → i < n ∧ out[i]?.map legKey = some k
  | 0, i, h => by simp [lastN] at h
  | n + 1, i, h => by
    unfold lastN at h
    split at h
    · injection h with h; subst h; rename_i h1; exact ⟨by omega, h1⟩
    · have := lastN_lt h; exact ⟨by omega, this.2⟩
theorem lastN_congr {out out' : List Leg5} {k : Leg5} : ∀ (n : Nat), (∀ i, i < n → out[i]?.map legKey = out'[i]?.map legKey) → lastN out k n = lastN out' k n
  | 0, _ => rfl
  | n + 1, h => by unfold lastN; rw [h n (by omega), lastN_congr n fun i hi => h i (by omega)]
theorem lastIdx_snoc (out : List Leg5) (x : Leg5) (k : Leg5) : lastIdx (out ++ [x]) k = if legKey x = k then some out.length else lastIdx out k := by
  unfold lastIdx
  rw [List.length_append, List.length_singleton]
  show (if (out ++ [x])[out.length]?.map legKey = some k then _ else _) = _
  rw [List.getElem?_append_right (Nat.le_refl _), Nat.sub_self]
  simp only [List.getElem?_cons_zero, Option.map_some, Option.some.injEq]
  split
  · rfl
  · exact lastN_congr _ fun i hi => by rw [List.getElem?_append_left hi]
theorem lastIdx_set {out : List Leg5} {i : Nat} {y z : Leg5} (h : out[i]? = some y) (hk : legKey z = legKey y) (k : Leg5) : lastIdx (out.set i z) k = lastIdx out k := by
  unfold lastIdx
  rw [List.length_set]
  refine lastN_congr _ fun j hj => ?_
  rw [List.getElem?_set]
  split
  · rename_i e; subst e
    rw [if_pos hj, h]; simp [hk]
  · rfl
theorem lastIdx_at {out : List Leg5} {k : Leg5} {i : Nat} (h : lastIdx out k = some i) : ∃ y, i < out.length ∧ out[i]? = some y ∧ legKey y = k := by
  have h1 := lastN_lt h
  obtain ⟨y, hy, hk⟩ := Option.map_eq_some_iff.1 h1.2
  exact ⟨y, h1.1, hy, hk⟩
theorem lastN_hit {out : List Leg5} {k y : Leg5} {j : Nat} (h : out[j]? = some y) (hk : legKey y = k) : lastN out k (j + 1) = some j := by
  unfold lastN; rw [h]; simp [hk]
theorem lastN_miss {out : List Leg5} {k y : Leg5} {j : Nat} (h : out[j]? = some y) (hk : legKey y ≠ k) : lastN out k (j + 1) = lastN out k j := by
  rw [lastN]; rw [h]; simp [hk]

theorem poolRun_bad {out : List Leg5} {x : Leg5} {r : List Leg5} (h : legQty x < 1) : poolRun out (x :: r) = (16, []) := by rw [poolRun, if_pos h]
theorem poolRun_new {out : List Leg5} {x : Leg5} {r : List Leg5} (h : ¬ legQty x < 1) (hi : lastIdx out (legKey x) = none) : poolRun out (x :: r) = poolRun (out ++ [x]) r := by
  rw [poolRun, if_neg h, hi]
theorem poolRun_over {out : List Leg5} {x y : Leg5} {r : List Leg5} {i : Nat} (h : ¬ legQty x < 1) (hi : lastIdx out (legKey x) = some i) (hy : out[i]? = some y) (ho : 9223372036854775807 - legQty x < legQty y) : poolRun out (x :: r) = (9, []) := by
  rw [poolRun, if_neg h, hi]; simp only [hy]; rw [if_pos ho]
theorem poolRun_add {out : List Leg5} {x y : Leg5} {r : List Leg5} {i : Nat} (h : ¬ legQty x < 1) (hi : lastIdx out (legKey x) = some i) (hy : out[i]? = some y) (ho : ¬ 9223372036854775807 - legQty x < legQty y) : poolRun out (x :: r) = poolRun (out.set i (legAdd y (legQty x))) r := by
  rw [poolRun, if_neg h, hi]; simp only [hy]; rw [if_neg ho]
/-- Each pooled quantity is at least 1, at most the greatest. -/
def QtyOk (out : List Leg5) : Prop := ∀ (i : Nat) (y : Leg5), out[i]? = some y → 1 ≤ legQty y ∧ legQty y ≤ 9223372036854775807
theorem QtyOk.nil : QtyOk [] := fun i y h => by simp at h
theorem QtyOk.snoc {out : List Leg5} {x : Leg5} (h : QtyOk out) (h1 : 1 ≤ legQty x) (h2 : legQty x ≤ 9223372036854775807) : QtyOk (out ++ [x]) := fun i y hy => by
  by_cases hi : i < out.length
  · rw [List.getElem?_append_left hi] at hy; exact h i y hy
  · rw [List.getElem?_append_right (by omega)] at hy
    have := (List.getElem?_eq_some_iff.1 hy).1
    simp at this
    rw [this] at hy
    simp at hy
    subst hy
    exact ⟨h1, h2⟩
theorem QtyOk.set {out : List Leg5} {i : Nat} {z : Leg5} (h : QtyOk out) (h1 : 1 ≤ legQty z) (h2 : legQty z ≤ 9223372036854775807) : QtyOk (out.set i z) := fun j y hy => by
  rw [List.getElem?_set] at hy
  split at hy
  · split at hy
    · injection hy with hy; subst hy; exact ⟨h1, h2⟩
    · simp at hy
  · exact h j y hy

/-- Two rows of legs, in turns: what is left. -/
theorem left_outer {ls : List (List Leg5)} {i : Nat} {l : List Leg5} (h : ls[i]? = some l) : (ls.drop i).flatten = l ++ (ls.drop (i + 1)).flatten := by
  have hi := (List.getElem?_eq_some_iff.1 h).1
  rw [List.drop_eq_getElem_cons hi]
  have : ls[i] = l := (List.getElem?_eq_some_iff.1 h).2
  rw [this]; simp
theorem left_inner {l : List Leg5} {k : Nat} {x : Leg5} (h : l[k]? = some x) : l.drop k = x :: l.drop (k + 1) := by
  have hi := (List.getElem?_eq_some_iff.1 h).1
  rw [List.drop_eq_getElem_cons hi, (List.getElem?_eq_some_iff.1 h).2]
theorem poolEnd_bad {p : Int × List Leg5} (h : p.1 ≠ 0) : poolEnd p = (p.1, []) := by unfold poolEnd; rw [if_pos h]
end Go.Proofs.YtkkaejbdekdljaaDoor
