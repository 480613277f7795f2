/- Plain: an order of things along edges: at each place the one that can stand and is most urgent. No program in sight. -/
import Derived.Test.YtkkaejbdekdljaaDoorPa
set_option linter.unusedVariables false
set_option linter.unusedSimpArgs false
namespace Go.Proofs.YtkkaejbdekdljaaDoor

/-- How many edges lead to i from things that don't stand yet. -/
def cnt (l : List (Int × Int)) (out : List Nat) (i : Nat) : Nat := l.countP fun p => p.2.toNat == i && !(out.contains p.1.toNat)
/-- The edges from b to i. -/
def fromTo (l : List (Int × Int)) (b i : Nat) : Nat := l.countP fun p => p.1.toNat == b && p.2.toNat == i
/-- Where the edges from b lead. -/
def succs (l : List (Int × Int)) (b : Nat) : List Nat := (l.filter fun p => p.1.toNat == b).map fun p => p.2.toNat

theorem cnt_nil (l : List (Int × Int)) (i : Nat) : cnt l [] i = l.countP fun p => p.2.toNat == i := by simp [cnt]
theorem cnt_snoc {l : List (Int × Int)} {out : List Nat} {b : Nat} (hb : b ∉ out) (i : Nat) : cnt l (out ++ [b]) i + fromTo l b i = cnt l out i := by
  unfold cnt fromTo
  induction l with
  | nil => rfl
  | cons p l ih =>
    simp only [List.countP_cons]
    have hb2 : out.contains b = false := by simpa using hb
    by_cases h1 : p.2.toNat = i
    · by_cases h2 : p.1.toNat = b
      · rw [h2] at *
        simp [h1, hb] at ih ⊢; omega
      · by_cases h3 : p.1.toNat ∈ out
        · simp [h1, h2, h3] at ih ⊢; omega
        · simp [h1, h2, h3] at ih ⊢; omega
    · simp [h1] at ih ⊢; omega
theorem succs_count (l : List (Int × Int)) (b i : Nat) : (succs l b).count i = fromTo l b i := by
  unfold succs fromTo
  induction l with
  | nil => rfl
  | cons p l ih =>
    by_cases h1 : p.1.toNat = b
    · by_cases h2 : p.2.toNat = i
      · simp [h1, h2, List.count_cons, List.countP_cons] at ih ⊢; omega
      · simp [h1, h2, List.count_cons, List.countP_cons] at ih ⊢; omega
    · simp [h1, List.countP_cons] at ih ⊢; omega
theorem fromTo_snoc (l : List (Int × Int)) (p : Int × Int) (b i : Nat) : fromTo (l ++ [p]) b i = fromTo l b i + (if p.1.toNat = b ∧ p.2.toNat = i then 1 else 0) := by
  unfold fromTo
  rw [List.countP_append]
  by_cases h1 : p.1.toNat = b <;> by_cases h2 : p.2.toNat = i <;> simp [h1, h2]
theorem succs_snoc (l : List (Int × Int)) (p : Int × Int) (b : Nat) : succs (l ++ [p]) b = succs l b ++ (if p.1.toNat = b then [p.2.toNat] else []) := by
  unfold succs
  by_cases h : p.1.toNat = b <;> simp [h]
theorem count_take_succ (s : List Nat) (j x i : Nat) (h : s[j]? = some x) : (s.take (j + 1)).count i = (s.take j).count i + (if x = i then 1 else 0) := by
  rw [List.take_add_one, h]
  by_cases e : x = i <;> simp [e]
theorem fromTo_take_le (l : List (Int × Int)) (j b i : Nat) : fromTo (l.take j) b i ≤ fromTo l b i := by
  unfold fromTo
  exact List.Sublist.countP_le (List.take_sublist _ _)
theorem cntall_take (l : List (Int × Int)) (k : Nat) (p : Int × Int) (h : l[k]? = some p) (i : Nat) :
    (l.take (k + 1)).countP (fun q => q.2.toNat == i) = (l.take k).countP (fun q => q.2.toNat == i) + (if p.2.toNat = i then 1 else 0) := by
  rw [List.take_add_one, h, List.countP_append]
  by_cases e : p.2.toNat = i <;> simp [e]

/-- May i stand at the next place? -/
def ready (l : List (Int × Int)) (out : List Nat) (i : Nat) : Bool := !(out.contains i) && cnt l out i == 0
/-- The most urgent of those below k that may stand; of equals the least. -/
def pick (r : Nat → Bool) (prio : Nat → Int) : Nat → Option Nat
  | 0 => none
  | k + 1 => match pick r prio k with
    | none => if r k then some k else none
    | some b => if r k && decide (prio b < prio k) then some k else some b
theorem pick_lt {r : Nat → Bool} {prio : Nat → Int} : ∀ {k b : Nat}, pick r prio k = some b → b < k ∧ r b = true := by
  intro k
  induction k with
  | zero => intro b h; simp [pick] at h
  | succ k ih =>
    intro b h
    cases hp : pick r prio k with
    | none =>
      simp only [pick, hp] at h
      split at h
      · rename_i hr
        simp at h; subst h; exact ⟨by omega, hr⟩
      · simp at h
    | some b0 =>
      simp only [pick, hp] at h
      split at h
      · rename_i hr
        simp at h; subst h
        simp at hr
        exact ⟨by omega, hr.1⟩
      · simp at h; subst h
        have := ih hp
        exact ⟨by omega, this.2⟩
/-- The number that stands for a choice. -/
def pickInt : Option Nat → Int
  | none => -1
  | some b => b

/-- The order from what stands on, at most so many places. -/
def run (l : List (Int × Int)) (prio : Nat → Int) (n : Nat) : Nat → List Nat → List Nat
  | 0, out => out
  | f + 1, out => match pick (ready l out) prio n with
    | none => out
    | some b => run l prio n f (out ++ [b])
/-- The order of n things. -/
def ordered (l : List (Int × Int)) (prio : Nat → Int) (n : Nat) : List Nat := run l prio n n []
theorem run_none {l : List (Int × Int)} {prio : Nat → Int} {n f : Nat} {out : List Nat} (h : pick (ready l out) prio n = none) : run l prio n f out = out := by
  cases f with
  | zero => rfl
  | succ f => simp [run, h]
theorem run_some {l : List (Int × Int)} {prio : Nat → Int} {n f b : Nat} {out : List Nat} (h : pick (ready l out) prio n = some b) : run l prio n (f + 1) out = run l prio n f (out ++ [b]) := by
  simp [run, h]
theorem ready_not {l : List (Int × Int)} {out : List Nat} {b : Nat} (h : ready l out b = true) : b ∉ out := by
  simp [ready] at h; exact h.1
/-- What stands: things, none twice. -/
structure Stand (n : Nat) (out : List Nat) : Prop where
  lt : ∀ b, b ∈ out → b < n
  nodup : out.Nodup
theorem Stand.snoc {n : Nat} {out : List Nat} {b : Nat} (h : Stand n out) (hb : b < n) (hn : b ∉ out) : Stand n (out ++ [b]) :=
  ⟨fun x hx => by rcases List.mem_append.1 hx with hx | hx; exact h.lt x hx; simp at hx; omega,
   by rw [List.nodup_append]; exact ⟨h.nodup, by simp, fun x hx y hy => by simp at hy; subst hy; exact fun e => hn (e ▸ hx)⟩⟩
theorem pick_skip {r : Nat → Bool} {prio : Nat → Int} {k : Nat} (h : r k = false) : pick r prio (k + 1) = pick r prio k := by
  cases hp : pick r prio k <;> simp [pick, hp, h]
theorem pick_first {r : Nat → Bool} {prio : Nat → Int} {k : Nat} (h : r k = true) (hp : pick r prio k = none) : pick r prio (k + 1) = some k := by simp [pick, hp, h]
theorem pick_more {r : Nat → Bool} {prio : Nat → Int} {k b : Nat} (h : r k = true) (hp : pick r prio k = some b) (hb : prio b < prio k) : pick r prio (k + 1) = some k := by simp [pick, hp, h, hb]
theorem pick_stay {r : Nat → Bool} {prio : Nat → Int} {k b : Nat} (hp : pick r prio k = some b) (hb : ¬ prio b < prio k) : pick r prio (k + 1) = some b := by simp [pick, hp, hb]
theorem succs_lt {l : List (Int × Int)} {n b x : Nat} (h : ∀ p, p ∈ l → 0 ≤ p.1 ∧ p.1 < n ∧ 0 ≤ p.2 ∧ p.2 < n) (hx : x ∈ succs l b) : x < n := by
  unfold succs at hx
  simp at hx
  obtain ⟨a, c, hm, rfl⟩ := hx
  have := h _ hm.1
  omega
theorem succs_pos {l : List (Int × Int)} {out : List Nat} {b t x : Nat} (hb : b ∉ out) (h : (succs l b)[t]? = some x) : ((succs l b).take t).count x + 1 ≤ cnt l out x := by
  have h1 := count_take_succ _ _ _ x h
  have h2 : ((succs l b).take (t + 1)).count x ≤ (succs l b).count x := List.Sublist.count_le x (List.take_sublist _ _)
  rw [succs_count] at h2
  have h3 := cnt_snoc (l := l) hb x
  rw [if_pos rfl] at h1
  omega
end Go.Proofs.YtkkaejbdekdljaaDoor
