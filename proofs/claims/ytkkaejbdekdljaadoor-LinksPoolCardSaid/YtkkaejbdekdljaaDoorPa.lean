/- Plain: groups of pairs: the least labelling; a forest with its roots. No program in sight. -/
set_option linter.unusedVariables false
set_option linter.unusedSimpArgs false
namespace Go.Proofs.YtkkaejbdekdljaaDoor

/-- R gives each thing below n the least of its group. -/
structure Least (n : Nat) (l : List (Int × Int)) (R : Nat → Nat) : Prop where
  le : ∀ i, i < n → R i ≤ i
  pair : ∀ p, p ∈ l → R p.1.toNat = R p.2.toNat
  any : ∀ c : Nat → Nat, (∀ p, p ∈ l → c p.1.toNat = c p.2.toNat) → ∀ i, i < n → c (R i) = c i

theorem Least.unique {n : Nat} {l : List (Int × Int)} {R R' : Nat → Nat} (h : Least n l R) (h' : Least n l R') : ∀ i, i < n → R i = R' i := by
  intro i hi
  have a := h.any R' h'.pair i hi
  have b := h'.any R h.pair i hi
  have c := h.le i hi
  have d := h'.le i hi
  have e := h.le (R' i) (by omega)
  have f := h'.le (R i) (by omega)
  omega

/-- The root of x in a forest. -/
def rt (f : Nat → Nat) (x : Nat) : Nat := if f x < x then rt f (f x) else x
termination_by x

theorem rt_step {f : Nat → Nat} {x : Nat} (h : f x < x) : rt f x = rt f (f x) := by rw [rt, if_pos h]
theorem rt_end {f : Nat → Nat} {x : Nat} (h : ¬ f x < x) : rt f x = x := by rw [rt, if_neg h]
theorem rt_le (f : Nat → Nat) (x : Nat) : rt f x ≤ x := by
  induction x using Nat.strongRecOn with
  | _ x ih =>
    by_cases h : f x < x
    · rw [rt_step h]; exact Nat.le_trans (ih _ h) (Nat.le_of_lt h)
    · rw [rt_end h]; exact Nat.le_refl _
theorem rt_root (f : Nat → Nat) (x : Nat) : ¬ f (rt f x) < rt f x := by
  induction x using Nat.strongRecOn with
  | _ x ih =>
    by_cases h : f x < x
    · rw [rt_step h]; exact ih _ h
    · rw [rt_end h]; exact h
theorem rt_f (f : Nat → Nat) (x : Nat) (h : f x ≤ x) : rt f (f x) = rt f x := by
  by_cases hx : f x < x
  · rw [rt_step hx]
  · rw [show f x = x by omega]

/-- A function with one value changed. -/
def put (f : Nat → Nat) (x v : Nat) : Nat → Nat := fun y => if y = x then v else f y
theorem put_same (f : Nat → Nat) (x v : Nat) : put f x v x = v := by simp [put]
theorem put_other (f : Nat → Nat) {x y : Nat} (v : Nat) (h : y ≠ x) : put f x v y = f y := by simp [put, h]

theorem rt_half {f : Nat → Nat} {n x : Nat} (hf : ∀ i, i < n → f i ≤ i) (hx : x < n) : ∀ y, rt (put f x (f (f x))) y = rt f y := by
  intro y
  induction y using Nat.strongRecOn with
  | _ y ih =>
    by_cases hy : y = x
    · subst hy
      have h1 := hf y hx
      have h2 := hf (f y) (by omega)
      by_cases h : f y < y
      · have h3 : put f y (f (f y)) y < y := by rw [put_same]; omega
        rw [rt_step h3, put_same, ih (f (f y)) (by omega), rt_step h, rt_f f (f y) h2]
      · have h3 : ¬ put f y (f (f y)) y < y := by rw [put_same, show f y = y by omega]; omega
        rw [rt_end h3, rt_end h]
    · by_cases h : f y < y
      · have h3 : put f x (f (f x)) y < y := by rw [put_other _ _ hy]; exact h
        rw [rt_step h3, put_other _ _ hy, ih (f y) h, rt_step h]
      · have h3 : ¬ put f x (f (f x)) y < y := by rw [put_other _ _ hy]; exact h
        rw [rt_end h3, rt_end h]

theorem rt_join {f : Nat → Nat} {hi lo : Nat} (hl : lo ≤ hi) (hh : f hi = hi) (h0 : f lo = lo) : ∀ y, rt (put f hi lo) y = if rt f y = hi then lo else rt f y := by
  intro y
  induction y using Nat.strongRecOn with
  | _ y ih =>
    by_cases hy : y = hi
    · subst hy
      rw [rt_end (f := f) (x := y) (by omega), if_pos rfl]
      by_cases h : lo < y
      · have h3 : put f y lo y < y := by rw [put_same]; exact h
        rw [rt_step h3, put_same, ih lo h, rt_end (f := f) (x := lo) (by omega), if_neg (by omega)]
      · have h3 : ¬ put f y lo y < y := by rw [put_same]; exact h
        rw [rt_end h3]; omega
    · by_cases h : f y < y
      · have h3 : put f hi lo y < y := by rw [put_other _ _ hy]; exact h
        rw [rt_step h3, put_other _ _ hy, ih (f y) h, rt_step h]
      · have h3 : ¬ put f hi lo y < y := by rw [put_other _ _ hy]; exact h
        rw [rt_end h3, rt_end h, if_neg hy]

/-- The forest behind some pairs. -/
structure Tree (n : Nat) (l : List (Int × Int)) (f : Nat → Nat) : Prop where
  le : ∀ i, i < n → f i ≤ i
  pair : ∀ p, p ∈ l → rt f p.1.toNat = rt f p.2.toNat
  any : ∀ c : Nat → Nat, (∀ p, p ∈ l → c p.1.toNat = c p.2.toNat) → ∀ i, i < n → c (rt f i) = c i
theorem Tree.least {n : Nat} {l : List (Int × Int)} {f : Nat → Nat} (h : Tree n l f) : Least n l (rt f) := ⟨fun i _ => rt_le f i, h.pair, h.any⟩
theorem rt_congr {f g : Nat → Nat} {n : Nat} (hf : ∀ i, i < n → f i ≤ i) (h : ∀ i, i < n → f i = g i) : ∀ y, y < n → rt f y = rt g y := by
  intro y
  induction y using Nat.strongRecOn with
  | _ y ih =>
    intro hy
    have e := h y hy
    by_cases hl : f y < y
    · rw [rt_step hl, rt_step (f := g) (by omega), ← e]; exact ih _ hl (by omega)
    · rw [rt_end hl, rt_end (f := g) (by omega)]
theorem Tree.congr {n : Nat} {l : List (Int × Int)} {f g : Nat → Nat} (h : Tree n l f) (hn : ∀ p, p ∈ l → p.1.toNat < n ∧ p.2.toNat < n) (e : ∀ i, i < n → rt g i = rt f i) (hg : ∀ i, i < n → g i ≤ i) : Tree n l g :=
  ⟨hg, fun p hp => by rw [e _ (hn p hp).1, e _ (hn p hp).2]; exact h.pair p hp, fun c hc i hi => by rw [e i hi]; exact h.any c hc i hi⟩
theorem Tree.start (n : Nat) (f : Nat → Nat) (hf : ∀ i, i < n → f i = i) : Tree n [] f :=
  ⟨fun i hi => by rw [hf i hi]; exact Nat.le_refl _, fun p hp => by simp at hp, fun c _ i hi => by rw [rt_end (f := f) (by rw [hf i hi]; omega)]⟩
theorem Tree.snoc {n : Nat} {l : List (Int × Int)} {f g : Nat → Nat} {p : Int × Int} (h : Tree n l f) (hn : ∀ q, q ∈ l → q.1.toNat < n ∧ q.2.toNat < n) (hp : p.1.toNat < n ∧ p.2.toNat < n)
    (e : ∀ i, i < n → rt g i = if rt f i = max (rt f p.1.toNat) (rt f p.2.toNat) then min (rt f p.1.toNat) (rt f p.2.toNat) else rt f i) (hg : ∀ i, i < n → g i ≤ i) : Tree n (l ++ [p]) g := by
  refine ⟨hg, fun q hq => ?_, fun c hc i hi => ?_⟩
  · rcases List.mem_append.1 hq with hq | hq
    · rw [e _ (hn q hq).1, e _ (hn q hq).2, h.pair q hq]
    · simp at hq; subst hq
      rw [e _ hp.1, e _ hp.2]
      split <;> split <;> omega
  · have hc' : ∀ q, q ∈ l → c q.1.toNat = c q.2.toNat := fun q hq => hc q (by simp [hq])
    have h1 := h.any c hc' _ hp.1
    have h2 := h.any c hc' _ hp.2
    have h3 := hc p (by simp)
    have h4 := h.any c hc' i hi
    rw [e i hi]
    split
    · rename_i h5
      rw [h5] at h4
      rcases Nat.le_total (rt f p.1.toNat) (rt f p.2.toNat) with hl | hl
      · rw [Nat.min_eq_left hl]; rw [Nat.max_eq_right hl] at h4; omega
      · rw [Nat.min_eq_right hl]; rw [Nat.max_eq_left hl] at h4; omega
    · exact h4

/-- Labels on the way to the least ones. -/
structure Label (n : Nat) (l : List (Int × Int)) (f : Nat → Nat) : Prop where
  le : ∀ i, i < n → f i ≤ i
  any : ∀ c : Nat → Nat, (∀ p, p ∈ l → c p.1.toNat = c p.2.toNat) → ∀ i, i < n → c (f i) = c i
theorem Label.start (n : Nat) (l : List (Int × Int)) (f : Nat → Nat) (hf : ∀ i, i < n → f i = i) : Label n l f :=
  ⟨fun i hi => by rw [hf i hi]; exact Nat.le_refl _, fun c _ i hi => by rw [hf i hi]⟩
theorem Label.left {n : Nat} {l : List (Int × Int)} {f : Nat → Nat} {p : Int × Int} (h : Label n l f) (hp : p ∈ l) (h1 : p.1.toNat < n) (h2 : p.2.toNat < n) (hlt : f p.1.toNat < f p.2.toNat) : Label n l (put f p.2.toNat (f p.1.toNat)) := by
  refine ⟨fun i hi => ?_, fun c hc i hi => ?_⟩
  · by_cases e : i = p.2.toNat
    · subst e; rw [put_same]; have := h.le _ hi; omega
    · rw [put_other _ _ e]; exact h.le i hi
  · by_cases e : i = p.2.toNat
    · subst e; rw [put_same, h.any c hc _ h1]; exact hc p hp
    · rw [put_other _ _ e]; exact h.any c hc i hi
theorem Label.right {n : Nat} {l : List (Int × Int)} {f : Nat → Nat} {p : Int × Int} (h : Label n l f) (hp : p ∈ l) (h1 : p.1.toNat < n) (h2 : p.2.toNat < n) (hlt : f p.2.toNat < f p.1.toNat) : Label n l (put f p.1.toNat (f p.2.toNat)) := by
  refine ⟨fun i hi => ?_, fun c hc i hi => ?_⟩
  · by_cases e : i = p.1.toNat
    · subst e; rw [put_same]; have := h.le _ hi; omega
    · rw [put_other _ _ e]; exact h.le i hi
  · by_cases e : i = p.1.toNat
    · subst e; rw [put_same, h.any c hc _ h2]; exact (hc p hp).symm
    · rw [put_other _ _ e]; exact h.any c hc i hi
theorem Label.least {n : Nat} {l : List (Int × Int)} {f : Nat → Nat} (h : Label n l f) (hp : ∀ p, p ∈ l → f p.1.toNat = f p.2.toNat) : Least n l f := ⟨h.le, hp, h.any⟩

/-- A list as a function. -/
def at_ (l : List Nat) (i : Nat) : Nat := l.getD i 0
theorem at_set (l : List Nat) (i v : Nat) (h : i < l.length) : at_ (l.set i v) = put (at_ l) i v := by
  funext y
  unfold at_ put
  by_cases e : y = i
  · subst e; simp [List.getD_eq_getElem?_getD, h]
  · simp [List.getD_eq_getElem?_getD, List.getElem?_set_ne (Ne.symm e), e]
theorem sum_set_lt (l : List Nat) (i v : Nat) (h : i < l.length) (hv : v < at_ l i) : (l.set i v).sum < l.sum := by
  induction l generalizing i with
  | nil => simp at h
  | cons x l ih =>
    cases i with
    | zero => simp [at_] at hv ⊢; omega
    | succ i =>
      have := ih i (by simpa using h) (by simpa [at_] using hv)
      simp; omega
theorem list_of_at {l r : List Nat} (hl : l.length = r.length) (h : ∀ i, i < l.length → at_ l i = at_ r i) : l = r := by
  refine List.ext_getElem hl fun i h1 h2 => ?_
  have := h i h1
  simpa [at_, List.getD_eq_getElem?_getD, h1, h2] using this
end Go.Proofs.YtkkaejbdekdljaaDoor
