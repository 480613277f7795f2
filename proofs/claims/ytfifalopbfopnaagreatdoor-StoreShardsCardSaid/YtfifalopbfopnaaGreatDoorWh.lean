/- Words: a slice of slices that reads as a list of lists. -/
import Derived.Test.YtfifalopbfopnaaGreatDoorWe
import Derived.Test.YtfifalopbfopnaaGreatDoorWg
set_option linter.unusedVariables false
set_option linter.unusedSimpArgs false
namespace Go.Proofs.YtfifalopbfopnaaGreatDoor
open Go.RowKit

/-- A slice of n slices that reads as these lists. -/
structure Nest {α : Type} (enc : α → List Value) (sz : Nat) (w : World) (A : Option Addr) (n : Nat) (vs : List Value) (ls : List (List α)) : Prop where
  outer : Sl w A n 1 vs
  len : ls.length = n
  row : ∀ (i : Nat) (v : Value) (l : List α), vs[i]? = some v → ls[i]? = some l → ∃ R c, v = .slice R l.length c ∧ Sl w R l.length sz (cellsL enc l)

section
variable {α : Type} {enc : α → List Value} {sz : Nat} {w w' : World} {A : Option Addr} {n : Nat} {vs : List Value} {ls : List (List α)}
theorem Nest.new_ (h : Nest enc sz w A n vs ls) (hm : New w w') : Nest enc sz w' A n vs ls :=
  ⟨h.outer.new_ hm, h.len, fun i v l hv hl => by
    obtain ⟨R, c, e, hs⟩ := h.row i v l hv hl
    exact ⟨R, c, e, hs.new_ hm⟩⟩
theorem Nest.at_ (h : Nest enc sz w A n vs ls) {k : Nat} (hk : k < n) : ∃ b off R c l, A = some ⟨b, off, none⟩ ∧ ls[k]? = some l ∧ w.cell? ⟨b, off + k, none⟩ = some (.slice R l.length c) ∧ Sl w R l.length sz (cellsL enc l) ∧ vs[k]? = some (.slice R l.length c) := by
  obtain ⟨b, off, u, e, hu, hc⟩ := h.outer.at1 hk
  have hl : ls[k]? = some (ls[k]'(by rw [h.len]; exact hk)) := List.getElem?_eq_getElem _
  obtain ⟨R, c, rfl, hs⟩ := h.row k u _ hu hl
  exact ⟨b, off, R, c, _, e, hl, hc, hs, hu⟩
theorem own_at {B : Nat} {e : TypeId} {g n cap : Nat} {l : List α} {p : α} {k : Nat} (hs : ∀ p, (enc p).length = sz) (h : w.ownsRow B e sz (.slice (some ⟨g, 0, none⟩) n cap) n (cellsL enc l)) (hp : l[k]? = some p) :
    ∀ j v, (enc p)[j]? = some v → w.cell? ⟨g, k * sz + j, none⟩ = some v := fun j v hv => by
  have hj : j < sz := by have := (List.getElem?_eq_some_iff.1 hv).1; rwa [hs] at this
  have hc : (cellsL enc l)[k * sz + j]? = some v := by rw [cellsL_at hs l k j p hp hj]; exact hv
  rcases h.2 with ⟨h1, _⟩ | ⟨g', cap', cur, h1, _⟩
  · cases h1
  · injection h1 with h1
    injection h1 with h1
    injection h1 with h1
    subst h1
    have := h.cells (g := g) rfl _ v hc
    rwa [add_plain, Nat.zero_add] at this
theorem cellsL_set (hs : ∀ p, (enc p).length = sz) (l : List α) (k j : Nat) (p q : α) (h : l[k]? = some p) (hj : j < sz) (v : Value) (hq : (enc p).set j v = enc q) : (cellsL enc l).set (k * sz + j) v = cellsL enc (l.set k q) := by
  induction l generalizing k with
  | nil => simp at h
  | cons r l ih =>
    cases k with
    | zero =>
      simp at h; subst h
      simp only [cellsL, List.flatMap_cons, Nat.zero_mul, Nat.zero_add, List.set_cons_zero]
      rw [List.set_append_left _ _ (by rw [hs]; exact hj), hq]
    | succ k =>
      have := ih k (by simpa using h)
      simp only [cellsL, List.flatMap_cons, List.set_cons_succ] at this ⊢
      rw [List.set_append_right _ _ (by rw [hs, Nat.add_mul]; omega), hs, show (k + 1) * sz + j - sz = k * sz + j from by rw [Nat.add_mul]; omega, this]
end
end Go.Proofs.YtfifalopbfopnaaGreatDoor
