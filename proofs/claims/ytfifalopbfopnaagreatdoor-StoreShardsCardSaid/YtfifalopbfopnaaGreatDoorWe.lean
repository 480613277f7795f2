/- Words: lists of elements of so many cells each. -/
import Derived.Test.YtfifalopbfopnaaGreatDoorWb
set_option linter.unusedVariables false
set_option linter.unusedSimpArgs false
namespace Go.Proofs.YtfifalopbfopnaaGreatDoor
open Go.RowKit

section
variable {α : Type} {enc : α → List Value} {sz : Nat}
/-- The cells of a list's elements. -/
def cellsL (enc : α → List Value) (l : List α) : List Value := l.flatMap enc
theorem cellsL_append (l r : List α) : cellsL enc (l ++ r) = cellsL enc l ++ cellsL enc r := by simp [cellsL]
theorem cellsL_one (p : α) : cellsL enc [p] = enc p := by simp [cellsL]
theorem cellsL_length (hs : ∀ p, (enc p).length = sz) (l : List α) : (cellsL enc l).length = l.length * sz := by
  induction l with
  | nil => simp [cellsL]
  | cons p l ih => simp only [cellsL, List.flatMap_cons, List.length_append, List.length_cons, hs] at ih ⊢; rw [ih, Nat.add_mul]; omega
theorem cellsL_at (hs : ∀ p, (enc p).length = sz) (l : List α) (k j : Nat) (p : α) (h : l[k]? = some p) (hj : j < sz) : (cellsL enc l)[k * sz + j]? = (enc p)[j]? := by
  induction l generalizing k with
  | nil => simp at h
  | cons q l ih =>
    cases k with
    | zero =>
      simp at h; subst h
      simp only [cellsL, List.flatMap_cons, Nat.zero_mul, Nat.zero_add]
      rw [List.getElem?_append_left (by rw [hs]; exact hj)]
    | succ k =>
      have := ih k (by simpa using h)
      simp only [cellsL, List.flatMap_cons] at this ⊢
      rw [List.getElem?_append_right (by rw [hs, Nat.add_mul]; omega), hs, show (k + 1) * sz + j - sz = k * sz + j from by rw [Nat.add_mul]; omega]
      exact this
theorem take_next (l : List α) (k : Nat) (p : α) (h : l[k]? = some p) : cellsL enc (l.take (k + 1)) = cellsL enc (l.take k) ++ enc p := by
  rw [List.take_add_one, h, cellsL_append]; simp [cellsL]
theorem Sl.elem {w : World} {A : Option Addr} {n : Nat} {l : List α} (hs : ∀ p, (enc p).length = sz) (hz : 0 < sz) (h : Sl w A n sz (cellsL enc l)) {k : Nat} (hk : k < n) :
    ∃ b off p, A = some ⟨b, off, none⟩ ∧ l[k]? = some p ∧ ∀ j v, (enc p)[j]? = some v → w.cell? ⟨b, off + k * sz + j, none⟩ = some v := by
  obtain ⟨b, off, e, hc⟩ := h.cells (by omega)
  have hl : k < l.length := by
    have := h.len; rw [cellsL_length hs] at this
    have : l.length = n := Nat.eq_of_mul_eq_mul_right hz this
    omega
  refine ⟨b, off, l[k], e, List.getElem?_eq_getElem hl, fun j v hv => ?_⟩
  rw [Nat.add_assoc]
  refine hc _ v ?_
  have hj : j < sz := by have := (List.getElem?_eq_some_iff.1 hv).1; rwa [hs] at this
  rw [cellsL_at hs l k j l[k] (List.getElem?_eq_getElem hl) hj]; exact hv
theorem Sl.length {w : World} {A : Option Addr} {n : Nat} {l : List α} (hs : ∀ p, (enc p).length = sz) (hz : 0 < sz) (h : Sl w A n sz (cellsL enc l)) : l.length = n := by
  have := h.len; rw [cellsL_length hs] at this
  exact Nat.eq_of_mul_eq_mul_right hz this
end
/-- A list that was lent: the block behind it is known beyond the list's end. -/
def Lent (w : World) (B : Nat) (e : TypeId) (sz g n cap : Nat) (xs : List Value) : Prop := w.ownsRow B e sz (.slice (some ⟨g, 0, none⟩) (n + 16) cap) (n + 16) xs
theorem Lent.cap {w : World} {B sz g n cap : Nat} {e : TypeId} {xs : List Value} (h : Lent w B e sz g n cap xs) : n + 16 ≤ cap ∧ cap ≤ 9223372036854775807 := by
  rcases h.2 with ⟨h1, _⟩ | ⟨g', cap', cur, h1, _, _, h2, h3, _⟩
  · cases h1
  · injection h1 with h1 h4 h5
    subst h5
    unfold maxLen at h3
    omega
theorem Lent.new_ {w w' : World} {B sz g n cap : Nat} {e : TypeId} {xs : List Value} (h : Lent w B e sz g n cap xs) (hm : New w w') : Lent w' B e sz g n cap xs := own_new h hm
theorem Lent.full {w : World} {B sz g n cap : Nat} {e : TypeId} {xs : List Value} (h : Lent w B e sz g n cap xs) : Sl w (some ⟨g, 0, none⟩) (n + 16) sz xs := own_sl h
theorem Lent.sl {w : World} {B sz g n cap : Nat} {e : TypeId} {xs ys : List Value} (h : Lent w B e sz g n cap (xs ++ ys)) (hl : xs.length = n * sz) : Sl w (some ⟨g, 0, none⟩) n sz xs :=
  ⟨hl, by have := h.full.le; omega, fun hn => by
    obtain ⟨b, off, e, hc⟩ := h.full.cells (by omega)
    refine ⟨b, off, e, fun j u hu => hc j u ?_⟩
    rw [List.getElem?_append_left (List.getElem?_eq_some_iff.1 hu).1]; exact hu⟩
end Go.Proofs.YtfifalopbfopnaaGreatDoor
