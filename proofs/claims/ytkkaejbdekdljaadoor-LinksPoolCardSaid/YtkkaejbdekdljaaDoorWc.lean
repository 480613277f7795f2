/- Words: lists of pairs. -/
import Derived.Test.YtkkaejbdekdljaaDoorProg
import Derived.Test.YtkkaejbdekdljaaDoorWb
set_option linter.unusedVariables false
set_option linter.unusedSimpArgs false
namespace Go.Proofs.YtkkaejbdekdljaaDoor
open Go.RowKit

theorem Tryd.slt22 : SlT Tryd.prog 22 67 2 16 := ⟨Tryd.underlying22, ⟨.agg #[.int .i64 0, .int .i64 0], by kernel_rfl, rfl⟩, by decide, by decide⟩
def twos (l : List (Int × Int)) : List Value := l.flatMap fun p => [.int .i64 p.1, .int .i64 p.2]
theorem twos_length (l : List (Int × Int)) : (twos l).length = 2 * l.length := by
  induction l with
  | nil => rfl
  | cons p l ih => simp [twos] at ih ⊢; omega
theorem twos_append (l r : List (Int × Int)) : twos (l ++ r) = twos l ++ twos r := by simp [twos]
theorem twos_at (l : List (Int × Int)) (k : Nat) (p : Int × Int) (h : l[k]? = some p) : (twos l)[k * 2]? = some (.int .i64 p.1) ∧ (twos l)[k * 2 + 1]? = some (.int .i64 p.2) := by
  induction l generalizing k with
  | nil => simp at h
  | cons q l ih =>
    cases k with
    | zero => simp at h; subst h; simp [twos]
    | succ k =>
      have := ih k (by simpa using h)
      simpa [twos, Nat.add_mul] using this
theorem Sl.two {w : World} {A : Option Addr} {n : Nat} {l : List (Int × Int)} (h : Sl w A n 2 (twos l)) {k : Nat} (hk : k < n) :
    ∃ b off p, A = some ⟨b, off, none⟩ ∧ l[k]? = some p ∧ w.cell? ⟨b, off + k * 2, none⟩ = some (.int .i64 p.1) ∧ w.cell? ⟨b, off + k * 2 + 1, none⟩ = some (.int .i64 p.2) := by
  obtain ⟨b, off, e, hc⟩ := h.cells (by omega)
  have hl : k < l.length := by have := h.len; rw [twos_length] at this; omega
  have := twos_at l k l[k] (List.getElem?_eq_getElem hl)
  refine ⟨b, off, l[k], e, List.getElem?_eq_getElem hl, hc _ _ this.1, ?_⟩
  rw [Nat.add_assoc]
  exact hc _ _ this.2
end Go.Proofs.YtkkaejbdekdljaaDoor
