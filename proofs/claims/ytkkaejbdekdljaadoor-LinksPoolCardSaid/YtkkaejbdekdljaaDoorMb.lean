/- Words: legs as keys of a map. -/
import Derived.Test.YtkkaejbdekdljaaDoorMa
import Derived.Test.YtkkaejbdekdljaaDoorKLegs
import Derived.Test.YtkkaejbdekdljaaDoorPc
import Derived.DeepKeys4
set_option linter.unusedVariables false
set_option linter.unusedSimpArgs false
namespace Go.Proofs.YtkkaejbdekdljaaDoor
open Go.RowKit Go.Maps

def legVal (p : Leg5) : Value := .agg #[.int .i64 p.1, .int .i64 p.2.1, .int .i64 p.2.2.1, .int .i64 p.2.2.2.1, .int .i64 p.2.2.2.2]
theorem legVal_inj (x y : Leg5) (h : legVal x = legVal y) : x = y := by
  obtain ⟨a, b, c, d, e⟩ := x
  obtain ⟨a', b', c', d', e'⟩ := y
  simpa [legVal] using h
theorem Tryd.laidOutM : laidOutB Tryd.prog = true := by kernel_rfl
theorem Tryd.keyedLeg : Keyed Tryd.prog 84 := Keyed.of_law (deep_law_laid Tryd.laidOutM (m := 4) (by decide) (by rw [show Tryd.prog.types.size = 179 from by kernel_rfl]; decide) (by kernel_rfl) (by kernel_rfl))
def LegWf (p : Leg5) : Prop := (Lit.int .i64 p.1).wf = true ∧ (Lit.int .i64 p.2.1).wf = true ∧ (Lit.int .i64 p.2.2.1).wf = true ∧ (Lit.int .i64 p.2.2.2.1).wf = true ∧ (Lit.int .i64 p.2.2.2.2).wf = true
theorem LegWf.key {p : Leg5} (h : LegWf p) : LegWf (legKey p) := ⟨h.1, h.2.1, h.2.2.1, (show (Lit.int .i64 0).wf = true by decide), h.2.2.2.2⟩
theorem LegWf.qty {p : Leg5} (h : LegWf p) : legQty p ≤ 9223372036854775807 := by
  have h3 := of_decide_eq_true ((Bool.and_eq_true _ _).mp h.2.2.2.1).2
  exact h3
theorem Tryd.klInt (d : Nat) {x : Int} (h : (Lit.int .i64 x).wf = true) : Tryd.prog.keyLits (d + 1) 3 [.int .i64 x] = some [.int .i64 x] := by
  unfold Program.keyLits; rw [Tryd.underlying3]; simp [h]
theorem Tryd.klInt64 (d : Nat) {x : Int} (h : (Lit.int .i64 x).wf = true) : Tryd.prog.keyLits (d + 1) 2 [.int .i64 x] = some [.int .i64 x] := by
  unfold Program.keyLits; rw [Tryd.underlying2]; simp [h]
theorem Tryd.cellsLeg : Tryd.prog.cellsOf 84 = 5 := by kernel_rfl
theorem Tryd.cellsInt3 : Tryd.prog.cellsOf 3 = 1 := by kernel_rfl
theorem Tryd.cellsInt64 : Tryd.prog.cellsOf 2 = 1 := by kernel_rfl
theorem Tryd.klLeg (d : Nat) {x0 x1 x2 x3 x4 : Int} (h0 : (Lit.int .i64 x0).wf = true) (h1 : (Lit.int .i64 x1).wf = true) (h2 : (Lit.int .i64 x2).wf = true) (h3 : (Lit.int .i64 x3).wf = true) (h4 : (Lit.int .i64 x4).wf = true) :
    Tryd.prog.keyLits (d + 2) 84 [.int .i64 x0, .int .i64 x1, .int .i64 x2, .int .i64 x3, .int .i64 x4] = some [.int .i64 x0, .int .i64 x1, .int .i64 x2, .int .i64 x3, .int .i64 x4] := by
  have k0 := Tryd.klInt d h0
  have k1 := Tryd.klInt d h1
  have k2 := Tryd.klInt d h2
  have k3 := Tryd.klInt64 d h3
  have k4 := Tryd.klInt d h4
  unfold Program.keyLits
  rw [Tryd.underlying84, Tryd.cellsLeg]
  simp [Tryd.cellsInt3, Tryd.cellsInt64, k0, k1, k2, k3, k4]
theorem Tryd.keyOfLeg {p : Leg5} (h : LegWf p) : ∃ kl, keyOf Tryd.prog 84 (legVal p) = some kl := by
  obtain ⟨x0, x1, x2, x3, x4⟩ := p
  obtain ⟨h0, h1, h2, h3, h4⟩ := h
  unfold keyOf
  rw [Tryd.underlying84]
  have e1 : Tryd.prog.keyType 84 = true := by kernel_rfl
  obtain ⟨d, hd⟩ : ∃ d, Tryd.prog.types.size + 1 = d + 2 := ⟨179 - 1, by rw [show Tryd.prog.types.size = 179 from by kernel_rfl]⟩
  have e6 : (legVal (x0, x1, x2, x3, x4)).formed Tryd.prog 84 = true := by
    unfold Value.formed legVal; simp only [Tryd.underlying84, Tryd.cellsLeg]; rfl
  rw [hd]
  simp only [e1, e6, Bool.and_self, if_true]
  have hk := Tryd.klLeg d h0 h1 h2 h3 h4
  simp only [Value.cells, legVal]
  rw [hk]
  exact ⟨_, rfl⟩
end Go.Proofs.YtkkaejbdekdljaaDoor
