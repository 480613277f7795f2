/- The rows' common part: what the listed variable gives a walk; a world that meets the condition; arguments opened to lists; what a walk's end gives a row. -/
import Derived.Test.YtfifalopbfopnaaGreatDoorRows
import Derived.Test.YtfifalopbfopnaaGreatDoorUa
import Derived.Test.YtfifalopbfopnaaGreatDoorWe
import Derived.ChangeSame
import Derived.ChangeVars
import Derived.JoinedOf
import Derived.RowKit
import Derived.RowKitTokens
import Derived.LaidLaws
import Derived.LaidHandle
import Derived.Stop.Joined
import Derived.Deep.Slices
import Derived.OpenShut
import Derived.Carry
set_option linter.unusedVariables false
set_option linter.unusedSimpArgs false
namespace Go.Proofs.YtfifalopbfopnaaGreatDoor
open Go.ChangeShapes Go.WideShapes Go.RowKit

theorem Tryz.own : ownKnob Tryz.prog.godebug = none := by kernel_rfl
theorem Tryz.laidOut : laidOutB Tryz.prog = true := by kernel_rfl
theorem Tryz.et : Tryz.prog.globalNamed "errors.errorType" = some 0 := by kernel_rfl
theorem Tryz.rt : (Tryz.prog.cutTypes.find? (·.1 == "internal/reflectlite.rtype")).map (·.2) = some 176 := by kernel_rfl
theorem Tryz.oneRow : ((List.range 233).filter fun t => Tryz.prog.rowNamed t [101, 114, 114, 111, 114]) = [55] := by kernel_rfl
theorem Tryz.ntypes : Tryz.prog.types.size = 233 := by kernel_rfl
/-- The condition on the listed variable. -/
abbrev laidList {H : Type} : List (String × DataW H) := [("errors.errorType", Rows.laid_errors_errorType)]

theorem handle_of_laid {W : World} (h : laidMetH Tryz.prog [("errors.errorType", Rows.laid_errors_errorType)] W) : ErrVar W := by
  have h' : laidMet Tryz.prog [] W ∧ handlesMet Tryz.prog [("errors.errorType", Rows.laid_errors_errorType)] W := h
  obtain ⟨name, u, ty, e1, e2, e3, e4, e5⟩ := h'.2 _ (List.mem_singleton.2 rfl)
  have en : name = [101, 114, 114, 111, 114] := (Option.some.inj e1).symm
  subst en
  obtain rfl := Option.some.inj (Tryz.rt.symm.trans e2)
  have hm : ty ∈ (List.range 233).filter fun t => Tryz.prog.rowNamed t [101, 114, 114, 111, 114] := List.mem_filter.2 ⟨List.mem_range.2 (by rw [← Tryz.ntypes]; exact e3), e4⟩
  rw [Tryz.oneRow] at hm
  obtain rfl := List.mem_singleton.1 hm
  have hh : typeHandle Tryz.prog 55 = .pointer (some ⟨1, 55, none⟩) := by kernel_rfl
  rw [hh] at e5
  have := World.var?_cell Tryz.et e5 0
  simpa [ErrVar] using this

/-- A world that meets the condition: the settled one, the variable's cell laid. -/
noncomputable def laidWorld (os : Os) : World :=
  let w0 := World.holding Tryz.prog os ⟨#[], #[], []⟩
  { w0 with heap := w0.heap.modify 0 fun
      | .cells _ t frozen => .cells #[.iface 176 (.agg #[.pointer (some ⟨1, 55, none⟩)])] t frozen
      | o => o }
theorem laidWorld_met (os : Os) (args : Array Value) : laidMetH Tryz.prog [("errors.errorType", Rows.laid_errors_errorType)] ((laidWorld os).forCall (fun _ _ => 0) ⟨#[], args, []⟩).memory :=
  laidMetH_of_parts (laidMet_nil _ _) (by kernel_rfl)

/-- A list out of facts on each place. -/
theorem list_of {α : Type} (Q : Nat → α → Prop) : ∀ n, (∀ i, i < n → ∃ p, Q i p) → ∃ l : List α, l.length = n ∧ ∀ i p, l[i]? = some p → Q i p := by
  intro n
  induction n with
  | zero => exact fun _ => ⟨[], rfl, fun i p h => by simp at h⟩
  | succ n ih =>
    intro h
    obtain ⟨l, hl, hq⟩ := ih fun i hi => h i (by omega)
    obtain ⟨p, hp⟩ := h n (by omega)
    refine ⟨l ++ [p], by simp [hl], fun i q hi => ?_⟩
    by_cases hn : i < n
    · rw [List.getElem?_append_left (by omega)] at hi; exact hq i q hi
    · rw [List.getElem?_append_right (by omega)] at hi
      have h0 : i - l.length = 0 := by
        have := (List.getElem?_eq_some_iff.1 hi).1
        simp at this; omega
      rw [h0] at hi
      simp at hi
      subst hi
      obtain rfl : i = n := by omega
      exact hp
theorem sl_of_elems {α : Type} {en : α → List Value} {sz : Nat} (hs : ∀ p, (en p).length = sz) (hz : 0 < sz) {w : World} {a : Addr} {n : Nat} {l : List α} (hl : l.length = n) (hn : n ≤ 9223372036854775807)
    (h : ∀ i p, l[i]? = some p → ∀ j v, (en p)[j]? = some v → w.cell? (a.add (i * sz + j)) = some v) : Sl w (some a) n sz (cellsL en l) := by
  refine Sl.of_add (by rw [cellsL_length hs, hl]) hn hz fun _ => ⟨a, rfl, fun j u hu => ?_⟩
  have hj : j < n * sz := by have := (List.getElem?_eq_some_iff.1 hu).1; rwa [cellsL_length hs, hl] at this
  have hd : j / sz < n := Nat.div_lt_of_lt_mul (by rwa [Nat.mul_comm])
  have hm : j % sz < sz := Nat.mod_lt _ hz
  have e : j / sz * sz + j % sz = j := by rw [Nat.mul_comm]; exact Nat.div_add_mod j sz
  have hp : l[j / sz]? = some (l[j / sz]'(by omega)) := List.getElem?_eq_getElem _
  have := cellsL_at hs l (j / sz) (j % sz) _ hp hm
  rw [e, hu] at this
  have h2 := h _ _ hp (j % sz) u this.symm
  rwa [e] at h2

section
variable {H : Type} {enc : TypeId × Value → H}
/-- An argument that is a slice, opened by what one element's cells are. -/
theorem open_sl {α : Type} {en : α → List Value} {sz : Nat} (hs : ∀ p, (en p).length = sz) (hz : 0 < sz) {t e : TypeId} (ht : Tryz.prog.underlying t = some (.slice e)) (hC : Tryz.prog.cellsOf e = sz) {W : World} {a0 : Option Addr} {len cap : Nat} {d : DataW H} {p : List MemPlace}
    (hone : ∀ (fuel : Nat) (cs : List Value) (x : DataW H × List MemPlace), cs.length = sz → DataW.trod enc Tryz.prog W 0 (fun _ => true) true fuel e cs = some x → ∃ q, cs = en q)
    (h : DataW.Trod enc Tryz.prog W 0 (fun _ => true) true t (.slice a0 len cap) d p) : ∃ l : List α, Sl W a0 len sz (cellsL en l) := by
  obtain ⟨fuel, hf⟩ := h
  rcases Go.Deep.open_slice ht hf with ⟨hcs, hx⟩ | ⟨a, len', cap', m, n, D, Pl, hcs, _, hl, hm, hmm, hx, hi⟩
  · simp [Value.cells] at hcs
    obtain ⟨rfl, rfl, rfl⟩ := hcs
    exact ⟨[], by simpa [cellsL] using Sl.nil W none sz⟩
  · simp [Value.cells] at hcs
    obtain ⟨rfl, rfl, rfl⟩ := hcs
    have hmm' : len ≤ m := by rw [hmm]; simp; exact hl
    have hlen : len ≤ 9223372036854775807 := by unfold maxLen at hm; omega
    obtain ⟨l, hll, hq⟩ := list_of (fun i q => W.cells? 0 (a.add (i * sz)) sz = some (en q)) len fun i hil => by
      obtain ⟨cs', hc, hti⟩ := hi i (by omega)
      rw [hC] at hc
      obtain ⟨_, hcl, _⟩ := World.cells?_some hc
      obtain ⟨q, rfl⟩ := hone _ _ _ hcl hti
      exact ⟨q, hc⟩
    refine ⟨l, sl_of_elems hs hz hll hlen fun i q hil j v hv => ?_⟩
    obtain ⟨_, hcl, hat⟩ := World.cells?_some (hq i q hil)
    have hj : j < sz := by have := (List.getElem?_eq_some_iff.1 hv).1; rwa [hs] at this
    rw [← add_of_add, hat j hj, hv]
theorem hone_int {W : World} : ∀ (fuel : Nat) (cs : List Value) (x : DataW H × List MemPlace), cs.length = 1 → DataW.trod enc Tryz.prog W 0 (fun _ => true) true fuel 3 cs = some x → ∃ q : Int, cs = [.int .i64 q] := fun fuel cs x _ h => by
  obtain ⟨n, rfl, _, _⟩ := DataW.trod_int Tryz.underlying3 h
  exact ⟨n, rfl⟩
end

/-- The end of a walk that leaves all that was there as it was, as a row's end. -/
theorem ends_row {w w' : World} (h : New w w') : Below w.heap.size w w' := Mod.below h (Nat.le_refl _) (fun _ _ h => h)
end Go.Proofs.YtfifalopbfopnaaGreatDoor
