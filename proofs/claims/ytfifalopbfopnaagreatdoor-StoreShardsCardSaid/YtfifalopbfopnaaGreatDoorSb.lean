/- Rows: a slice of slices among the arguments, opened. -/
import Derived.Test.YtfifalopbfopnaaGreatDoorSa
import Derived.Test.YtfifalopbfopnaaGreatDoorWh
import Derived.SizedLaws
set_option linter.unusedVariables false
set_option linter.unusedSimpArgs false
namespace Go.Proofs.YtfifalopbfopnaaGreatDoor
open Go.ChangeShapes Go.WideShapes Go.RowKit

theorem weights_mem_all {H : Type} {P : Program} {e : TypeId} : ∀ {ds : List (DataW H)} {d : DataW H}, d ∈ ds → ∀ n ∈ d.weights P e, n ∈ DataW.weightsAll P e ds
  | a :: r, d, hd, n, hn => by
    simp only [DataW.weightsAll, List.mem_append]
    rcases List.mem_cons.1 hd with rfl | hd
    · exact .inl hn
    · exact .inr (weights_mem_all hd n hn)

section
variable {H : Type} {enc : TypeId × Value → H}
/-- One slice, read at any depth: its elements, and how many its datum has at least. -/
theorem open_slf {α : Type} {en : α → List Value} {sz : Nat} {good : α → Prop} (hs : ∀ p, (en p).length = sz) (hz : 0 < sz) {t e : TypeId} (ht : Tryz.prog.underlying t = some (.slice e)) (hC : Tryz.prog.cellsOf e = sz) {W : World} {fuel : Nat} {cs : List Value} {x : DataW H × List MemPlace}
    (hone : ∀ (fuel : Nat) (cs : List Value) (x : DataW H × List MemPlace), cs.length = sz → DataW.trod enc Tryz.prog W 0 (fun _ => true) true fuel e cs = some x → ∃ q, cs = en q ∧ good q)
    (hf : DataW.trod enc Tryz.prog W 0 (fun _ => true) true fuel t cs = some x) :
    ∃ R n c, ∃ l : List α, cs = [.slice R n c] ∧ l.length = n ∧ Sl W R n sz (cellsL en l) ∧ (∀ (k : Nat) (p : α), l[k]? = some p → good p) ∧ (n = 0 ∨ ∃ es sp, x.1 = .slice es sp ∧ es.length = n) := by
  rcases Go.Deep.open_slice ht hf with ⟨hcs, hx⟩ | ⟨a, len, cap, m, n, D, Pl, hcs, _, hl, hm, hmm, hx, hi⟩
  · exact ⟨none, 0, 0, [], hcs, rfl, by simpa [cellsL] using Sl.nil W none sz, fun k p h => by simp at h, .inl rfl⟩
  · have hmm' : len ≤ m := by rw [hmm]; simp; exact hl
    have hlen : len ≤ 9223372036854775807 := by unfold maxLen at hm; omega
    obtain ⟨l, hll, hq⟩ := list_of (fun i q => W.cells? 0 (a.add (i * sz)) sz = some (en q) ∧ good q) len fun i hil => by
      obtain ⟨cs', hc, hti⟩ := hi i (by omega)
      rw [hC] at hc
      obtain ⟨_, hcl, _⟩ := World.cells?_some hc
      obtain ⟨q, rfl, hg⟩ := hone _ _ _ hcl hti
      exact ⟨q, hc, hg⟩
    refine ⟨some a, len, cap, l, hcs, hll, sl_of_elems hs hz hll hlen fun i q hil j v hv => ?_, fun k p hp => (hq k p hp).2, .inr ⟨_, _, by rw [hx], by simp⟩⟩
    obtain ⟨_, hcl, hat⟩ := World.cells?_some (hq i q hil).1
    have hj : j < sz := by have := (List.getElem?_eq_some_iff.1 hv).1; rwa [hs] at this
    rw [← add_of_add, hat j hj, hv]

theorem open_nest {α : Type} {en : α → List Value} {sz by' : Nat} {good : α → Prop} (hs : ∀ p, (en p).length = sz) (hz : 0 < sz) {t e e2 : TypeId} (ht : Tryz.prog.underlying t = some (.slice e)) (he : Tryz.prog.underlying e = some (.slice e2)) (hC1 : Tryz.prog.cellsOf e = 1) (hC : Tryz.prog.cellsOf e2 = sz) (hby : Tryz.prog.bytesOf e2 = by') (hby0 : 0 < by')
    {W : World} {a0 : Option Addr} {len cap : Nat} {d : DataW H} {p : List MemPlace}
    (hone : ∀ (fuel : Nat) (cs : List Value) (x : DataW H × List MemPlace), cs.length = sz → DataW.trod enc Tryz.prog W 0 (fun _ => true) true fuel e2 cs = some x → ∃ q, cs = en q ∧ good q)
    (h : DataW.Trod enc Tryz.prog W 0 (fun _ => true) true t (.slice a0 len cap) d p) (hw : ∀ n ∈ d.weights Tryz.prog t, n ≤ 140737488355328) :
    ∃ (vs : List Value) (ls : List (List α)), Nest en sz W a0 len vs ls ∧ (∀ (i k : Nat) (l : List α) (x : α), ls[i]? = some l → l[k]? = some x → good x) ∧ ∀ (i : Nat) (l : List α), ls[i]? = some l → l.length ≤ 140737488355328 := by
  obtain ⟨fuel, hf⟩ := h
  rcases Go.Deep.open_slice ht hf with ⟨hcs, hx⟩ | ⟨a, len', cap', m, n, D, Pl, hcs, _, hl, hm, hmm, hx, hi⟩
  · simp [Value.cells] at hcs
    obtain ⟨rfl, rfl, rfl⟩ := hcs
    exact ⟨[], [], ⟨Sl.nil W none 1, rfl, fun i v l h => by simp at h⟩, fun i k l x h => by simp at h, fun i l h => by simp at h⟩
  · simp [Value.cells] at hcs
    obtain ⟨rfl, rfl, rfl⟩ := hcs
    have hmm' : len ≤ m := by rw [hmm]; simp; exact hl
    have hlen : len ≤ 9223372036854775807 := by unfold maxLen at hm; omega
    injection hx with hx1 hx2
    obtain ⟨qs, hll, hq⟩ := list_of (fun i (q : Value × List α) => W.cell? (a.add (i * 1)) = some q.1 ∧ (∃ R c, q.1 = .slice R q.2.length c ∧ Sl W R q.2.length sz (cellsL en q.2)) ∧ (∀ (k : Nat) (x : α), q.2[k]? = some x → good x) ∧ q.2.length ≤ 140737488355328) len fun i hil => by
      obtain ⟨cs', hc, hti⟩ := hi i (by omega)
      rw [hC1] at hc
      obtain ⟨_, hcl, hat⟩ := World.cells?_some hc
      obtain ⟨R, k, c, l, rfl, hk, hsl, hg, hsz⟩ := open_slf hs hz he hC hone hti
      have h0 := hat 0 (by omega)
      refine ⟨(.slice R k c, l), by simpa [Addr.add] using h0, ⟨R, c, by rw [hk], by rw [hk]; exact hsl⟩, hg, ?_⟩
      rcases hsz with h0 | ⟨es, sp, hx0, hes⟩
      · simp only; omega
      · have hD : D i = .slice es sp := hx0
        have hm1 : (es.length + sp.length) * by' ∈ (D i).weights Tryz.prog e := by rw [hD]; simp [DataW.weights, he, hby]
        have hmem : D i ∈ (List.range len).map D := List.mem_map.2 ⟨i, List.mem_range.2 hil, rfl⟩
        have := hw _ (by rw [hx1]; simp only [DataW.weights, ht]; exact List.mem_cons_of_mem _ (List.mem_append_left _ (weights_mem_all hmem _ hm1)))
        have h2 : (es.length + sp.length) * 1 ≤ (es.length + sp.length) * by' := Nat.mul_le_mul_left _ hby0
        simp only
        omega
    refine ⟨qs.map (·.1), qs.map (·.2), ⟨?_, by simp [hll], fun i v l hv hl => ?_⟩, fun i k l x hl hx => ?_, fun i l hl => ?_⟩
    · refine Sl.of_add (by simp [hll]) hlen (by omega) fun _ => ⟨a, rfl, fun j u hu => ?_⟩
      rw [List.getElem?_map] at hu
      obtain ⟨q, hq1, rfl⟩ := Option.map_eq_some_iff.1 hu
      have := (hq j q hq1).1
      rwa [Nat.mul_one] at this
    · rw [List.getElem?_map] at hv hl
      obtain ⟨q, hq1, rfl⟩ := Option.map_eq_some_iff.1 hv
      rw [hq1] at hl
      simp at hl
      subst hl
      exact (hq i q hq1).2.1
    · rw [List.getElem?_map] at hl
      obtain ⟨q, hq1, rfl⟩ := Option.map_eq_some_iff.1 hl
      exact (hq i q hq1).2.2.1 k x hx
    · rw [List.getElem?_map] at hl
      obtain ⟨q, hq1, rfl⟩ := Option.map_eq_some_iff.1 hl
      exact (hq i q hq1).2.2.2
end
end Go.Proofs.YtfifalopbfopnaaGreatDoor
