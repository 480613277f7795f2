/- Rows: a list of calls among the arguments. -/
import Derived.Test.YtfifalopbfopnaaGreatDoorSb
import Derived.Test.YtfifalopbfopnaaGreatDoorUja
import Derived.SevenTiedAt
set_option linter.unusedVariables false
set_option linter.unusedSimpArgs false
namespace Go.Proofs.YtfifalopbfopnaaGreatDoor
open Go.ChangeShapes Go.WideShapes Go.RowKit

theorem Tryz.cellsI : Tryz.prog.cellsOf 3 = 1 := by kernel_rfl
theorem Tryz.cellsS : Tryz.prog.cellsOf 9 = 1 := by kernel_rfl
theorem Tryz.cellsK : Tryz.prog.cellsOf 33 = 2 := by kernel_rfl
set_option maxRecDepth 100000 in
theorem hone_key {H : Type} {enc : TypeId × Value → H} {W : World} : ∀ (fuel : Nat) (cs : List Value) (x : DataW H × List MemPlace), cs.length = 2 → DataW.trod enc Tryz.prog W 0 (fun _ => true) true fuel 33 cs = some x → ∃ q : Key2, cs = encKey q ∧ KeyWf q := fun fuel cs x hl h => by
  obtain ⟨xs, m, _, _, _, hxl, hi⟩ := DataW.trod_struct Tryz.underlying33 h
  match cs, hl with
  | [c0, c1], _ =>
    have hxl : xs.length = 2 := hxl
    have h0 : DataW.trod enc Tryz.prog W 0 (fun _ => true) true m 3 (([c0, c1].drop 0).take (Tryz.prog.cellsOf 3)) = xs[0]? := hi 0 _ rfl
    have h1 : DataW.trod enc Tryz.prog W 0 (fun _ => true) true m 3 (([c0, c1].drop 1).take (Tryz.prog.cellsOf 3)) = xs[1]? := hi 1 _ rfl
    rw [List.getElem?_eq_getElem (by omega)] at h0 h1
    rw [Tryz.cellsI] at h0 h1
    obtain ⟨a, ha, _, wa⟩ := DataW.trod_int Tryz.underlying3 h0
    obtain ⟨b, hb, _, wb⟩ := DataW.trod_int Tryz.underlying3 h1
    simp at ha hb
    subst ha hb
    exact ⟨(a, b), rfl, wa, wb⟩
set_option maxRecDepth 100000 in
theorem hone_call {H : Type} {enc : TypeId × Value → H} {W : World} : ∀ (fuel : Nat) (cs : List Value) (x : DataW H × List MemPlace), cs.length = 6 → DataW.trod enc Tryz.prog W 0 (fun _ => true) true fuel 35 cs = some x → ∃ q : CallV, cs = encCall q ∧ CallOk q := fun fuel cs x hl h => by
  obtain ⟨xs, m, _, _, _, hxl, hi⟩ := DataW.trod_struct Tryz.underlying35 h
  match cs, hl with
  | [c0, c1, c2, c3, c4, c5], _ =>
    have hxl : xs.length = 5 := hxl
    have h0 : DataW.trod enc Tryz.prog W 0 (fun _ => true) true m 3 (([c0, c1, c2, c3, c4, c5].drop 0).take (Tryz.prog.cellsOf 3)) = xs[0]? := hi 0 _ rfl
    have h1 : DataW.trod enc Tryz.prog W 0 (fun _ => true) true m 3 (([c0, c1, c2, c3, c4, c5].drop 1).take (Tryz.prog.cellsOf 3)) = xs[1]? := hi 1 _ rfl
    have h2 : DataW.trod enc Tryz.prog W 0 (fun _ => true) true m 33 (([c0, c1, c2, c3, c4, c5].drop 2).take (Tryz.prog.cellsOf 33)) = xs[2]? := hi 2 _ rfl
    have h3 : DataW.trod enc Tryz.prog W 0 (fun _ => true) true m 3 (([c0, c1, c2, c3, c4, c5].drop 4).take (Tryz.prog.cellsOf 3)) = xs[3]? := hi 3 _ rfl
    have h4 : DataW.trod enc Tryz.prog W 0 (fun _ => true) true m 9 (([c0, c1, c2, c3, c4, c5].drop 5).take (Tryz.prog.cellsOf 9)) = xs[4]? := hi 4 _ rfl
    rw [List.getElem?_eq_getElem (by omega)] at h0 h1 h2 h3 h4
    rw [Tryz.cellsI] at h0 h1 h3
    rw [Tryz.cellsK] at h2
    rw [Tryz.cellsS] at h4
    obtain ⟨a, ha, _, wa⟩ := DataW.trod_int Tryz.underlying3 h0
    obtain ⟨b, hb, _, wb⟩ := DataW.trod_int Tryz.underlying3 h1
    obtain ⟨k, hk, wk⟩ := hone_key _ _ _ (by simp) h2
    obtain ⟨d, hd, _, wd⟩ := DataW.trod_int Tryz.underlying3 h3
    obtain ⟨e, he, _, _⟩ := DataW.trod_string Tryz.underlying9 h4
    obtain ⟨k1, k2⟩ := k
    simp [encKey] at ha hb hk hd he
    obtain ⟨hk1, hk2⟩ := hk
    subst ha hb hk1 hk2 hd he
    exact ⟨⟨a, b, (k1, k2), d, e⟩, rfl, wk, wd⟩
section
variable {H : Type} {enc : TypeId × Value → H} {W : World}
/-- A script among the arguments. -/
theorem open_script {a0 : Option Addr} {len cap : Nat} {d : DataW H} {p : List MemPlace} (h : DataW.Trod enc Tryz.prog W 0 (fun _ => true) true 22 (.slice a0 len cap) d p) :
    ∃ cs : List CallV, Sl W a0 len 6 (cellsL encCall cs) ∧ ∀ c ∈ cs, CallOk c := by
  obtain ⟨fuel, hf⟩ := h
  obtain ⟨R, n, c, l, e, hl, hs, hg, _⟩ := open_slf (en := encCall) (good := CallOk) encCall_len (by decide) Tryz.underlying22 (by kernel_rfl) hone_call hf
  simp [Value.cells] at e
  obtain ⟨rfl, rfl, rfl⟩ := e
  exact ⟨l, hs, fun c hc => by
    obtain ⟨i, hi⟩ := List.getElem?_of_mem hc
    exact hg i c hi⟩
end

end Go.Proofs.YtfifalopbfopnaaGreatDoor
