/-
  custodylaw11.StoreScript returns true for every two numbers of shards and every list of calls, and leaves the list as it was: each call of two stores answers what the document's stores answer; the keys are handed out in memory of their own.
  Conditions: the row's own (the listed variable errors.errorType starts as the program's text lays it: the card ties it). No other.
-/
import Derived.Test.YtfifalopbfopnaaGreatDoorSb
import Derived.Test.YtfifalopbfopnaaGreatDoorUo
import Derived.Test.YtfifalopbfopnaaGreatDoorTie
import Derived.Test.YtfifalopbfopnaaGreatDoorCards
import Derived.SevenTiedAt
set_option linter.unusedVariables false
set_option linter.unusedSimpArgs false
namespace Go.Proofs.YtfifalopbfopnaaGreatDoor
open Go.ChangeShapes Go.WideShapes Go.RowKit

theorem Tryz.cellsI : Tryz.prog.cellsOf 3 = 1 := by kernel_rfl
theorem Tryz.cellsS : Tryz.prog.cellsOf 9 = 1 := by kernel_rfl
theorem Tryz.cellsK : Tryz.prog.cellsOf 33 = 2 := by kernel_rfl
set_option maxRecDepth 100000 in
theorem hone_key {H : Type} {enc : TypeId × Value → H} {W : World} : ∀ (fuel : Nat) (cs : List Value) (x : DataW H × List MemPlace), cs.length = 2 → DataW.trod enc Tryz.prog W 0 (fun _ => true) true fuel 33 cs = some x → ∃ q : Key2, cs = encKey q ∧ KeyWf q := fun fuel cs x hl h => by
  obtain ⟨xs, m, _, _, _, hxl, hi⟩ := DataW.trod_struct Tryz.underlying33 h
  match cs, hl with
  | [c0, c1], _ =>
    have hxl : xs.length = 2 := hxl
    have h0 : DataW.trod enc Tryz.prog W 0 (fun _ => true) true m 3 (([c0, c1].drop 0).take (Tryz.prog.cellsOf 3)) = xs[0]? := hi 0 _ rfl
    have h1 : DataW.trod enc Tryz.prog W 0 (fun _ => true) true m 3 (([c0, c1].drop 1).take (Tryz.prog.cellsOf 3)) = xs[1]? := hi 1 _ rfl
    rw [List.getElem?_eq_getElem (by omega)] at h0 h1
    rw [Tryz.cellsI] at h0 h1
    obtain ⟨a, ha, _, wa⟩ := DataW.trod_int Tryz.underlying3 h0
    obtain ⟨b, hb, _, wb⟩ := DataW.trod_int Tryz.underlying3 h1
    simp at ha hb
    subst ha hb
    exact ⟨(a, b), rfl, wa, wb⟩
set_option maxRecDepth 100000 in
theorem hone_call {H : Type} {enc : TypeId × Value → H} {W : World} : ∀ (fuel : Nat) (cs : List Value) (x : DataW H × List MemPlace), cs.length = 6 → DataW.trod enc Tryz.prog W 0 (fun _ => true) true fuel 35 cs = some x → ∃ q : CallV, cs = encCall q ∧ CallOk q := fun fuel cs x hl h => by
  obtain ⟨xs, m, _, _, _, hxl, hi⟩ := DataW.trod_struct Tryz.underlying35 h
  match cs, hl with
  | [c0, c1, c2, c3, c4, c5], _ =>
    have hxl : xs.length = 5 := hxl
    have h0 : DataW.trod enc Tryz.prog W 0 (fun _ => true) true m 3 (([c0, c1, c2, c3, c4, c5].drop 0).take (Tryz.prog.cellsOf 3)) = xs[0]? := hi 0 _ rfl
    have h1 : DataW.trod enc Tryz.prog W 0 (fun _ => true) true m 3 (([c0, c1, c2, c3, c4, c5].drop 1).take (Tryz.prog.cellsOf 3)) = xs[1]? := hi 1 _ rfl
    have h2 : DataW.trod enc Tryz.prog W 0 (fun _ => true) true m 33 (([c0, c1, c2, c3, c4, c5].drop 2).take (Tryz.prog.cellsOf 33)) = xs[2]? := hi 2 _ rfl
    have h3 : DataW.trod enc Tryz.prog W 0 (fun _ => true) true m 3 (([c0, c1, c2, c3, c4, c5].drop 4).take (Tryz.prog.cellsOf 3)) = xs[3]? := hi 3 _ rfl
    have h4 : DataW.trod enc Tryz.prog W 0 (fun _ => true) true m 9 (([c0, c1, c2, c3, c4, c5].drop 5).take (Tryz.prog.cellsOf 9)) = xs[4]? := hi 4 _ rfl
    rw [List.getElem?_eq_getElem (by omega)] at h0 h1 h2 h3 h4
    rw [Tryz.cellsI] at h0 h1 h3
    rw [Tryz.cellsK] at h2
    rw [Tryz.cellsS] at h4
    obtain ⟨a, ha, _, wa⟩ := DataW.trod_int Tryz.underlying3 h0
    obtain ⟨b, hb, _, wb⟩ := DataW.trod_int Tryz.underlying3 h1
    obtain ⟨k, hk, wk⟩ := hone_key _ _ _ (by simp) h2
    obtain ⟨d, hd, _, wd⟩ := DataW.trod_int Tryz.underlying3 h3
    obtain ⟨e, he, _, _⟩ := DataW.trod_string Tryz.underlying9 h4
    obtain ⟨k1, k2⟩ := k
    simp [encKey] at ha hb hk hd he
    obtain ⟨hk1, hk2⟩ := hk
    subst ha hb hk1 hk2 hd he
    exact ⟨⟨a, b, (k1, k2), d, e⟩, rfl, wk, wd⟩
section
variable {H : Type} {enc : TypeId × Value → H} {W : World}
/-- A script among the arguments. -/
theorem open_script {a0 : Option Addr} {len cap : Nat} {d : DataW H} {p : List MemPlace} (h : DataW.Trod enc Tryz.prog W 0 (fun _ => true) true 22 (.slice a0 len cap) d p) :
    ∃ cs : List CallV, Sl W a0 len 6 (cellsL encCall cs) ∧ ∀ c ∈ cs, CallOk c := by
  obtain ⟨fuel, hf⟩ := h
  obtain ⟨R, n, c, l, e, hl, hs, hg, _⟩ := open_slf (en := encCall) (good := CallOk) encCall_len (by decide) Tryz.underlying22 (by kernel_rfl) hone_call hf
  simp [Value.cells] at e
  obtain ⟨rfl, rfl, rfl⟩ := e
  exact ⟨l, hs, fun c hc => by
    obtain ⟨i, hi⟩ := List.getElem?_of_mem hc
    exact hg i c hi⟩
end

set_option maxRecDepth 100000 in
theorem script_lifted (os : Os) (started : os.Started) (H : Type) (enc : TypeId × Value → H) :
    ReturnsInHanded {} Tryz.checked os 3 .any (fun w args => (Rows.storeScriptSpec.pre enc Tryz.prog Tryz.f3 [] false w args ∧ laidMetH Tryz.prog [("errors.errorType", Rows.laid_errors_errorType)] w) ∧ sizedMet enc Tryz.prog Tryz.f3 (OpenSpec.ofChange Rows.storeScriptSpec) false w args)
      (Rows.storeScriptSpec.post enc Tryz.prog Tryz.f3 false true false false) := by
  refine returnsInHanded_of_change_and (C := Tryz.checked) (X := fun w _ => laidMetH Tryz.prog [("errors.errorType", Rows.laid_errors_errorType)] w) (fun _ _ _ hh h => h.of_heap hh) Tryz.own started (by kernel_rfl) Tryz.func3
    (ChangeSpec.witness_at (enc := enc) (C := Tryz.checked) (os := os) (X := fun w _ => laidMetH Tryz.prog [("errors.errorType", Rows.laid_errors_errorType)] w) false (laidWorld os) #[.int .i64 0, .int .i64 0, .slice none 0 0] 8 rfl (by kernel_rfl) (by kernel_rfl) (by kernel_rfl) (by kernel_rfl) (by kernel_rfl) (laidWorld_met os _)) ?_
  intro W base args ds gs before hval0 hW _ _ hL _
  have hval : ∀ (j : Nat) t v, Tryz.f3.params[j]? = some t → args[j]? = some v → Value.okWide Tryz.prog W .any base t v := hval0
  have hW' := hW
  obtain ⟨p, q, hA0, hV0, rfl, hfz, hnd⟩ := hW
  have hA : DataW.TrodAll enc Tryz.prog W 0 (fun _ => true) true Tryz.f3.params.toList args.toList ds p := hA0
  have hV : DataW.TrodVars enc Tryz.prog W (fun _ => true) [] gs q := hV0
  rw [Tryz.params3] at hA hval
  obtain ⟨v0, v1, v2, d0, d1, d2, p0, p1, p2, rfl, rfl, rfl, h0, h1, h2⟩ := trodAll_three hA
  obtain ⟨a, rfl, rfl, rfl, hwa⟩ := open_int Tryz.underlying3 (hval 0 3 v0 rfl rfl) h0
  obtain ⟨b, rfl, rfl, rfl, hwb⟩ := open_int Tryz.underlying3 (hval 1 3 v1 rfl rfl) h1
  obtain ⟨a0, len, cap, rfl⟩ := okWide_slice Tryz.underlying22 (hval 2 22 v2 rfl rfl)
  have hg := handle_of_laid hL
  obtain ⟨rfl, rfl⟩ : gs = [] ∧ q = [] := by
    cases gs with
    | nil => exact ⟨rfl, hV⟩
    | cons g r => exact absurd hV (by intro h; cases h)
  obtain ⟨cs, hsl, hok⟩ := open_script h2
  have e1 : Rows.storeScriptSpec.fn H ([.lit (.int .i64 a), .lit (.int .i64 b), d2] ++ []) = { results := [.lit (.bool true)], args := [.lit (.int .i64 a), .lit (.int .i64 b), d2] } := by simp [Rows.storeScriptSpec]
  refine (storeScriptLaw_any a b a0 len cap cs W hsl hok hg).mono fun e W' ⟨he, hw⟩ => ?_
  have hb := ends_row hw
  have hlt2 : ∀ x ∈ p2, x.block < W.heap.size := fun x hx => hW'.lt x (by simp [hx])
  subst he
  refine ⟨_, rfl, _, _, _, [], [] ++ [] ++ p2, [], hW', ?_, ?_, ?_, hb.frame _, fun h => by cases h⟩
  · rw [e1]; exact trodAll_mk1 (shut_bool Tryz.underlying4 true)
  · rw [e1]; exact trodAll_mk3 (shut_int Tryz.underlying3 hwa) (shut_int Tryz.underlying3 hwb) (Below.trod Tryz.laidOut (by kernel_rfl) (by rw [Tryz.ntypes]; decide) h2 hb hlt2)
  · rw [e1]; rfl

theorem script_row : Rows.StoreScriptSaid :=
  OpenClaim.holds_of_wide 3 Tryz.f3 rfl rfl rfl rfl rfl rfl rfl ⟨rfl, rfl, rfl, rfl, rfl⟩ rfl rfl rfl rfl rfl (by kernel_rfl) Tryz.func3 (by kernel_rfl)
    (of_decide_eq_true (by kernel_rfl)) (by unfold Func.isWrapper; rw [if_neg (of_decide_eq_false (by kernel_rfl))]; exact ⟨rfl, rfl⟩)
    (fun os started H enc _ => script_lifted os started H enc)

theorem storeScript_holds : Rows.StoreScriptCardSaid :=
  Claim7.holds_tied_plain_at .later [] [.handle] true Rows.storeScriptCard.stood.harness true
    script_row (fun _ h => by cases h) (by kernel_rfl) (fun _ h => by cases h) storeScript_row_tie rfl ⟨rfl, rfl⟩ (by kernel_rfl) rfl
    (fun f fn hf hfn => by
      obtain rfl : f = 3 := Option.some.inj ((show Tryz.prog.funcNamed "custody/custodylaw11.StoreScript" = some 3 by kernel_rfl).symm.trans hf) |>.symm
      obtain rfl : fn = Tryz.f3 := (Option.some.inj (Tryz.func3.symm.trans hfn)).symm
      refine ⟨by kernel_rfl, fun j t ht => ?_⟩
      rw [Tryz.params3] at ht
      match j, ht with
      | 0, ht => simp at ht; subst ht; exact (show Tryz.prog.wantsStandIn 3 = false by kernel_rfl)
      | 1, ht => simp at ht; subst ht; exact (show Tryz.prog.wantsStandIn 3 = false by kernel_rfl)
      | 2, ht => simp at ht; subst ht; exact (show Tryz.prog.wantsStandIn 22 = false by kernel_rfl)
      | j + 3, ht => simp at ht)
    (by kernel_rfl)
#print axioms storeScript_holds
end Go.Proofs.YtfifalopbfopnaaGreatDoor
