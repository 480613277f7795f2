/-
  custodylaw23.LinksPool returns true for every list of lists of legs, and leaves the lists as they were: links.Pool answers what the document's Pool answers (the number of the error; else the legs, those alike in all but the quantity made one), twice, in memory of its own.
  Conditions: the row's own (the listed variable errors.errorType starts as the program's text lays it: the card ties it). No other.
-/
import Derived.Test.YtkkaejbdekdljaaDoorRGroups
import Derived.Test.YtkkaejbdekdljaaDoorRb
import Derived.Test.YtkkaejbdekdljaaDoorLp
set_option linter.unusedVariables false
set_option linter.unusedSimpArgs false
namespace Go.Proofs.YtkkaejbdekdljaaDoor
open Go.ChangeShapes Go.WideShapes Go.RowKit

set_option maxRecDepth 100000 in
theorem hone_leg {H : Type} {enc : TypeId × Value → H} {W : World} : ∀ (fuel : Nat) (cs : List Value) (x : DataW H × List MemPlace), cs.length = 5 → DataW.trod enc Tryd.prog W 0 (fun _ => true) true fuel 84 cs = some x → ∃ q : Leg5, cs = encLegs q ∧ LegWf q := fun fuel cs x hl h => by
  obtain ⟨xs, m, _, _, _, hxl, hi⟩ := DataW.trod_struct Tryd.underlying84 h
  match cs, hl with
  | [c0, c1, c2, c3, c4], _ =>
    have hxl : xs.length = 5 := hxl
    have h0 : DataW.trod enc Tryd.prog W 0 (fun _ => true) true m 3 (([c0, c1, c2, c3, c4].drop 0).take (Tryd.prog.cellsOf 3)) = xs[0]? := hi 0 _ rfl
    have h1 : DataW.trod enc Tryd.prog W 0 (fun _ => true) true m 3 (([c0, c1, c2, c3, c4].drop 1).take (Tryd.prog.cellsOf 3)) = xs[1]? := hi 1 _ rfl
    have h2 : DataW.trod enc Tryd.prog W 0 (fun _ => true) true m 3 (([c0, c1, c2, c3, c4].drop 2).take (Tryd.prog.cellsOf 3)) = xs[2]? := hi 2 _ rfl
    have h3 : DataW.trod enc Tryd.prog W 0 (fun _ => true) true m 2 (([c0, c1, c2, c3, c4].drop 3).take (Tryd.prog.cellsOf 2)) = xs[3]? := hi 3 _ rfl
    have h4 : DataW.trod enc Tryd.prog W 0 (fun _ => true) true m 3 (([c0, c1, c2, c3, c4].drop 4).take (Tryd.prog.cellsOf 3)) = xs[4]? := hi 4 _ rfl
    rw [List.getElem?_eq_getElem (by omega)] at h0 h1 h2 h3 h4
    rw [Tryd.cellsInt3] at h0 h1 h2 h4
    rw [Tryd.cellsInt64] at h3
    obtain ⟨a, ha, _, wa⟩ := DataW.trod_int Tryd.underlying3 h0
    obtain ⟨b, hb, _, wb⟩ := DataW.trod_int Tryd.underlying3 h1
    obtain ⟨c, hc, _, wc⟩ := DataW.trod_int Tryd.underlying3 h2
    obtain ⟨d, hd, _, wd⟩ := DataW.trod_int Tryd.underlying2 h3
    obtain ⟨e, he, _, we⟩ := DataW.trod_int Tryd.underlying3 h4
    simp at ha hb hc hd he
    subst ha hb hc hd he
    exact ⟨(a, b, c, d, e), rfl, wa, wb, wc, wd, we⟩

set_option maxRecDepth 100000 in
theorem pool_lifted (os : Os) (started : os.Started) (H : Type) (enc : TypeId × Value → H) :
    ReturnsInHanded {} Tryd.checked os 5 .any (fun w args => (Rows.linksPoolSpec.pre enc Tryd.prog Tryd.f5 [] false w args ∧ laidMetH Tryd.prog [("errors.errorType", Rows.laid_errors_errorType)] w) ∧ sizedMet enc Tryd.prog Tryd.f5 (OpenSpec.ofChange Rows.linksPoolSpec) false w args)
      (Rows.linksPoolSpec.post enc Tryd.prog Tryd.f5 false true false false) := by
  refine returnsInHanded_of_change_and (C := Tryd.checked) (X := fun w _ => laidMetH Tryd.prog [("errors.errorType", Rows.laid_errors_errorType)] w) (fun _ _ _ hh h => h.of_heap hh) Tryd.own started (by kernel_rfl) Tryd.func5
    (ChangeSpec.witness_at (enc := enc) (C := Tryd.checked) (os := os) (X := fun w _ => laidMetH Tryd.prog [("errors.errorType", Rows.laid_errors_errorType)] w) false (laidWorld os) #[.slice none 0 0] 8 rfl (by kernel_rfl) (by kernel_rfl) (by kernel_rfl) (by kernel_rfl) (by kernel_rfl) (laidWorld_met os _)) ?_
  intro W base args ds gs before hval0 hW _ hsz hL _
  have hval : ∀ (j : Nat) t v, Tryd.f5.params[j]? = some t → args[j]? = some v → Value.okWide Tryd.prog W .any base t v := hval0
  have hW' := hW
  obtain ⟨p, q, hA0, hV0, rfl, hfz, hnd⟩ := hW
  have hA : DataW.TrodAll enc Tryd.prog W 0 (fun _ => true) true Tryd.f5.params.toList args.toList ds p := hA0
  have hV : DataW.TrodVars enc Tryd.prog W (fun _ => true) [] gs q := hV0
  rw [Tryd.params5] at hA hval hsz
  obtain ⟨v0, d0, rfl, rfl, h0⟩ := trodAll_one hA
  obtain ⟨a0, len, cap, rfl⟩ := okWide_slice Tryd.underlying42 (hval 0 42 v0 rfl rfl)
  have hg := handle_of_laid hL
  obtain ⟨rfl, rfl⟩ : gs = [] ∧ q = [] := by
    cases gs with
    | nil => exact ⟨rfl, hV⟩
    | cons g r => exact absurd hV (by intro h; cases h)
  have hwt : ∀ n ∈ d0.weights Tryd.prog 42, n ≤ 140737488355328 := fun n hn => by
    have := List.all_eq_true.1 hsz n (DataW.weights_mem_each (j := 0) (t := 42) rfl rfl n hn)
    have h2 : n ≤ reachBytes := by simpa using this
    exact Nat.le_trans h2 (by decide)
  obtain ⟨vs, ls, hn, hgood, hlb⟩ := open_nest (en := encLegs) (good := LegWf) (by' := 40) encLegs_len (by decide) Tryd.underlying42 Tryd.underlying43 (by kernel_rfl) (by kernel_rfl) (by kernel_rfl) (by decide) hone_leg h0 hwt
  have e1 : Rows.linksPoolSpec.fn H ([d0] ++ []) = { results := [.lit (.bool true)], args := [d0] } := by simp [Rows.linksPoolSpec]
  refine (linksPoolLaw_any a0 len cap vs ls W hn hgood hlb hg).mono fun e W' ⟨he, hw⟩ => ?_
  have hb := ends_row hw
  have hlt : ∀ x ∈ p, x.block < W.heap.size := fun x hx => hW'.lt x (by simp [hx])
  subst he
  refine ⟨_, rfl, _, _, _, [], p, [], hW', ?_, ?_, ?_, hb.frame _, fun h => by cases h⟩
  · rw [e1]; exact trodAll_mk1 (shut_bool Tryd.underlying4 true)
  · rw [e1]; exact trodAll_mk1 (Below.trod Tryd.laidOut (by kernel_rfl) (by rw [Tryd.ntypes]; decide) h0 hb hlt)
  · rw [e1]; rfl

theorem pool_row : Rows.LinksPoolSaid :=
  OpenClaim.holds_of_wide 5 Tryd.f5 rfl rfl rfl rfl rfl rfl rfl ⟨rfl, rfl, rfl, rfl, rfl⟩ rfl rfl rfl rfl rfl (by kernel_rfl) Tryd.func5 (by kernel_rfl)
    (of_decide_eq_true (by kernel_rfl)) (by unfold Func.isWrapper; rw [if_neg (of_decide_eq_false (by kernel_rfl))]; exact ⟨rfl, rfl⟩)
    (fun os started H enc _ => pool_lifted os started H enc)

theorem linksPool_holds : Rows.LinksPoolCardSaid :=
  Claim7.holds_tied_plain_at .later [] [.handle] true Rows.linksPoolCard.stood.harness true
    pool_row (fun _ h => by cases h) (by kernel_rfl) (fun _ h => by cases h) linksPool_row_tie rfl ⟨rfl, rfl⟩ (by kernel_rfl) rfl
    (fun f fn hf hfn => by
      obtain rfl : f = 5 := Option.some.inj ((show Tryd.prog.funcNamed "custody/custodylaw23.LinksPool" = some 5 by kernel_rfl).symm.trans hf) |>.symm
      obtain rfl : fn = Tryd.f5 := (Option.some.inj (Tryd.func5.symm.trans hfn)).symm
      refine ⟨by kernel_rfl, fun j t ht => ?_⟩
      rw [Tryd.params5] at ht
      match j, ht with
      | 0, ht => simp at ht; subst ht; exact (show Tryd.prog.wantsStandIn 42 = false by kernel_rfl)
      | j + 1, ht => simp at ht)
    (by kernel_rfl)
#print axioms linksPool_holds
end Go.Proofs.YtkkaejbdekdljaaDoor
