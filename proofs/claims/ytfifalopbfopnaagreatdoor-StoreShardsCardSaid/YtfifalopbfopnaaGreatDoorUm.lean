/- Walks: works. -/
import Derived.Test.YtfifalopbfopnaaGreatDoorUk
set_option linter.unusedVariables false
set_option linter.unusedSimpArgs false
namespace Go.Proofs.YtfifalopbfopnaaGreatDoor
open Go.RowKit

def textX : ByteArray := ⟨#[120]⟩
def textY : ByteArray := ⟨#[121]⟩
def stW : StS := stPut stNew (1, 0) 4 textX
theorem stW_put : canPut (rowOf (stNew : StS).rows (1, 0)) 4 = true := by decide
theorem stW_row : rowOf stW.rows (1, 0) = [(4, textX)] := rfl
theorem stW_no : canPut (rowOf stW.rows (1, 0)) 4 = false := by rw [stW_row]; decide
theorem stW_same : stPut stW (1, 0) 4 textY = stW := by unfold stPut; rw [if_neg (by rw [stW_no]; simp)]
theorem keyOne : KeyWf (1, 0) := ⟨by decide, by decide⟩
theorem Step.new' {w0 w w' : World} {L : Lay} {N : Nat} {st : StS} (h : Step w L N st w') (hn : New w0 w) (hf : ∀ b, Foot L b → w0.heap.size ≤ b) : New w0 w' := by
  obtain ⟨L', _, _, _, hm, _⟩ := h
  exact Mod.trans hn hm (fun b hb hf' => by have := hf b hf'; omega)
set_option maxRecDepth 100000 in
set_option maxHeartbeats 2000000 in
theorem works_any (w : World) (hg : ErrVar w) : Calls Tryz.prog 6 #[] w fun e w' => e = .returned (.bool true) ∧ New w w' := by
  have hgl := hg.lt
  have HG := Lib.hid hg
  clear hg
  go_enter Tryz.func6, Tryz.ntmps6
  go_wp2_with fail
  refine (storeNew_any 3 _).mono ?_
  rintro e w1 ⟨L, rfl, hbs, hst, hw1, hfl⟩
  have HBS := Lib.hid (show L.bs.length = 3 from hbs)
  have HS1 := Lib.hid hst
  have HFL := Lib.hid hfl
  clear hbs hst hfl
  go_wp2_with fail
  refine (storePut_any L 0 stNew (1, 0) 4 textX _ HS1.out keyOne (by omega)).mono ?_
  rintro e w2 ⟨he, hst2⟩
  rw [stW_put] at he
  simp only [if_true] at he
  subst he
  have hw2 : New w w2 := hst2.new' hw1 HFL.out
  obtain ⟨L2, hs2, hb2, hat2, _, hf2⟩ := hst2
  have HF2 := Lib.hid (show ∀ b, Foot L2 b → w.heap.size ≤ b from fun b hb => by
    rcases hf2 b hb with h | h
    · exact HFL.out b h
    · have := hw1.size; omega)
  have HS2 := Lib.hid hat2
  rw [← hs2]
  have HB2 := Lib.hid (show L2.bs.length = 3 from by rw [hb2]; exact HBS.out)
  clear hat2 hf2 hs2 hb2
  go_wp2_with fail
  refine (storePut_any L2 1 stW (1, 0) 4 textY _ HS2.out keyOne (by omega)).mono ?_
  rintro e w3 ⟨he, hst3⟩
  rw [stW_no] at he
  simp only [Bool.false_eq_true, if_false] at he
  subst he
  rw [stW_same] at hst3
  have hw3 : New w w3 := hst3.new' hw2 HF2.out
  obtain ⟨L3, hs3, hb3, hat3, _, hf3⟩ := hst3
  have HS3 := Lib.hid hat3
  rw [← hs3]
  have HB3 := Lib.hid (show L3.bs.length = 3 from by rw [hb3]; exact HB2.out)
  have HG3 := Lib.hid (HG.out.new_ hw3)
  clear hat3 hf3 hs3 hb3
  have HLAST := Lib.hid (storeLast_any L3 2 stW (1, 0) w3 HS3.out keyOne)
  rw [show ansL (rowOf stW.rows (1, 0)) = .tuple #[.string textX, .int .i64 4, .bool true] from rfl] at HLAST
  go_wp2_with fail
  refine HLAST.out.mono ?_
  rintro e w4 ⟨rfl, hw4⟩
  go_wp2_with fail
  refine (plain_any (Er.errno 1) (by omega) (by omega) _ (HG3.out.new_ hw4)).mono ?_
  rintro e w5 ⟨rfl, hw5⟩
  have hw45 := New.trans hw4 hw5
  have HSH := Lib.hid (storeShards_any L3 2 stW w5 (HS3.out.new_ hw45))
  rw [HB3.out] at HSH
  unfold textX
  go_wp2_with fail
  refine HSH.out.mono ?_
  rintro e w6 ⟨rfl, hw6⟩
  go_wp2
  go_ret
  exact ⟨rfl, New.trans (New.trans hw3 hw45) hw6⟩
end Go.Proofs.YtfifalopbfopnaaGreatDoor
