/- Walks: the document's Groups, whole. -/
import Derived.Test.YtkkaejbdekdljaaDoorLd
set_option linter.unusedVariables false
set_option linter.unusedSimpArgs false
namespace Go.Proofs.YtkkaejbdekdljaaDoor
open Go.RowKit

/-- What a call of the document's Groups comes to. -/
def RefGrpPost (w : World) (n : Int) (l : List (Int × Int)) (e : Ending) (w' : World) : Prop :=
  ∃ v r, e = .returned (.tuple #[v, .int .i64 (grpErr n l).1, .int .i64 (grpErr n l).2]) ∧ w'.ownsRow w.heap.size 3 1 v r.length (nats r) ∧ GrpOut n l r ∧ New w w'

set_option maxHeartbeats 1000000 in
theorem refGroups_any (n : Int) (A : Option Addr) (m c : Nat) (l : List (Int × Int)) (w : World) (ha : Sl w A m 2 (twos l)) :
    Calls Tryd.prog 8 #[.int .i64 n, .slice A m c] w (RefGrpPost w n l) := by
  have hm := ha.le
  by_cases h1 : n < 0
  · have hs := fun w => refSize_any n w
    simp only [if_pos h1] at hs
    have HP : ∀ w', New w w' → RefGrpPost w n l (.returned (.tuple #[.slice none 0 0, .int .i64 1, .int .i64 0])) w' := fun w' hw =>
      ⟨_, [], by simp [grpErr, h1], own_nil _ _ _ _, by simp [GrpOut, grpErr, h1], hw⟩
    have HS := Lib.hid hs
    have HH := Lib.hid HP
    clear hs HP
    go_enter Tryd.func8, Tryd.ntmps8
    go_wp2_with (go_at_call 33; refine (HS.out _).mono ?_; rintro e w1 ⟨rfl, rfl⟩)
    go_ret3
    exact HH.out _ (Mod.refl _ _)
  · by_cases h2 : 4096 < n
    · have hs := fun w => refSize_any n w
      simp only [if_neg h1, if_pos h2] at hs
      have HP : ∀ w', New w w' → RefGrpPost w n l (.returned (.tuple #[.slice none 0 0, .int .i64 5, .int .i64 0])) w' := fun w' hw =>
        ⟨_, [], by simp [grpErr, h1, h2], own_nil _ _ _ _, by simp [GrpOut, grpErr, h1, h2], hw⟩
      have HS := Lib.hid hs
      have HH := Lib.hid HP
      clear hs HP
      go_enter Tryd.func8, Tryd.ntmps8
      go_wp2_with (go_at_call 33; refine (HS.out _).mono ?_; rintro e w1 ⟨rfl, rfl⟩)
      go_ret3
      exact HH.out _ (Mod.refl _ _)
    · obtain ⟨n, rfl⟩ := Int.eq_ofNat_of_zero_le (Int.not_lt.1 h1)
      have hn : n ≤ 4096 := by omega
      have hs := fun w => refSize_any (n : Int) w
      simp only [if_neg h1, if_neg h2] at hs
      have HS := Lib.hid hs
      clear hs
      cases hlost : lostFrom n 0 l with
      | some k =>
        have hge : grpErr (n : Int) l = (10, (k : Int)) := by unfold grpErr; rw [if_neg h1, if_neg h2]; simp [hlost]
        have HP : ∀ w', New w w' → RefGrpPost w n l (.returned (.tuple #[.slice none 0 0, .int .i64 10, .int .i64 (k : Int)])) w' := fun w' hw =>
          ⟨_, [], by rw [hge], own_nil _ _ _ _, by simp [GrpOut, hge], hw⟩
        have hna := fun w ha => refLost_any n A m c l w ha
        simp only [hlost, lostInt] at hna
        have HN := Lib.hid hna
        have HH := Lib.hid HP
        clear HP hna hlost hge
        go_enter Tryd.func8, Tryd.ntmps8
        go_wp2_with (first
          | (go_at_call 33; refine (HS.out _).mono ?_; rintro e w1 ⟨rfl, rfl⟩)
          | (go_at_call 34; refine (HN.out _ ha).mono ?_; rintro e w2 ⟨rfl, hw2⟩))
        go_ret3
        exact HH.out _ hw2
      | none =>
        have hge : grpErr (n : Int) l = (0, 0) := by unfold grpErr; rw [if_neg h1, if_neg h2]; simp [hlost]
        have HP : ∀ w' v r, New w w' → w'.ownsRow w.heap.size 3 1 v n (nats r) → r.length = n → Least n l (at_ r) → RefGrpPost w n l (.returned (.tuple #[v, .int .i64 0, .int .i64 0])) w' := fun w' v r hw hv hr hl =>
          ⟨_, r, by rw [hge], by rw [hr]; exact hv, by simp [GrpOut, hge]; exact ⟨hr, hl⟩, hw⟩
        have hna := fun w ha => refLost_any n A m c l w ha
        simp only [hlost, lostInt] at hna
        have HN := Lib.hid hna
        have HH := Lib.hid HP
        have HI := Lib.hid (lostFrom_none hlost)
        clear HP hna hlost hge
        go_enter Tryd.func8, Tryd.ntmps8
        go_wp2_with (first
          | (go_at_call 33; refine (HS.out _).mono ?_; rintro e w1 ⟨rfl, rfl⟩)
          | (go_at_call 34; refine (HN.out _ ha).mono ?_; rintro e w2 ⟨rfl, hw2⟩)
          | (go_at_call 35; refine (refGroups0_any n A m c l _ hn (ha.new_ hw2) HI.out).mono ?_; rintro e w3 ⟨v, r, rfl, hv, hr, hl, hw3⟩))
        go_ret3
        exact HH.out _ v r (New.trans hw2 hw3) (own_mono hv hw2.size) hr hl
end Go.Proofs.YtkkaejbdekdljaaDoor
