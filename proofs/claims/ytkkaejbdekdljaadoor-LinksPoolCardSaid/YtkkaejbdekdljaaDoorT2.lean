/- Walks: SameLegs, at two lists that are one. -/
import Derived.Test.YtkkaejbdekdljaaDoorKLegs
set_option linter.unusedVariables false
set_option linter.unusedSimpArgs false
namespace Go.Proofs.YtkkaejbdekdljaaDoor
open Go.RowKit

set_option maxHeartbeats 400000 in
theorem sameLegs_any (A B : Option Addr) (n c d : Nat) (l : List (Int × Int × Int × Int × Int)) (w : World) (ha : Sl w A n 5 (cellsL encLegs l)) (hb : Sl w B n 5 (cellsL encLegs l)) :
    Calls Tryd.prog 23 #[.slice A n c, .slice B n d] w fun e w' => e = .returned (.bool true) ∧ New w w' := by
  have hn := ha.le
  have hd : ((n : Int) != (n : Int)) = false := by simp
  go_enter Tryd.func23, Tryd.ntmps23
  go_wp2
  go_loopw [5] (fun i wr => ∃ k : Nat, k ≤ n ∧ i = .int .i64 k ∧ New w wr) (fun i _ => n - (intOf i).toNat)
  case atStart => exact ⟨0, Nat.zero_le _, rfl, Mod.refl _ _⟩
  case round =>
    obtain ⟨k, hk, rfl, hw⟩ := hrel
    by_cases hlt : k < n
    · obtain ⟨b1, o1, ⟨x0, x1, x2, x3, x4⟩, rfl, hp, hc⟩ := (ha.new_ hw).elem encLegs_len (by decide) hlt
      obtain ⟨b2, o2, q, rfl, hq, hc'⟩ := (hb.new_ hw).elem encLegs_len (by decide) hlt
      rw [hp] at hq
      injection hq with hq
      subst hq
      have c0 := hc 0 _ rfl
      have c1 := hc 1 _ rfl
      have c2 := hc 2 _ rfl
      have c3 := hc 3 _ rfl
      have c4 := hc 4 _ rfl
      have d0 := hc' 0 _ rfl
      have d1 := hc' 1 _ rfl
      have d2 := hc' 2 _ rfl
      have d3 := hc' 3 _ rfl
      have d4 := hc' 4 _ rfl
      simp only [Nat.add_zero] at c0 d0
      clear hp hc hc'
      go_wp2
      go_quiet (fail)
      go_wp2
      go_roundw
      case rel => exact ⟨k + 1, by omega, by go_num, hw.drewN _⟩
      case measure => simp [intOf]; omega
    · go_wp2
      go_ret
      exact ⟨rfl, hw⟩
end Go.Proofs.YtkkaejbdekdljaaDoor
