import Derived.Test.YtkkaejbdekdljaaDoorProg
import Derived.Test.YtkkaejbdekdljaaDoorWa
import Derived.Deep.QuietTactic
import Derived.BigQuiet
set_option linter.unusedVariables false
set_option linter.unusedSimpArgs false
namespace Go.Proofs.YtkkaejbdekdljaaDoor
open Go.RowKit

set_option maxHeartbeats 400000 in
theorem sameInts_any (A B : Option Addr) (n m c d : Nat) (xs ys : List Int) (w : World) (ha : Sl w A n 1 (nums xs)) (hb : Sl w B m 1 (nums ys)) :
    Calls Tryd.prog 12 #[.slice A n c, .slice B m d] w fun e w' => e = .returned (.bool (decide (xs = ys))) ∧ New w w' := by
  have hxl : xs.length = n := by simpa [nums] using ha.len
  have hyl : ys.length = m := by simpa [nums] using hb.len
  have hn := ha.le
  have hm := hb.le
  by_cases hnm : n = m
  case neg =>
    have e1 : decide (xs = ys) = false := by simp; intro h; subst h; omega
    have H1 := Lib.hid e1
    have H2 := Lib.hid hxl
    have H3 := Lib.hid hyl
    have hd : ((n : Int) != (m : Int)) = true := by simp; omega
    clear e1 hxl hyl hnm
    go_enter Tryd.func12, Tryd.ntmps12
    go_wp2
    go_ret
    exact ⟨ret_bool H1.out.symm, Mod.refl _ _⟩
  case pos =>
    subst hnm
    have hd : ((n : Int) != (n : Int)) = false := by simp
    have H2 := Lib.hid hxl
    have H3 := Lib.hid hyl
    clear hxl hyl
    go_enter Tryd.func12, Tryd.ntmps12
    go_wp2
    go_loopw [5] (fun i wr => ∃ k : Nat, k ≤ n ∧ i = .int .i64 k ∧ xs.take k = ys.take k ∧ New w wr) (fun i _ => n - (intOf i).toNat)
    case atStart => exact ⟨0, Nat.zero_le _, rfl, rfl, Mod.refl _ _⟩
    case round =>
      obtain ⟨k, hk, rfl, hpre, hw⟩ := hrel
      have ha' := ha.new_ hw
      have hb' := hb.new_ hw
      have HP := Lib.hid hpre
      clear hpre
      by_cases hlt : k < n
      · obtain ⟨b1, o1, u, rfl, hu, hcu⟩ := ha'.at1 hlt
        obtain ⟨b2, o2, v, rfl, hv, hcv⟩ := hb'.at1 hlt
        rw [nums_at] at hu hv
        obtain ⟨x, hx, rfl⟩ := Option.map_eq_some_iff.1 hu
        obtain ⟨y, hy, rfl⟩ := Option.map_eq_some_iff.1 hv
        have HX := Lib.hid hx
        have HY := Lib.hid hy
        clear hu hv hx hy
        by_cases hxy : x = y
        · subst hxy
          have hd2 : (x != x) = false := by simp
          go_wp2
          go_quiet (fail)
          go_wp2
          go_roundw
          case rel => exact ⟨k + 1, by omega, by go_num, by
            have h1 := HP.out
            have h2 := HX.out
            have h3 := HY.out
            rw [List.take_add_one, List.take_add_one, h1, h2, h3], hw.drewN _⟩
          case measure => simp [intOf]; omega
        · have hd2 : (x != y) = true := by simpa using hxy
          go_wp2
          go_quiet (fail)
          go_wp2
          go_ret
          exact ⟨ret_bool (by
            have h2 := HX.out
            have h3 := HY.out
            symm
            simp only [decide_eq_false_iff_not]
            intro h
            rw [h, h3] at h2
            exact hxy (by injection h2 with h2; exact h2.symm)), hw.drewN _⟩
      · go_wp2
        go_ret
        exact ⟨ret_bool (by
          have h1 := HP.out
          have h2 := H2.out
          have h3 := H3.out
          have : k = n := by omega
          subst this
          rw [List.take_of_length_le (by omega), List.take_of_length_le (by omega)] at h1
          simp [h1]), hw⟩
end Go.Proofs.YtkkaejbdekdljaaDoor
