/- Walks: a chain of versions (numbers): above. -/
import Derived.Test.YtfifalopbfopnaaGreatDoorProg
import Derived.Test.YtfifalopbfopnaaGreatDoorVt
import Derived.Test.YtfifalopbfopnaaGreatDoorWe
import Derived.Test.YtfifalopbfopnaaGreatDoorVc
set_option linter.unusedVariables false
set_option linter.unusedSimpArgs false
namespace Go.Proofs.YtfifalopbfopnaaGreatDoor.I
open Go.RowKit

abbrev VersS := List (Int × Int)
def encVer : Int × Int → List Value := fun p => [.int .i64 p.1, .int .i64 p.2]
theorem encVer_len : ∀ p, (encVer p).length = 2 := fun _ => rfl
theorem Tryz.sltVer : SlT Tryz.prog 129 169 2 16 := ⟨Tryz.underlying129, ⟨.agg #[.int .i64 0, .int .i64 0], by kernel_rfl, rfl⟩, by decide, by decide⟩

theorem ahead_any (m n : Int) (v : Int) (w : World) :
    Calls Tryz.prog 125 #[.agg #[.int .i64 m, .int .i64 v], .int .i64 n] w fun e w' => e = .returned (.int .i64 (if n < m then 1 else -1)) ∧ New w w' := by
  by_cases h : n < m
  · rw [if_pos h]
    go_enter Tryz.func125, Tryz.ntmps125
    go_wp2
    go_ret
    exact ⟨rfl, (Mod.refl _ _).alloc _⟩
  · rw [if_neg h]
    go_enter Tryz.func125, Tryz.ntmps125
    go_wp2
    go_ret
    exact ⟨rfl, (Mod.refl _ _).alloc _⟩

set_option maxRecDepth 100000 in
set_option maxHeartbeats 1000000 in
theorem search_any (A : Option Addr) (n c : Nat) (l : VersS) (x : Int) (w : World) (ha : Sl w A n 2 (cellsL encVer l)) (hr : Rising l) (hn : n ≤ 4294967296) :
    Calls Tryz.prog 124 #[.slice A n c, .int .i64 x, .func (.func 125) #[] #[]] w fun e w' => e = .returned (.tuple #[.int .i64 (upTo l x : Int), .bool false]) ∧ New w w' := by
  have hl : l.length = n := ha.length encVer_len (by decide)
  have hul := upTo_le l x
  rw [hl] at hul
  obtain ⟨u, hu⟩ : ∃ u, upTo l x = u := ⟨_, rfl⟩
  have HU := Lib.hid hu
  have HL := Lib.hid hl
  have HR := Lib.hid hr
  rw [hu] at hul ⊢
  clear hu hl hr
  go_enter Tryz.func124, Tryz.ntmps124
  go_wp2
  go_loopw [9, 10] (fun lo hi wr => ∃ a b : Nat, lo = .int .i64 (a : Int) ∧ hi = .int .i64 (b : Int) ∧ a ≤ u ∧ u ≤ b ∧ b ≤ n ∧ New w wr) (fun lo hi _ => (intOf hi).toNat - (intOf lo).toNat)
  case atStart => exact ⟨0, n, rfl, rfl, Nat.zero_le _, hul, Nat.le_refl _, Mod.refl _ _⟩
  case round =>
    obtain ⟨a, b, rfl, rfl, hau, hub, hbn, hw⟩ := hrel
    by_cases hlt : a < b
    · obtain ⟨m, hm⟩ : ∃ m, (a + b) / 2 = m := ⟨_, rfl⟩
      have hmid : ((a : Int) + (b : Int)) / 2 = (m : Int) := by omega
      have ham : a ≤ m := by omega
      have hmb : m < b := by omega
      obtain ⟨xb, xo, ⟨y0, y1⟩, rfl, hy, hc⟩ := (ha.new_ hw).elem encVer_len (by decide) (show m < n by omega)
      have c0 := hc 0 _ rfl
      have c1 := hc 1 _ rfl
      simp only [Nat.add_zero] at c0
      have HY := Lib.hid hy
      have HA := Lib.hid (fun W => ahead_any y0 x y1 W)
      by_cases h : x < y0
      · rw [if_pos h] at HA
        have hum : u ≤ m := by
          rcases Nat.lt_or_ge m u with h1 | h1
          · have := upTo_below (n := x) (by rw [HU.out]; exact h1) HY.out
            simp only at this; omega
          · exact h1
        clear hc hy hm
        go_wp2_with (go_at_call 125; refine (HA.out _).mono ?_; rintro e w1 ⟨rfl, hw1⟩)
        go_roundw
        case rel => exact ⟨a, m, rfl, rfl, hau, hum, by omega, New.trans hw hw1⟩
        case measure => simp [intOf]; omega
      · rw [if_neg h] at HA
        have hum : m + 1 ≤ u := by
          rcases Nat.lt_or_ge m u with h1 | h1
          · exact h1
          · have := upTo_above HR.out (n := x) (by rw [HU.out]; exact h1) HY.out
            simp only at this; omega
        clear hc hy hm
        go_wp2_with (go_at_call 125; refine (HA.out _).mono ?_; rintro e w1 ⟨rfl, hw1⟩)
        go_roundw
        case rel => exact ⟨m + 1, b, by push_cast; rfl, rfl, hum, hub, hbn, New.trans hw hw1⟩
        case measure => simp [intOf]; omega
    · obtain rfl : a = u := by omega
      by_cases hun : a < n
      · obtain ⟨xb, xo, ⟨y0, y1⟩, rfl, hy, hc⟩ := (ha.new_ hw).elem encVer_len (by decide) hun
        have c0 := hc 0 _ rfl
        have c1 := hc 1 _ rfl
        simp only [Nat.add_zero] at c0
        have hgt := upTo_above HR.out (n := x) (by rw [HU.out]; exact Nat.le_refl _) hy
        simp only at hgt
        have HA := Lib.hid (fun W => ahead_any y0 x y1 W)
        rw [if_pos hgt] at HA
        clear hc hy
        go_wp2_with (go_at_call 125; refine (HA.out _).mono ?_; rintro e w1 ⟨rfl, hw1⟩)
        go_ret2
        exact ⟨rfl, New.trans hw hw1⟩
      · go_wp2
        go_ret2
        exact ⟨rfl, hw⟩
/-- A chain's block, its slice, its versions. -/
structure ChainAt (w : World) (B c : Nat) (v : Value) (l : VersS) : Prop where
  blk : Blk w c 131 [v]
  own : w.ownsRow B 169 2 v l.length (cellsL encVer l)
/-- The blocks of a chain. -/
def ChainF (c : Nat) (v : Value) (b : Nat) : Prop := b = c ∨ v.ownBlock = some b
theorem ChainAt.new_ {w w' : World} {B c : Nat} {v : Value} {l : VersS} (h : ChainAt w B c v l) (hm : New w w') : ChainAt w' B c v l := ⟨h.blk.new_ hm, own_new h.own hm⟩
theorem above_any (B c : Nat) (v : Value) (l : VersS) (x : Int) (w : World) (h : ChainAt w B c v l) (hr : Rising l) (hn : l.length ≤ 4294967296) :
    Calls Tryz.prog 111 #[.pointer (some ⟨c, 0, none⟩), .int .i64 x] w fun e w' => e = .returned (.int .i64 (upTo l x : Int)) ∧ New w w' := by
  obtain ⟨hb, ho⟩ := h
  obtain ⟨A, cap, rfl⟩ := own_shape ho
  have c0 : w.cell? ⟨c, 0, none⟩ = some (.slice A l.length cap) := hb.cell 0
  have HS := Lib.hid (search_any A l.length cap l x w (own_sl ho) hr hn)
  clear ho hb
  go_enter Tryz.func111, Tryz.ntmps111
  go_wp2_with (go_at_call 124; refine HS.out.mono ?_; rintro e w1 ⟨rfl, hw1⟩)
  go_ret
  exact ⟨rfl, hw1⟩
end Go.Proofs.YtfifalopbfopnaaGreatDoor.I
