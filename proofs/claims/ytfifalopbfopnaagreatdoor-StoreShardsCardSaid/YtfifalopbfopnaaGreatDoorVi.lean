/- Walks: the number of shards, a key's hash, its shard. -/
import Derived.Test.YtfifalopbfopnaaGreatDoorProg
import Derived.Test.YtfifalopbfopnaaGreatDoorWe
import Derived.Test.YtfifalopbfopnaaGreatDoorVh
set_option linter.unusedVariables false
set_option linter.unusedSimpArgs false
namespace Go.Proofs.YtfifalopbfopnaaGreatDoor
open Go.RowKit

def countedN (n : Int) : Nat := (min (max n 1) 64).toNat
theorem countedN_pos (n : Int) : 1 ≤ countedN n ∧ countedN n ≤ 64 := by unfold countedN; omega
theorem counted_any (n : Int) (w : World) :
    Calls Tryz.prog 28 #[.int .i64 n] w fun e w' => e = .returned (.int .i64 (countedN n : Int)) ∧ New w w' := by
  go_enter Tryz.func28, Tryz.ntmps28
  go_wp2
  all_goals
    go_ret
    exact ⟨ret_int (by unfold countedN; omega), Mod.refl _ _⟩
theorem Tryz.idx0 (a b : Value) (w : World) : (Instr.index 122 (.agg #[a, b]) (.int .i64 0)).run Tryz.prog w = .ok a w := by kernel_rfl
theorem Tryz.idx1 (a b : Value) (w : World) : (Instr.index 122 (.agg #[a, b]) (.int .i64 1)).run Tryz.prog w = .ok b w := by kernel_rfl
/-- A step of a key's hash, eight of them, all. -/
def hstep (h n : Int) (s : Nat) : Int := IntKind.u64.wrap (bits BinOp.xor IntKind.u64 h (bits BinOp.and IntKind.u64 (n / 2 ^ s) 255) * 1099511628211)
def hrun (n : Int) : Nat → Int → Int
  | 0, h => h
  | k + 1, h => hstep (hrun n k h) n (56 - 8 * k)
def hashI (p : Key2) : Int := hrun (IntKind.u64.wrap p.2) 8 (hrun (IntKind.u64.wrap p.1) 8 14695981039346656037)
def hpart (p : Key2) (k : Nat) : Int := match k with
  | 0 => 14695981039346656037
  | 1 => hrun (IntKind.u64.wrap p.1) 8 14695981039346656037
  | _ => hashI p
theorem hashI_range (p : Key2) : 0 ≤ hashI p ∧ hashI p < 18446744073709551616 := by
  have h : ∃ x, hashI p = IntKind.u64.wrap x := ⟨_, rfl⟩
  obtain ⟨x, hx⟩ := h
  rw [hx]
  unfold IntKind.wrap
  simp [IntKind.signed, IntKind.bits]
  omega
set_option maxRecDepth 100000 in
set_option maxHeartbeats 1000000 in
theorem hash_any (p : Key2) (w : World) :
    Calls Tryz.prog 50 #[.agg #[.int .i64 p.1, .int .i64 p.2]] w fun e w' => e = .returned (.int .u64 (hashI p)) ∧ New w w' := by
  have i0 := Tryz.idx0
  have i1 := Tryz.idx1
  obtain ⟨k1, k2⟩ := p
  go_enter Tryz.func50, Tryz.ntmps50
  go_wp2
  go_loopw [3, 14] (fun h i wr => ∃ (k : Nat), h = .int .u64 (hpart (k1, k2) k) ∧ i = .int .i64 (k : Int) ∧ k ≤ 2 ∧ New w wr) (fun _ i _ => 2 - (intOf i).toNat)
  case atStart => exact ⟨0, rfl, rfl, by omega, (Mod.refl _ _).alloc _⟩
  case round =>
    obtain ⟨k, rfl, rfl, hk, hw⟩ := hrel
    by_cases hlt : k < 2
    · rcases (show k = 0 ∨ k = 1 by omega) with rfl | rfl
      · go_wp2
        go_loopw [3, 6] (fun h i wr => ∃ (j : Nat), h = .int .u64 (hrun (IntKind.u64.wrap k1) j 14695981039346656037) ∧ i = .int .i64 (56 - 8 * (j : Int)) ∧ j ≤ 8 ∧ New w wr) (fun _ i _ => (intOf i + 8).toNat)
        case atStart => exact ⟨0, rfl, rfl, by omega, hw⟩
        case round =>
          obtain ⟨j, rfl, rfl, hj, hw⟩ := hrel
          by_cases hlt : j < 8
          · have h1 : (0 : Int) ≤ 56 - 8 * (j : Int) := by omega
            obtain ⟨hh, HH⟩ : ∃ hh, hrun (IntKind.u64.wrap k1) j 14695981039346656037 = hh := ⟨_, rfl⟩
            have HH1 := Lib.hid HH
            rw [HH]
            clear HH
            go_wp2
            go_roundw
            case rel => exact ⟨j + 1, by rw [← HH1.out]; rfl, by congr 1; omega, by omega, hw⟩
            case measure => simp [intOf]; omega
          · obtain rfl : j = 8 := by omega
            obtain ⟨hh, HH⟩ : ∃ hh, hrun (IntKind.u64.wrap k1) 8 14695981039346656037 = hh := ⟨_, rfl⟩
            have HH1 := Lib.hid HH
            rw [HH]
            clear HH
            go_wp2
            go_roundw
            case rel => exact ⟨1, by rw [← HH1.out]; rfl, rfl, by omega, hw⟩
            case measure => simp [intOf]
      · obtain ⟨h0, hh0⟩ : ∃ h0, hpart (k1, k2) 1 = h0 := ⟨_, rfl⟩
        have HH0 := Lib.hid hh0
        rw [hh0]
        clear hh0
        go_wp2
        go_loopw [3, 6] (fun h i wr => ∃ (j : Nat), h = .int .u64 (hrun (IntKind.u64.wrap k2) j h0) ∧ i = .int .i64 (56 - 8 * (j : Int)) ∧ j ≤ 8 ∧ New w wr) (fun _ i _ => (intOf i + 8).toNat)
        case atStart => exact ⟨0, rfl, rfl, by omega, hw⟩
        case round =>
          obtain ⟨j, rfl, rfl, hj, hw⟩ := hrel
          by_cases hlt : j < 8
          · have h1 : (0 : Int) ≤ 56 - 8 * (j : Int) := by omega
            obtain ⟨hh, HH⟩ : ∃ hh, hrun (IntKind.u64.wrap k2) j h0 = hh := ⟨_, rfl⟩
            have HH1 := Lib.hid HH
            rw [HH]
            clear HH
            go_wp2
            go_roundw
            case rel => exact ⟨j + 1, by rw [← HH1.out]; rfl, by congr 1; omega, by omega, hw⟩
            case measure => simp [intOf]; omega
          · obtain rfl : j = 8 := by omega
            obtain ⟨hh, HH⟩ : ∃ hh, hrun (IntKind.u64.wrap k2) 8 h0 = hh := ⟨_, rfl⟩
            have HH1 := Lib.hid HH
            rw [HH]
            clear HH
            go_wp2
            go_roundw
            case rel => exact ⟨2, by rw [← HH1.out, ← HH0.out]; rfl, rfl, by omega, hw⟩
            case measure => simp [intOf]
    · obtain rfl : k = 2 := by omega
      obtain ⟨hh, HH⟩ : ∃ hh, hpart (k1, k2) 2 = hh := ⟨_, rfl⟩
      have HH1 := Lib.hid HH
      rw [HH]
      clear HH
      go_wp2
      go_ret
      exact ⟨by rw [← HH1.out]; rfl, hw⟩
theorem wrap_small {x : Int} (h : 0 ≤ x) (h2 : x < 9223372036854775808) : wrap64 x = x := by unfold wrap64; omega
/-- A key's shard. -/
def shardN (p : Key2) (m : Int) : Nat := (hashI p).toNat % countedN m
theorem shardN_lt (p : Key2) (m : Int) : shardN p m < countedN m := Nat.mod_lt _ (by have := countedN_pos m; omega)
theorem shard_any (p : Key2) (m : Int) (w : World) :
    Calls Tryz.prog 51 #[.agg #[.int .i64 p.1, .int .i64 p.2], .int .i64 m] w fun e w' => e = .returned (.int .i64 (shardN p m : Int)) ∧ New w w' := by
  have hr := hashI_range p
  have hc := countedN_pos m
  have hs := shardN_lt p m
  have hsd : ((shardN p m : Nat) : Int) = hashI p % (countedN m : Int) := by
    unfold shardN
    rw [Int.natCast_emod, Int.toNat_of_nonneg hr.1]
  rw [hsd]
  rw [← Int.ofNat_lt, hsd] at hs
  have hs2 : 0 ≤ hashI p % (countedN m : Int) := by rw [← hsd]; omega
  obtain ⟨c, hcc⟩ : ∃ c, countedN m = c := ⟨_, rfl⟩
  obtain ⟨h, hh⟩ : ∃ h, hashI p = h := ⟨_, rfl⟩
  have HC := Lib.hid hcc
  have HH := Lib.hid hh
  rw [hcc, hh] at hs hs2
  rw [hcc] at hc
  rw [hh] at hr
  clear hcc hh hsd
  obtain ⟨k1, k2⟩ := p
  rw [HH.out, HC.out]
  go_enter Tryz.func51, Tryz.ntmps51
  go_wp2_with (first
    | (go_at_call 50; refine (hash_any (k1, k2) _).mono ?_; rintro e w1 ⟨rfl, hw1⟩; rw [HH.out])
    | (go_at_call 28; refine (counted_any m _).mono ?_; rintro e w2 ⟨rfl, hw2⟩; rw [HC.out]))
  go_ret
  exact ⟨rfl, New.trans (Mod.trans ((Mod.refl (fun _ => False) w).alloc _) hw1 (fun _ _ h => h)) hw2⟩
end Go.Proofs.YtfifalopbfopnaaGreatDoor
