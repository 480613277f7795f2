/- Walks: the statements' kit at lists of the kind Ints. (Printed by gen_kit.py.) -/
import Derived.Test.YtkkaejbdekdljaaDoorProg
import Derived.Test.YtkkaejbdekdljaaDoorWe
import Derived.Deep.QuietTactic
import Derived.BigQuiet
set_option linter.unusedVariables false
set_option linter.unusedSimpArgs false
namespace Go.Proofs.YtkkaejbdekdljaaDoor
open Go.RowKit

def encInts : Int → List Value := fun x0 => [.int .i64 x0]
theorem encInts_len : ∀ p, (encInts p).length = 1 := fun _ => rfl
theorem Tryd.sltInts : SlT Tryd.prog 24 3 1 8 := ⟨Tryd.underlying24, ⟨.int .i64 0, by kernel_rfl, rfl⟩, by decide, by decide⟩
def markInts (i : Int) : Int := (91000273 + i)
def marksInts (k : Nat) : List (Int) := (List.range k).map fun i : Nat => markInts (i : Int)
theorem marksInts_succ (k : Nat) : marksInts (k + 1) = marksInts k ++ [markInts (k : Int)] := by simp [marksInts, List.range_succ]
theorem marksInts_length (k : Nat) : (marksInts k).length = k := by simp [marksInts]

theorem markInts_any (i : Int) (w : World) (hi : -4294967312 ≤ i ∧ i ≤ 4294967312) :
    Calls Tryd.prog 43 #[.int .i64 90, .int .i64 i] w fun e w' => e = .returned (.int .i64 (91000273 + i)) ∧ New w w' := by
  obtain ⟨h1, h2⟩ := hi
  go_enter Tryd.func43, Tryd.ntmps43
  go_wp2
  go_ret
  exact ⟨rfl, Mod.refl _ _⟩

def FullIntsPost (w : World) (n : Nat) (l : List (Int)) (e : Ending) (w' : World) : Prop :=
  ∃ v, e = .returned v ∧ w'.ownsRow w.heap.size 3 1 v (n + 16) (cellsL encInts (l ++ marksInts 16)) ∧ New w w'
set_option maxHeartbeats 1000000 in
theorem fullInts_any (A : Option Addr) (n c : Nat) (l : List (Int)) (w : World) (ha : Sl w A n 1 (cellsL encInts l)) (hn : n ≤ 4294967296) :
    Calls Tryd.prog 46 #[.slice A n c] w (FullIntsPost w n l) := by
  have HL := Lib.hid (ha.length encInts_len (by decide))
  go_enter Tryd.func46, Tryd.ntmps46
  go_wp2
  go_loopw [3, 4] (fun v i wr => ∃ k : Nat, k ≤ n ∧ i = .int .i64 (k : Int) ∧ wr.ownsRow w.heap.size 3 1 v k (cellsL encInts (l.take k)) ∧ New w wr) (fun _ i _ => n - (intOf i).toNat)
  case atStart => exact ⟨0, Nat.zero_le _, rfl, own_nil _ _ _ _, Mod.refl _ _⟩
  case round =>
    obtain ⟨k, hk, rfl, hown, hw⟩ := hrel
    by_cases hlt : k < n
    · obtain ⟨b, off, x0, rfl, hp, hc⟩ := (ha.new_ hw).elem encInts_len (by decide) hlt
      have c0 := hc 0 _ rfl
      simp only [Nat.add_zero, Nat.mul_one] at c0
      have HP := Lib.hid hp
      clear hp hc
      go_wp2_with (at_builtin; refine wpList_app Tryd.sltInts rfl (.tmp 12) (.tmp 17) rfl w.heap.size _ k _ rfl (hown.alloc _) ⟨wr.heap.size, 0, none⟩ 1 1 [.int .i64 x0] rfl rfl (cells_new _ _ _) ?c1 ?c2 ?c3 ?_)
      case c1 => simp [Value.oneCell']
      case c2 => omega
      case c3 => simp; have := hw.size; omega
      intro v' w1 hown1 hg1 _
      have hw1 : New w w1 := New.grown (hw.alloc _) (hown.alloc _) (Nat.le_refl _) hg1
      clear hg1
      go_wp2
      go_roundw
      case rel => exact ⟨k + 1, by omega, by go_num, by rw [take_next l k _ HP.out]; exact hown1, hw1⟩
      case measure => simp [intOf]; omega
    · obtain rfl : k = n := by omega
      obtain ⟨OA, oc, rfl⟩ := own_shape hown
      have hown0 : wr.ownsRow w.heap.size 3 1 (.slice OA k oc) (k + 0) (cellsL encInts (l ++ marksInts 0)) := by
        rw [List.take_of_length_le (by have := HL.out; omega)] at hown
        simpa [marksInts] using hown
      have HO := Lib.hid hown0
      clear hown hown0
      go_wp2
      go_loopw [3, 5] (fun v i wr => ∃ j : Nat, j ≤ 16 ∧ i = .int .i64 (j : Int) ∧ wr.ownsRow w.heap.size 3 1 v (k + j) (cellsL encInts (l ++ marksInts j)) ∧ New w wr) (fun _ i _ => 16 - (intOf i).toNat)
      case atStart => exact ⟨0, by omega, rfl, HO.out, hw⟩
      case round =>
        obtain ⟨j, hj, rfl, hown, hw2⟩ := hrel
        by_cases hlt : j < 16
        · go_wp2_with fail
          refine (markInts_any (j : Int) _ (by omega)).mono ?_
          rintro e w1 ⟨rfl, hw1⟩
          have hown1 := own_new hown hw1
          have hw3 := New.trans hw2 hw1
          go_wp2_with (at_builtin; refine wpList_app Tryd.sltInts rfl (.tmp 23) (.tmp 26) rfl w.heap.size _ (k + j) _ rfl (hown1.alloc _) ⟨w1.heap.size, 0, none⟩ 1 1 [.int .i64 (91000273 + (j : Int))] rfl rfl (cells_new _ _ _) ?c1 ?c2 ?c3 ?_)
          case c1 => simp [Value.oneCell']
          case c2 => omega
          case c3 => simp; have := hw3.size; omega
          intro v' w4 hown4 hg4 _
          have hw4 : New w w4 := New.grown (hw3.alloc _) (hown1.alloc _) (Nat.le_refl _) hg4
          clear hg4
          go_wp2
          go_roundw
          case rel => exact ⟨j + 1, by omega, by go_num, by rw [marksInts_succ, ← List.append_assoc, cellsL_append, cellsL_one]; exact hown4, hw4⟩
          case measure => simp [intOf]; omega
        · obtain rfl : j = 16 := by omega
          go_wp2
          go_ret
          exact ⟨_, rfl, hown, hw2⟩

def LentIntsPost (w : World) (n : Nat) (l : List (Int)) (e : Ending) (w' : World) : Prop :=
  ∃ g cap, e = .returned (.slice (some ⟨g, 0, none⟩) n cap) ∧ Lent w' w.heap.size 3 1 g n cap (cellsL encInts (l ++ marksInts 16)) ∧ New w w'
theorem lentInts_any (A : Option Addr) (n c : Nat) (l : List (Int)) (w : World) (ha : Sl w A n 1 (cellsL encInts l)) (hn : n ≤ 4294967296) :
    Calls Tryd.prog 16 #[.slice A n c] w (LentIntsPost w n l) := by
  go_enter Tryd.func16, Tryd.ntmps16
  go_wp2_with fail
  refine (fullInts_any A n c l _ ha hn).mono ?_
  rintro e w1 ⟨v, rfl, hown, hw1⟩
  obtain ⟨B, cap, rfl⟩ := own_shape hown
  obtain ⟨g, rfl, hg1, hg2⟩ : ∃ g, B = some ⟨g, 0, none⟩ ∧ w.heap.size ≤ g ∧ g < w1.heap.size := by
    obtain ⟨g, cap, hv, h1, h2⟩ := hown.form (by omega)
    injection hv with hv
    exact ⟨g, hv, h1, h2⟩
  have hL : Lent w1 w.heap.size 3 1 g n cap (cellsL encInts (l ++ marksInts 16)) := hown
  obtain ⟨hc1, hc2⟩ := hL.cap
  have HLT := Lib.hid hL
  clear hown hL
  go_wp2
  go_ret
  exact ⟨g, cap, rfl, HLT.out, hw1⟩

theorem at_marksInts (k i : Nat) (h : i < k) : (marksInts k)[i]? = some (markInts (i : Int)) := by simp [marksInts, h]
set_option maxHeartbeats 1000000 in
theorem keptFullInts_any (O A : Option Addr) (n oc c : Nat) (l : List (Int)) (w : World) (ho : Sl w O (n + 16) 1 (cellsL encInts (l ++ marksInts 16))) (ha : Sl w A n 1 (cellsL encInts l)) (hn : n ≤ 4294967296) :
    Calls Tryd.prog 48 #[.slice O (n + 16) oc, .slice A n c] w fun e w' => e = .returned (.bool true) ∧ New w w' := by
  have HL := Lib.hid (ha.length encInts_len (by decide))
  have hd : (((n + 16 : Nat) : Int) != ((n : Int) + 16)) = false := by simp
  go_enter Tryd.func48, Tryd.ntmps48
  go_wp2
  go_loopw [5] (fun i wr => ∃ k : Nat, k ≤ n + 16 ∧ i = .int .i64 (k : Int) ∧ New w wr) (fun i _ => n + 16 - (intOf i).toNat)
  case atStart => exact ⟨0, by omega, rfl, Mod.refl _ _⟩
  case round =>
    obtain ⟨k, hk, rfl, hw⟩ := hrel
    by_cases hlt : k < n + 16
    · go_wp2_with fail
      refine (markInts_any ((k : Int) - (n : Int)) _ (by omega)).mono ?_
      rintro e w1 ⟨rfl, hw1⟩
      have hw2 := New.trans hw hw1
      obtain ⟨ob, oo, q, rfl, hpo, hco⟩ := (ho.new_ hw2).elem encInts_len (by decide) hlt
      by_cases hkn : k < n
      · obtain ⟨b, off, x0, rfl, hp, hc⟩ := (ha.new_ hw2).elem encInts_len (by decide) hkn
        have hpe : (l ++ marksInts 16)[k]? = l[k]? := List.getElem?_append_left (by have := HL.out; omega)
        rw [hpe, hp] at hpo
        injection hpo with hpo
        subst hpo
        have c0 := hc 0 _ rfl
        simp only [Nat.add_zero, Nat.mul_one] at c0
        have o0 := hco 0 _ rfl
        simp only [Nat.add_zero, Nat.mul_one] at o0
        have hob := World.block_lt_of_cell? w1 _ o0
        have hbl := World.block_lt_of_cell? w1 _ c0
        clear hp hc hpe hco
        try clear hpo
        have hneq : (x0 != x0) = false := by simp
        go_wp2
        go_roundw
        case rel => exact ⟨k + 1, by omega, by go_num, hw2⟩
        case measure => simp [intOf]; omega
      · have hpe : (l ++ marksInts 16)[k]? = some (markInts ((k - n : Nat) : Int)) := by
          rw [List.getElem?_append_right (by have := HL.out; omega), at_marksInts _ _ (by have := HL.out; omega)]
          have := HL.out
          rw [this]
        rw [hpe] at hpo
        injection hpo with hpo
        have hkk : ((k - n : Nat) : Int) = (k : Int) - (n : Int) := by omega
        rw [hkk] at hpo
        subst hpo
        have o0 := hco 0 _ rfl
        simp only [Nat.add_zero, Nat.mul_one] at o0
        have hob := World.block_lt_of_cell? w1 _ o0
        clear hpe hco hkk
        have hneq : ((91000273 + ((k : Int) - (n : Int))) != (91000273 + ((k : Int) - (n : Int)))) = false := by simp
        simp only [markInts] at o0
        go_wp2
        go_roundw
        case rel => exact ⟨k + 1, by omega, by go_num, hw2⟩
        case measure => simp [intOf]; omega
    · go_wp2
      go_ret
      exact ⟨rfl, hw⟩

theorem keptInts_any (g : Nat) (A : Option Addr) (n cap c B : Nat) (l : List (Int)) (w : World) (hL : Lent w B 3 1 g n cap (cellsL encInts (l ++ marksInts 16))) (ha : Sl w A n 1 (cellsL encInts l)) (hn : n ≤ 4294967296) :
    Calls Tryd.prog 18 #[.slice (some ⟨g, 0, none⟩) n cap, .slice A n c] w fun e w' => e = .returned (.bool true) ∧ New w w' := by
  obtain ⟨hc1, hc2⟩ := hL.cap
  have hd : ((n : Int) != (n : Int)) = false := by simp
  have HF := Lib.hid hL.full
  clear hL
  go_enter Tryd.func18, Tryd.ntmps18
  go_wp2_with fail
  refine (keptFullInts_any _ A n cap c l _ HF.out ha hn).mono ?_
  rintro e w1 ⟨rfl, hw1⟩
  go_wp2
  go_ret
  exact ⟨rfl, hw1⟩
end Go.Proofs.YtkkaejbdekdljaaDoor
