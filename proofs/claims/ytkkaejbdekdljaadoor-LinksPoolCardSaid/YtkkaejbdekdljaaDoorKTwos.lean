/- Walks: the statements' kit at lists of the kind Twos. (Printed by gen_kit.py.) -/
import Derived.Test.YtkkaejbdekdljaaDoorProg
import Derived.Test.YtkkaejbdekdljaaDoorWe
import Derived.Test.YtkkaejbdekdljaaDoorWf
import Derived.Deep.QuietTactic
import Derived.BigQuiet
set_option linter.unusedVariables false
set_option linter.unusedSimpArgs false
namespace Go.Proofs.YtkkaejbdekdljaaDoor
open Go.RowKit

def encTwos : Int × Int → List Value := fun (x0, x1) => [.int .i64 x0, .int .i64 x1]
theorem encTwos_len : ∀ p, (encTwos p).length = 2 := fun _ => rfl
theorem Tryd.sltTwos : SlT Tryd.prog 22 67 2 16 := ⟨Tryd.underlying22, ⟨.agg #[.int .i64 0, .int .i64 0], by kernel_rfl, rfl⟩, by decide, by decide⟩
def markTwos (i : Int) : Int × Int := (-100, i)
def marksTwos (k : Nat) : List (Int × Int) := (List.range k).map fun i : Nat => markTwos (i : Int)
theorem marksTwos_succ (k : Nat) : marksTwos (k + 1) = marksTwos k ++ [markTwos (k : Int)] := by simp [marksTwos, List.range_succ]
theorem marksTwos_length (k : Nat) : (marksTwos k).length = k := by simp [marksTwos]

theorem markTwos_any (i : Int) (w : World) (hi : -4294967312 ≤ i ∧ i ≤ 4294967312) :
    Calls Tryd.prog 63 #[.int .i64 90, .int .i64 i] w fun e w' => e = .returned (.agg #[.int .i64 (-100), .int .i64 i]) ∧ New w w' := by
  obtain ⟨h1, h2⟩ := hi
  go_enter Tryd.func63, Tryd.ntmps63
  go_wp2
  exact bodyPost_ret (v := .agg #[.int .i64 (-100), .int .i64 i]) (by simp [results, Tryd.results63, go_sem]) rfl ⟨rfl, (Mod.refl _ _).alloc _⟩

def FullTwosPost (w : World) (n : Nat) (l : List (Int × Int)) (e : Ending) (w' : World) : Prop :=
  ∃ v, e = .returned v ∧ w'.ownsRow w.heap.size 67 2 v (n + 16) (cellsL encTwos (l ++ marksTwos 16)) ∧ New w w'
set_option maxHeartbeats 1000000 in
theorem fullTwos_any (A : Option Addr) (n c : Nat) (l : List (Int × Int)) (w : World) (ha : Sl w A n 2 (cellsL encTwos l)) (hn : n ≤ 4294967296) :
    Calls Tryd.prog 36 #[.slice A n c] w (FullTwosPost w n l) := by
  have HL := Lib.hid (ha.length encTwos_len (by decide))
  go_enter Tryd.func36, Tryd.ntmps36
  go_wp2
  go_loopw [3, 4] (fun v i wr => ∃ k : Nat, k ≤ n ∧ i = .int .i64 (k : Int) ∧ wr.ownsRow w.heap.size 67 2 v k (cellsL encTwos (l.take k)) ∧ New w wr) (fun _ i _ => n - (intOf i).toNat)
  case atStart => exact ⟨0, Nat.zero_le _, rfl, own_nil _ _ _ _, Mod.refl _ _⟩
  case round =>
    obtain ⟨k, hk, rfl, hown, hw⟩ := hrel
    by_cases hlt : k < n
    · obtain ⟨b, off, ⟨x0, x1⟩, rfl, hp, hc⟩ := (ha.new_ hw).elem encTwos_len (by decide) hlt
      have c0 := hc 0 _ rfl
      have c1 := hc 1 _ rfl
      simp only [Nat.add_zero] at c0
      have HP := Lib.hid hp
      clear hp hc
      go_wp2_with (at_builtin; refine wpList_app Tryd.sltTwos rfl (.tmp 12) (.tmp 17) rfl w.heap.size _ k _ rfl (hown.alloc _) ⟨wr.heap.size, 0, none⟩ 1 1 [.int .i64 x0, .int .i64 x1] rfl rfl (cells_new _ _ _) ?c1 ?c2 ?c3 ?_)
      case c1 => simp [Value.oneCell']
      case c2 => omega
      case c3 => simp; have := hw.size; omega
      intro v' w1 hown1 hg1 _
      have hw1 : New w w1 := New.grown (hw.alloc _) (hown.alloc _) (Nat.le_refl _) hg1
      clear hg1
      go_wp2
      go_roundw
      case rel => exact ⟨k + 1, by omega, by go_num, by rw [take_next l k _ HP.out]; exact hown1, hw1⟩
      case measure => simp [intOf]; omega
    · obtain rfl : k = n := by omega
      obtain ⟨OA, oc, rfl⟩ := own_shape hown
      have hown0 : wr.ownsRow w.heap.size 67 2 (.slice OA k oc) (k + 0) (cellsL encTwos (l ++ marksTwos 0)) := by
        rw [List.take_of_length_le (by have := HL.out; omega)] at hown
        simpa [marksTwos] using hown
      have HO := Lib.hid hown0
      clear hown hown0
      go_wp2
      go_loopw [3, 5] (fun v i wr => ∃ j : Nat, j ≤ 16 ∧ i = .int .i64 (j : Int) ∧ wr.ownsRow w.heap.size 67 2 v (k + j) (cellsL encTwos (l ++ marksTwos j)) ∧ New w wr) (fun _ i _ => 16 - (intOf i).toNat)
      case atStart => exact ⟨0, by omega, rfl, HO.out, hw⟩
      case round =>
        obtain ⟨j, hj, rfl, hown, hw2⟩ := hrel
        by_cases hlt : j < 16
        · go_wp2_with fail
          refine (markTwos_any (j : Int) _ (by omega)).mono ?_
          rintro e w1 ⟨rfl, hw1⟩
          have hown1 := own_new hown hw1
          have hw3 := New.trans hw2 hw1
          go_wp2_with (at_builtin; refine wpList_app Tryd.sltTwos rfl (.tmp 23) (.tmp 26) rfl w.heap.size _ (k + j) _ rfl (hown1.alloc _) ⟨w1.heap.size, 0, none⟩ 1 1 [.int .i64 (-100), .int .i64 (j : Int)] rfl rfl (cells_new _ _ _) ?c1 ?c2 ?c3 ?_)
          case c1 => simp [Value.oneCell']
          case c2 => omega
          case c3 => simp; have := hw3.size; omega
          intro v' w4 hown4 hg4 _
          have hw4 : New w w4 := New.grown (hw3.alloc _) (hown1.alloc _) (Nat.le_refl _) hg4
          clear hg4
          go_wp2
          go_roundw
          case rel => exact ⟨j + 1, by omega, by go_num, by rw [marksTwos_succ, ← List.append_assoc, cellsL_append, cellsL_one]; exact hown4, hw4⟩
          case measure => simp [intOf]; omega
        · obtain rfl : j = 16 := by omega
          go_wp2
          go_ret
          exact ⟨_, rfl, hown, hw2⟩

def LentTwosPost (w : World) (n : Nat) (l : List (Int × Int)) (e : Ending) (w' : World) : Prop :=
  ∃ g cap, e = .returned (.slice (some ⟨g, 0, none⟩) n cap) ∧ Lent w' w.heap.size 67 2 g n cap (cellsL encTwos (l ++ marksTwos 16)) ∧ New w w'
theorem lentTwos_any (A : Option Addr) (n c : Nat) (l : List (Int × Int)) (w : World) (ha : Sl w A n 2 (cellsL encTwos l)) (hn : n ≤ 4294967296) :
    Calls Tryd.prog 9 #[.slice A n c] w (LentTwosPost w n l) := by
  go_enter Tryd.func9, Tryd.ntmps9
  go_wp2_with fail
  refine (fullTwos_any A n c l _ ha hn).mono ?_
  rintro e w1 ⟨v, rfl, hown, hw1⟩
  obtain ⟨B, cap, rfl⟩ := own_shape hown
  obtain ⟨g, rfl, hg1, hg2⟩ : ∃ g, B = some ⟨g, 0, none⟩ ∧ w.heap.size ≤ g ∧ g < w1.heap.size := by
    obtain ⟨g, cap, hv, h1, h2⟩ := hown.form (by omega)
    injection hv with hv
    exact ⟨g, hv, h1, h2⟩
  have hL : Lent w1 w.heap.size 67 2 g n cap (cellsL encTwos (l ++ marksTwos 16)) := hown
  obtain ⟨hc1, hc2⟩ := hL.cap
  have HLT := Lib.hid hL
  clear hown hL
  go_wp2
  go_ret
  exact ⟨g, cap, rfl, HLT.out, hw1⟩

theorem at_marksTwos (k i : Nat) (h : i < k) : (marksTwos k)[i]? = some (markTwos (i : Int)) := by simp [marksTwos, h]
set_option maxHeartbeats 1000000 in
theorem keptFullTwos_any (O A : Option Addr) (n oc c : Nat) (l : List (Int × Int)) (w : World) (ho : Sl w O (n + 16) 2 (cellsL encTwos (l ++ marksTwos 16))) (ha : Sl w A n 2 (cellsL encTwos l)) (hn : n ≤ 4294967296) :
    Calls Tryd.prog 44 #[.slice O (n + 16) oc, .slice A n c] w fun e w' => e = .returned (.bool true) ∧ New w w' := by
  have HL := Lib.hid (ha.length encTwos_len (by decide))
  have hd : (((n + 16 : Nat) : Int) != ((n : Int) + 16)) = false := by simp
  go_enter Tryd.func44, Tryd.ntmps44
  go_wp2
  go_loopw [5] (fun i wr => ∃ k : Nat, k ≤ n + 16 ∧ i = .int .i64 (k : Int) ∧ New w wr) (fun i _ => n + 16 - (intOf i).toNat)
  case atStart => exact ⟨0, by omega, rfl, Mod.refl _ _⟩
  case round =>
    obtain ⟨k, hk, rfl, hw⟩ := hrel
    by_cases hlt : k < n + 16
    · go_wp2_with fail
      refine (markTwos_any ((k : Int) - (n : Int)) _ (by omega)).mono ?_
      rintro e w1 ⟨rfl, hw1⟩
      have hw2 := New.trans hw hw1
      obtain ⟨ob, oo, q, rfl, hpo, hco⟩ := (ho.new_ hw2).elem encTwos_len (by decide) hlt
      by_cases hkn : k < n
      · obtain ⟨b, off, ⟨x0, x1⟩, rfl, hp, hc⟩ := (ha.new_ hw2).elem encTwos_len (by decide) hkn
        have hpe : (l ++ marksTwos 16)[k]? = l[k]? := List.getElem?_append_left (by have := HL.out; omega)
        rw [hpe, hp] at hpo
        injection hpo with hpo
        subst hpo
        have c0 := hc 0 _ rfl
        have c1 := hc 1 _ rfl
        simp only [Nat.add_zero] at c0
        have o0 := hco 0 _ rfl
        have o1 := hco 1 _ rfl
        simp only [Nat.add_zero] at o0
        have hob := World.block_lt_of_cell? w1 _ o0
        have hbl := World.block_lt_of_cell? w1 _ c0
        clear hp hc hpe hco
        try clear hpo
        have hneq := fun W => Tryd.neq2 x0 x1 x0 x1 W; simp at hneq
        go_wp2
        go_quiet (fail)
        go_wp2
        go_roundw
        case rel => exact ⟨k + 1, by omega, by go_num, (hw2.alloc _).drewN _⟩
        case measure => simp [intOf]; omega
      · have hpe : (l ++ marksTwos 16)[k]? = some (markTwos ((k - n : Nat) : Int)) := by
          rw [List.getElem?_append_right (by have := HL.out; omega), at_marksTwos _ _ (by have := HL.out; omega)]
          have := HL.out
          rw [this]
        rw [hpe] at hpo
        injection hpo with hpo
        have hkk : ((k - n : Nat) : Int) = (k : Int) - (n : Int) := by omega
        rw [hkk] at hpo
        subst hpo
        have o0 := hco 0 _ rfl
        have o1 := hco 1 _ rfl
        simp only [Nat.add_zero] at o0
        have hob := World.block_lt_of_cell? w1 _ o0
        clear hpe hco hkk
        have hneq := fun W => Tryd.neq2 (-100) ((k : Int) - (n : Int)) (-100) ((k : Int) - (n : Int)) W; simp at hneq
        go_wp2
        go_quiet (fail)
        go_wp2
        go_roundw
        case rel => exact ⟨k + 1, by omega, by go_num, (hw2.alloc _).drewN _⟩
        case measure => simp [intOf]; omega
    · go_wp2
      go_ret
      exact ⟨rfl, hw⟩

theorem keptTwos_any (g : Nat) (A : Option Addr) (n cap c B : Nat) (l : List (Int × Int)) (w : World) (hL : Lent w B 67 2 g n cap (cellsL encTwos (l ++ marksTwos 16))) (ha : Sl w A n 2 (cellsL encTwos l)) (hn : n ≤ 4294967296) :
    Calls Tryd.prog 14 #[.slice (some ⟨g, 0, none⟩) n cap, .slice A n c] w fun e w' => e = .returned (.bool true) ∧ New w w' := by
  obtain ⟨hc1, hc2⟩ := hL.cap
  have hd : ((n : Int) != (n : Int)) = false := by simp
  have HF := Lib.hid hL.full
  clear hL
  go_enter Tryd.func14, Tryd.ntmps14
  go_wp2_with fail
  refine (keptFullTwos_any _ A n cap c l _ HF.out ha hn).mono ?_
  rintro e w1 ⟨rfl, hw1⟩
  go_wp2
  go_ret
  exact ⟨rfl, hw1⟩
end Go.Proofs.YtkkaejbdekdljaaDoor
