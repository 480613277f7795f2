/- Words and walks, part 6 of 19. -/
import Derived.Test.YtkkaejbdekdljaaDoorProg
import Derived.ChangeKeysEq
import Derived.Laws.StructEq
import Derived.Deep.QuietTactic
import Derived.BigQuiet
import Derived.Test.YtkkaejbdekdljaaDoorQ2
import Derived.Test.YtkkaejbdekdljaaDoorQ4
import Derived.Test.YtkkaejbdekdljaaDoorQ5
/- Walks: works. -/
set_option linter.unusedVariables false
set_option linter.unusedSimpArgs false
namespace Go.Proofs.YtkkaejbdekdljaaDoor
open Go.RowKit

theorem Sl.of_blk {w : World} {g : Nat} {t : TypeId} {xs rest : List Value} {n sz : Nat} (h : Blk w g t (xs ++ rest)) (hl : xs.length = n * sz) (hn : n ≤ 9223372036854775807) : Sl w (some ⟨g, 0, none⟩) n sz xs :=
  ⟨hl, hn, fun _ => ⟨g, 0, rfl, fun j u hu => by
    rw [h.cell, Nat.zero_add, List.getElem?_append_left (List.getElem?_eq_some_iff.1 hu).1]; exact hu⟩⟩
theorem Sl.lit (w : World) (t : TypeId) (xs : List Value) (n sz : Nat) (hl : xs.length = n * sz) (hn : n ≤ 9223372036854775807) : Sl (w.alloc (.cells xs.toArray t)) (some ⟨w.heap.size, 0, none⟩) n sz xs :=
  Sl.of_blk (rest := []) (by simpa using Blk.new w t xs) hl hn
theorem nats_nums (l : List Nat) : nats l = nums (l.map fun x : Nat => (x : Int)) := by simp [nats, nums]
theorem grp3 {r : List Nat} (h : GrpOut 3 [(2, 1)] r) : r = [0, 1, 1] := by
  have e : grpErr 3 [(2, 1)] = (0, 0) := by decide
  have h' : GrpOut 3 [(2, 1)] [0, 1, 1] := by
    unfold GrpOut
    rw [if_pos (by rw [e])]
    refine ⟨rfl, fun i hi => ?_, fun p hp => ?_, fun c hc i hi => ?_⟩
    · have : i = 0 ∨ i = 1 ∨ i = 2 := by simp at hi; omega
      rcases this with rfl | rfl | rfl <;> decide
    · simp at hp; subst hp; decide
    · have h1 := hc (2, 1) (by simp)
      have : i = 0 ∨ i = 1 ∨ i = 2 := by simp at hi; omega
      rcases this with rfl | rfl | rfl
      · rfl
      · rfl
      · simpa [at_] using h1.symm
  exact h.unique h'

set_option maxRecDepth 100000 in
set_option maxHeartbeats 1000000 in
theorem works_any (w : World) : Calls Tryd.prog 7 #[] w fun e w' => e = .returned (.bool true) ∧ New w w' := by
  go_enter Tryd.func7, Tryd.ntmps7
  go_wp2_with fail
  have s1 := Sl.lit w 67 (twos [(2, 1)]) 1 2 rfl (by omega)
  refine (linksGroups_any 3 _ 1 1 [(2, 1)] _ s1).mono ?_
  rintro e w1 ⟨v, ev, r, rfl, he, hv, hr, hw1⟩
  obtain rfl := grp3 hr
  have he2 : ev = .nilIface := by
    rcases he with ⟨_, h⟩ | ⟨h1, _⟩
    · exact h
    · have e : grpErr 3 [(2, 1)] = (0, 0) := by decide
      rw [e] at h1; simp at h1
  subst he2
  obtain ⟨A, c, rfl⟩ := own_shape hv
  have sv : Sl w1 A 3 1 (nums [0, 1, 1]) := own_sl hv
  have n1 : New w w1 := New.trans ((Mod.refl _ _).alloc _) hw1
  clear he hv hr s1 hw1
  go_wp2_with fail
  have s2 := Sl.lit w1 67 (twos [(1, 0)]) 1 2 rfl (by omega)
  have s3 := Sl.lit (w1.alloc (.cells (twos [(1, 0)]).toArray 67)) 3 (nums [5, 1]) 2 1 rfl (by omega)
  have e3 : (w1.alloc (.cells (twos [(1, 0)]).toArray 67)).heap.size = w1.heap.size + 1 := by simp
  rw [e3] at s3
  refine (linksOrder_any 2 _ _ 1 1 2 2 [(1, 0)] [5, 1] _ (s2.new_ ((Mod.refl _ _).alloc _)) s3 (by omega)).mono ?_
  rintro e w2 ⟨v2, ev2, rfl, he2, hv2, hw2⟩
  have ee : ordErr 2 [(1, 0)] 2 [5, 1] = (0, 0) := by decide
  have eo : ordOut 2 [(1, 0)] 2 [5, 1] = [1, 0] := by decide
  rw [eo] at hv2
  rw [ee] at he2
  have he3 : ev2 = .nilIface := by
    rcases he2 with ⟨_, h⟩ | ⟨h1, _⟩
    · exact h
    · simp at h1
  subst he3
  obtain ⟨A2, c2, rfl⟩ := own_shape hv2
  have sv2 : Sl w2 A2 2 1 (nums [1, 0]) := own_sl hv2
  have n2 : New w1 w2 := New.trans (((Mod.refl _ _).alloc _).alloc _) hw2
  have sv3 := sv.new_ n2
  clear he2 hv2 hw2 ee eo s2 s3 e3 sv
  go_wp2_with fail
  refine (sameInts_any A _ 3 3 c 3 [0, 1, 1] [0, 1, 1] _ (sv3.new_ ((Mod.refl _ _).alloc _)) (Sl.lit w2 3 (nums [0, 1, 1]) 3 1 rfl (by omega))).mono ?_
  rintro e w3 ⟨rfl, hw3⟩
  have n3 : New w2 w3 := New.trans ((Mod.refl _ _).alloc _) hw3
  go_wp2_with fail
  refine (sameInts_any A2 _ 2 2 c2 2 [1, 0] [1, 0] _ ((sv2.new_ n3).new_ ((Mod.refl _ _).alloc _)) (Sl.lit w3 3 (nums [1, 0]) 2 1 rfl (by omega))).mono ?_
  rintro e w4 ⟨rfl, hw4⟩
  go_wp2
  go_ret
  exact ⟨by simp, New.trans (New.trans (New.trans n1 n2) n3) (New.trans ((Mod.refl _ _).alloc _) hw4)⟩
end Go.Proofs.YtkkaejbdekdljaaDoor
/- Words: == of arrays of two ints. -/
set_option linter.unusedVariables false
set_option linter.unusedSimpArgs false
namespace Go.Proofs.YtkkaejbdekdljaaDoor
open Go.RowKit
theorem Tryd.cellsInt : Tryd.prog.cellsOf 3 = 1 := by kernel_rfl
theorem Tryd.part2 (a b : Value) (w : World) : (part 3 #[a, b] 0).run Tryd.prog w = .ok a w := by kernel_rfl
theorem Tryd.part2b (a b : Value) (w : World) : (part 3 #[a, b] 1).run Tryd.prog w = .ok b w := by kernel_rfl
theorem Tryd.eqInt (d : Nat) (a b : Int) (w : World) : (Op.equalIn (d + 1) 3 (.int .i64 a) (.int .i64 b)).run Tryd.prog w = .ok (a == b) w := by
  simp [Op.equalIn, run_underlying Tryd.underlying3]
theorem Tryd.eq2 (d : Nat) (a b x y : Int) (w : World) : (Op.equalIn (d + 2) 67 (.agg #[.int .i64 a, .int .i64 b]) (.agg #[.int .i64 x, .int .i64 y])).run Tryd.prog w = .ok (a == x && b == y) w := by
  obtain ⟨i, hi⟩ : ∃ i, Tryd.prog.info? 3 = some i := Option.isSome_iff_exists.1 (by kernel_rfl)
  rw [run_equalIn_array (P := Tryd.prog) w (d + 1) _ _ Tryd.underlying67 hi]
  by_cases h1 : a = x <;> by_cases h2 : b = y <;> simp [Op.eqItems, List.range_succ, Tryd.cellsInt, Tryd.part2, Tryd.part2b, Tryd.eqInt, h1, h2]
theorem Tryd.neq2 (a b x y : Int) (w : World) : (binOp .neq 67 (.agg #[.int .i64 a, .int .i64 b]) (.agg #[.int .i64 x, .int .i64 y])).run Tryd.prog w = .ok (.bool (!(a == x && b == y))) w := by
  simp only [binOp]
  simp [Op.equal, Op.maxDepth, Tryd.eq2 9998]
end Go.Proofs.YtkkaejbdekdljaaDoor
/- Walks: the statements' kit at lists of the kind Twos. (Printed by gen_kit.py.) -/
set_option linter.unusedVariables false
set_option linter.unusedSimpArgs false
namespace Go.Proofs.YtkkaejbdekdljaaDoor
open Go.RowKit

def encTwos : Int × Int → List Value := fun (x0, x1) => [.int .i64 x0, .int .i64 x1]
theorem encTwos_len : ∀ p, (encTwos p).length = 2 := fun _ => rfl
theorem Tryd.sltTwos : SlT Tryd.prog 22 67 2 16 := ⟨Tryd.underlying22, ⟨.agg #[.int .i64 0, .int .i64 0], by kernel_rfl, rfl⟩, by decide, by decide⟩
def markTwos (i : Int) : Int × Int := (-100, i)
def marksTwos (k : Nat) : List (Int × Int) := (List.range k).map fun i : Nat => markTwos (i : Int)
theorem marksTwos_succ (k : Nat) : marksTwos (k + 1) = marksTwos k ++ [markTwos (k : Int)] := by simp [marksTwos, List.range_succ]
theorem marksTwos_length (k : Nat) : (marksTwos k).length = k := by simp [marksTwos]

theorem markTwos_any (i : Int) (w : World) (hi : -4294967312 ≤ i ∧ i ≤ 4294967312) :
    Calls Tryd.prog 63 #[.int .i64 90, .int .i64 i] w fun e w' => e = .returned (.agg #[.int .i64 (-100), .int .i64 i]) ∧ New w w' := by
  obtain ⟨h1, h2⟩ := hi
  go_enter Tryd.func63, Tryd.ntmps63
  go_wp2
  exact bodyPost_ret (v := .agg #[.int .i64 (-100), .int .i64 i]) (by simp [results, Tryd.results63, go_sem]) rfl ⟨rfl, (Mod.refl _ _).alloc _⟩

def FullTwosPost (w : World) (n : Nat) (l : List (Int × Int)) (e : Ending) (w' : World) : Prop :=
  ∃ v, e = .returned v ∧ w'.ownsRow w.heap.size 67 2 v (n + 16) (cellsL encTwos (l ++ marksTwos 16)) ∧ New w w'
set_option maxHeartbeats 1000000 in
theorem fullTwos_any (A : Option Addr) (n c : Nat) (l : List (Int × Int)) (w : World) (ha : Sl w A n 2 (cellsL encTwos l)) (hn : n ≤ 4294967296) :
    Calls Tryd.prog 36 #[.slice A n c] w (FullTwosPost w n l) := by
  have HL := Lib.hid (ha.length encTwos_len (by decide))
  go_enter Tryd.func36, Tryd.ntmps36
  go_wp2
  go_loopw [3, 4] (fun v i wr => ∃ k : Nat, k ≤ n ∧ i = .int .i64 (k : Int) ∧ wr.ownsRow w.heap.size 67 2 v k (cellsL encTwos (l.take k)) ∧ New w wr) (fun _ i _ => n - (intOf i).toNat)
  case atStart => exact ⟨0, Nat.zero_le _, rfl, own_nil _ _ _ _, Mod.refl _ _⟩
  case round =>
    obtain ⟨k, hk, rfl, hown, hw⟩ := hrel
    by_cases hlt : k < n
    · obtain ⟨b, off, ⟨x0, x1⟩, rfl, hp, hc⟩ := (ha.new_ hw).elem encTwos_len (by decide) hlt
      have c0 := hc 0 _ rfl
      have c1 := hc 1 _ rfl
      simp only [Nat.add_zero] at c0
      have HP := Lib.hid hp
      clear hp hc
      go_wp2_with (at_builtin; refine wpList_app Tryd.sltTwos rfl (.tmp 12) (.tmp 17) rfl w.heap.size _ k _ rfl (hown.alloc _) ⟨wr.heap.size, 0, none⟩ 1 1 [.int .i64 x0, .int .i64 x1] rfl rfl (cells_new _ _ _) ?c1 ?c2 ?c3 ?_)
      case c1 => simp [Value.oneCell']
      case c2 => omega
      case c3 => simp; have := hw.size; omega
      intro v' w1 hown1 hg1 _
      have hw1 : New w w1 := New.grown (hw.alloc _) (hown.alloc _) (Nat.le_refl _) hg1
      clear hg1
      go_wp2
      go_roundw
      case rel => exact ⟨k + 1, by omega, by go_num, by rw [take_next l k _ HP.out]; exact hown1, hw1⟩
      case measure => simp [intOf]; omega
    · obtain rfl : k = n := by omega
      obtain ⟨OA, oc, rfl⟩ := own_shape hown
      have hown0 : wr.ownsRow w.heap.size 67 2 (.slice OA k oc) (k + 0) (cellsL encTwos (l ++ marksTwos 0)) := by
        rw [List.take_of_length_le (by have := HL.out; omega)] at hown
        simpa [marksTwos] using hown
      have HO := Lib.hid hown0
      clear hown hown0
      go_wp2
      go_loopw [3, 5] (fun v i wr => ∃ j : Nat, j ≤ 16 ∧ i = .int .i64 (j : Int) ∧ wr.ownsRow w.heap.size 67 2 v (k + j) (cellsL encTwos (l ++ marksTwos j)) ∧ New w wr) (fun _ i _ => 16 - (intOf i).toNat)
      case atStart => exact ⟨0, by omega, rfl, HO.out, hw⟩
      case round =>
        obtain ⟨j, hj, rfl, hown, hw2⟩ := hrel
        by_cases hlt : j < 16
        · go_wp2_with fail
          refine (markTwos_any (j : Int) _ (by omega)).mono ?_
          rintro e w1 ⟨rfl, hw1⟩
          have hown1 := own_new hown hw1
          have hw3 := New.trans hw2 hw1
          go_wp2_with (at_builtin; refine wpList_app Tryd.sltTwos rfl (.tmp 23) (.tmp 26) rfl w.heap.size _ (k + j) _ rfl (hown1.alloc _) ⟨w1.heap.size, 0, none⟩ 1 1 [.int .i64 (-100), .int .i64 (j : Int)] rfl rfl (cells_new _ _ _) ?c1 ?c2 ?c3 ?_)
          case c1 => simp [Value.oneCell']
          case c2 => omega
          case c3 => simp; have := hw3.size; omega
          intro v' w4 hown4 hg4 _
          have hw4 : New w w4 := New.grown (hw3.alloc _) (hown1.alloc _) (Nat.le_refl _) hg4
          clear hg4
          go_wp2
          go_roundw
          case rel => exact ⟨j + 1, by omega, by go_num, by rw [marksTwos_succ, ← List.append_assoc, cellsL_append, cellsL_one]; exact hown4, hw4⟩
          case measure => simp [intOf]; omega
        · obtain rfl : j = 16 := by omega
          go_wp2
          go_ret
          exact ⟨_, rfl, hown, hw2⟩

def LentTwosPost (w : World) (n : Nat) (l : List (Int × Int)) (e : Ending) (w' : World) : Prop :=
  ∃ g cap, e = .returned (.slice (some ⟨g, 0, none⟩) n cap) ∧ Lent w' w.heap.size 67 2 g n cap (cellsL encTwos (l ++ marksTwos 16)) ∧ New w w'
theorem lentTwos_any (A : Option Addr) (n c : Nat) (l : List (Int × Int)) (w : World) (ha : Sl w A n 2 (cellsL encTwos l)) (hn : n ≤ 4294967296) :
    Calls Tryd.prog 9 #[.slice A n c] w (LentTwosPost w n l) := by
  go_enter Tryd.func9, Tryd.ntmps9
  go_wp2_with fail
  refine (fullTwos_any A n c l _ ha hn).mono ?_
  rintro e w1 ⟨v, rfl, hown, hw1⟩
  obtain ⟨B, cap, rfl⟩ := own_shape hown
  obtain ⟨g, rfl, hg1, hg2⟩ : ∃ g, B = some ⟨g, 0, none⟩ ∧ w.heap.size ≤ g ∧ g < w1.heap.size := by
    obtain ⟨g, cap, hv, h1, h2⟩ := hown.form (by omega)
    injection hv with hv
    exact ⟨g, hv, h1, h2⟩
  have hL : Lent w1 w.heap.size 67 2 g n cap (cellsL encTwos (l ++ marksTwos 16)) := hown
  obtain ⟨hc1, hc2⟩ := hL.cap
  have HLT := Lib.hid hL
  clear hown hL
  go_wp2
  go_ret
  exact ⟨g, cap, rfl, HLT.out, hw1⟩

theorem at_marksTwos (k i : Nat) (h : i < k) : (marksTwos k)[i]? = some (markTwos (i : Int)) := by simp [marksTwos, h]
set_option maxHeartbeats 1000000 in
theorem keptFullTwos_any (O A : Option Addr) (n oc c : Nat) (l : List (Int × Int)) (w : World) (ho : Sl w O (n + 16) 2 (cellsL encTwos (l ++ marksTwos 16))) (ha : Sl w A n 2 (cellsL encTwos l)) (hn : n ≤ 4294967296) :
    Calls Tryd.prog 44 #[.slice O (n + 16) oc, .slice A n c] w fun e w' => e = .returned (.bool true) ∧ New w w' := by
  have HL := Lib.hid (ha.length encTwos_len (by decide))
  have hd : (((n + 16 : Nat) : Int) != ((n : Int) + 16)) = false := by simp
  go_enter Tryd.func44, Tryd.ntmps44
  go_wp2
  go_loopw [5] (fun i wr => ∃ k : Nat, k ≤ n + 16 ∧ i = .int .i64 (k : Int) ∧ New w wr) (fun i _ => n + 16 - (intOf i).toNat)
  case atStart => exact ⟨0, by omega, rfl, Mod.refl _ _⟩
  case round =>
    obtain ⟨k, hk, rfl, hw⟩ := hrel
    by_cases hlt : k < n + 16
    · go_wp2_with fail
      refine (markTwos_any ((k : Int) - (n : Int)) _ (by omega)).mono ?_
      rintro e w1 ⟨rfl, hw1⟩
      have hw2 := New.trans hw hw1
      obtain ⟨ob, oo, q, rfl, hpo, hco⟩ := (ho.new_ hw2).elem encTwos_len (by decide) hlt
      by_cases hkn : k < n
      · obtain ⟨b, off, ⟨x0, x1⟩, rfl, hp, hc⟩ := (ha.new_ hw2).elem encTwos_len (by decide) hkn
        have hpe : (l ++ marksTwos 16)[k]? = l[k]? := List.getElem?_append_left (by have := HL.out; omega)
        rw [hpe, hp] at hpo
        injection hpo with hpo
        subst hpo
        have c0 := hc 0 _ rfl
        have c1 := hc 1 _ rfl
        simp only [Nat.add_zero] at c0
        have o0 := hco 0 _ rfl
        have o1 := hco 1 _ rfl
        simp only [Nat.add_zero] at o0
        have hob := World.block_lt_of_cell? w1 _ o0
        have hbl := World.block_lt_of_cell? w1 _ c0
        clear hp hc hpe hco
        try clear hpo
        have hneq := fun W => Tryd.neq2 x0 x1 x0 x1 W; simp at hneq
        go_wp2
        go_quiet (fail)
        go_wp2
        go_roundw
        case rel => exact ⟨k + 1, by omega, by go_num, (hw2.alloc _).drewN _⟩
        case measure => simp [intOf]; omega
      · have hpe : (l ++ marksTwos 16)[k]? = some (markTwos ((k - n : Nat) : Int)) := by
          rw [List.getElem?_append_right (by have := HL.out; omega), at_marksTwos _ _ (by have := HL.out; omega)]
          have := HL.out
          rw [this]
        rw [hpe] at hpo
        injection hpo with hpo
        have hkk : ((k - n : Nat) : Int) = (k : Int) - (n : Int) := by omega
        rw [hkk] at hpo
        subst hpo
        have o0 := hco 0 _ rfl
        have o1 := hco 1 _ rfl
        simp only [Nat.add_zero] at o0
        have hob := World.block_lt_of_cell? w1 _ o0
        clear hpe hco hkk
        have hneq := fun W => Tryd.neq2 (-100) ((k : Int) - (n : Int)) (-100) ((k : Int) - (n : Int)) W; simp at hneq
        go_wp2
        go_quiet (fail)
        go_wp2
        go_roundw
        case rel => exact ⟨k + 1, by omega, by go_num, (hw2.alloc _).drewN _⟩
        case measure => simp [intOf]; omega
    · go_wp2
      go_ret
      exact ⟨rfl, hw⟩

theorem keptTwos_any (g : Nat) (A : Option Addr) (n cap c B : Nat) (l : List (Int × Int)) (w : World) (hL : Lent w B 67 2 g n cap (cellsL encTwos (l ++ marksTwos 16))) (ha : Sl w A n 2 (cellsL encTwos l)) (hn : n ≤ 4294967296) :
    Calls Tryd.prog 14 #[.slice (some ⟨g, 0, none⟩) n cap, .slice A n c] w fun e w' => e = .returned (.bool true) ∧ New w w' := by
  obtain ⟨hc1, hc2⟩ := hL.cap
  have hd : ((n : Int) != (n : Int)) = false := by simp
  have HF := Lib.hid hL.full
  clear hL
  go_enter Tryd.func14, Tryd.ntmps14
  go_wp2_with fail
  refine (keptFullTwos_any _ A n cap c l _ HF.out ha hn).mono ?_
  rintro e w1 ⟨rfl, hw1⟩
  go_wp2
  go_ret
  exact ⟨rfl, hw1⟩
end Go.Proofs.YtkkaejbdekdljaaDoor
/- Walks: the statements' kit at lists of the kind Ints. (Printed by gen_kit.py.) -/
set_option linter.unusedVariables false
set_option linter.unusedSimpArgs false
namespace Go.Proofs.YtkkaejbdekdljaaDoor
open Go.RowKit

def encInts : Int → List Value := fun x0 => [.int .i64 x0]
theorem encInts_len : ∀ p, (encInts p).length = 1 := fun _ => rfl
theorem Tryd.sltInts : SlT Tryd.prog 24 3 1 8 := ⟨Tryd.underlying24, ⟨.int .i64 0, by kernel_rfl, rfl⟩, by decide, by decide⟩
def markInts (i : Int) : Int := (91000273 + i)
def marksInts (k : Nat) : List (Int) := (List.range k).map fun i : Nat => markInts (i : Int)
theorem marksInts_succ (k : Nat) : marksInts (k + 1) = marksInts k ++ [markInts (k : Int)] := by simp [marksInts, List.range_succ]
theorem marksInts_length (k : Nat) : (marksInts k).length = k := by simp [marksInts]

theorem markInts_any (i : Int) (w : World) (hi : -4294967312 ≤ i ∧ i ≤ 4294967312) :
    Calls Tryd.prog 43 #[.int .i64 90, .int .i64 i] w fun e w' => e = .returned (.int .i64 (91000273 + i)) ∧ New w w' := by
  obtain ⟨h1, h2⟩ := hi
  go_enter Tryd.func43, Tryd.ntmps43
  go_wp2
  go_ret
  exact ⟨rfl, Mod.refl _ _⟩

def FullIntsPost (w : World) (n : Nat) (l : List (Int)) (e : Ending) (w' : World) : Prop :=
  ∃ v, e = .returned v ∧ w'.ownsRow w.heap.size 3 1 v (n + 16) (cellsL encInts (l ++ marksInts 16)) ∧ New w w'
set_option maxHeartbeats 1000000 in
theorem fullInts_any (A : Option Addr) (n c : Nat) (l : List (Int)) (w : World) (ha : Sl w A n 1 (cellsL encInts l)) (hn : n ≤ 4294967296) :
    Calls Tryd.prog 46 #[.slice A n c] w (FullIntsPost w n l) := by
  have HL := Lib.hid (ha.length encInts_len (by decide))
  go_enter Tryd.func46, Tryd.ntmps46
  go_wp2
  go_loopw [3, 4] (fun v i wr => ∃ k : Nat, k ≤ n ∧ i = .int .i64 (k : Int) ∧ wr.ownsRow w.heap.size 3 1 v k (cellsL encInts (l.take k)) ∧ New w wr) (fun _ i _ => n - (intOf i).toNat)
  case atStart => exact ⟨0, Nat.zero_le _, rfl, own_nil _ _ _ _, Mod.refl _ _⟩
  case round =>
    obtain ⟨k, hk, rfl, hown, hw⟩ := hrel
    by_cases hlt : k < n
    · obtain ⟨b, off, x0, rfl, hp, hc⟩ := (ha.new_ hw).elem encInts_len (by decide) hlt
      have c0 := hc 0 _ rfl
      simp only [Nat.add_zero, Nat.mul_one] at c0
      have HP := Lib.hid hp
      clear hp hc
      go_wp2_with (at_builtin; refine wpList_app Tryd.sltInts rfl (.tmp 12) (.tmp 17) rfl w.heap.size _ k _ rfl (hown.alloc _) ⟨wr.heap.size, 0, none⟩ 1 1 [.int .i64 x0] rfl rfl (cells_new _ _ _) ?c1 ?c2 ?c3 ?_)
      case c1 => simp [Value.oneCell']
      case c2 => omega
      case c3 => simp; have := hw.size; omega
      intro v' w1 hown1 hg1 _
      have hw1 : New w w1 := New.grown (hw.alloc _) (hown.alloc _) (Nat.le_refl _) hg1
      clear hg1
      go_wp2
      go_roundw
      case rel => exact ⟨k + 1, by omega, by go_num, by rw [take_next l k _ HP.out]; exact hown1, hw1⟩
      case measure => simp [intOf]; omega
    · obtain rfl : k = n := by omega
      obtain ⟨OA, oc, rfl⟩ := own_shape hown
      have hown0 : wr.ownsRow w.heap.size 3 1 (.slice OA k oc) (k + 0) (cellsL encInts (l ++ marksInts 0)) := by
        rw [List.take_of_length_le (by have := HL.out; omega)] at hown
        simpa [marksInts] using hown
      have HO := Lib.hid hown0
      clear hown hown0
      go_wp2
      go_loopw [3, 5] (fun v i wr => ∃ j : Nat, j ≤ 16 ∧ i = .int .i64 (j : Int) ∧ wr.ownsRow w.heap.size 3 1 v (k + j) (cellsL encInts (l ++ marksInts j)) ∧ New w wr) (fun _ i _ => 16 - (intOf i).toNat)
      case atStart => exact ⟨0, by omega, rfl, HO.out, hw⟩
      case round =>
        obtain ⟨j, hj, rfl, hown, hw2⟩ := hrel
        by_cases hlt : j < 16
        · go_wp2_with fail
          refine (markInts_any (j : Int) _ (by omega)).mono ?_
          rintro e w1 ⟨rfl, hw1⟩
          have hown1 := own_new hown hw1
          have hw3 := New.trans hw2 hw1
          go_wp2_with (at_builtin; refine wpList_app Tryd.sltInts rfl (.tmp 23) (.tmp 26) rfl w.heap.size _ (k + j) _ rfl (hown1.alloc _) ⟨w1.heap.size, 0, none⟩ 1 1 [.int .i64 (91000273 + (j : Int))] rfl rfl (cells_new _ _ _) ?c1 ?c2 ?c3 ?_)
          case c1 => simp [Value.oneCell']
          case c2 => omega
          case c3 => simp; have := hw3.size; omega
          intro v' w4 hown4 hg4 _
          have hw4 : New w w4 := New.grown (hw3.alloc _) (hown1.alloc _) (Nat.le_refl _) hg4
          clear hg4
          go_wp2
          go_roundw
          case rel => exact ⟨j + 1, by omega, by go_num, by rw [marksInts_succ, ← List.append_assoc, cellsL_append, cellsL_one]; exact hown4, hw4⟩
          case measure => simp [intOf]; omega
        · obtain rfl : j = 16 := by omega
          go_wp2
          go_ret
          exact ⟨_, rfl, hown, hw2⟩

def LentIntsPost (w : World) (n : Nat) (l : List (Int)) (e : Ending) (w' : World) : Prop :=
  ∃ g cap, e = .returned (.slice (some ⟨g, 0, none⟩) n cap) ∧ Lent w' w.heap.size 3 1 g n cap (cellsL encInts (l ++ marksInts 16)) ∧ New w w'
theorem lentInts_any (A : Option Addr) (n c : Nat) (l : List (Int)) (w : World) (ha : Sl w A n 1 (cellsL encInts l)) (hn : n ≤ 4294967296) :
    Calls Tryd.prog 16 #[.slice A n c] w (LentIntsPost w n l) := by
  go_enter Tryd.func16, Tryd.ntmps16
  go_wp2_with fail
  refine (fullInts_any A n c l _ ha hn).mono ?_
  rintro e w1 ⟨v, rfl, hown, hw1⟩
  obtain ⟨B, cap, rfl⟩ := own_shape hown
  obtain ⟨g, rfl, hg1, hg2⟩ : ∃ g, B = some ⟨g, 0, none⟩ ∧ w.heap.size ≤ g ∧ g < w1.heap.size := by
    obtain ⟨g, cap, hv, h1, h2⟩ := hown.form (by omega)
    injection hv with hv
    exact ⟨g, hv, h1, h2⟩
  have hL : Lent w1 w.heap.size 3 1 g n cap (cellsL encInts (l ++ marksInts 16)) := hown
  obtain ⟨hc1, hc2⟩ := hL.cap
  have HLT := Lib.hid hL
  clear hown hL
  go_wp2
  go_ret
  exact ⟨g, cap, rfl, HLT.out, hw1⟩

theorem at_marksInts (k i : Nat) (h : i < k) : (marksInts k)[i]? = some (markInts (i : Int)) := by simp [marksInts, h]
set_option maxHeartbeats 1000000 in
theorem keptFullInts_any (O A : Option Addr) (n oc c : Nat) (l : List (Int)) (w : World) (ho : Sl w O (n + 16) 1 (cellsL encInts (l ++ marksInts 16))) (ha : Sl w A n 1 (cellsL encInts l)) (hn : n ≤ 4294967296) :
    Calls Tryd.prog 48 #[.slice O (n + 16) oc, .slice A n c] w fun e w' => e = .returned (.bool true) ∧ New w w' := by
  have HL := Lib.hid (ha.length encInts_len (by decide))
  have hd : (((n + 16 : Nat) : Int) != ((n : Int) + 16)) = false := by simp
  go_enter Tryd.func48, Tryd.ntmps48
  go_wp2
  go_loopw [5] (fun i wr => ∃ k : Nat, k ≤ n + 16 ∧ i = .int .i64 (k : Int) ∧ New w wr) (fun i _ => n + 16 - (intOf i).toNat)
  case atStart => exact ⟨0, by omega, rfl, Mod.refl _ _⟩
  case round =>
    obtain ⟨k, hk, rfl, hw⟩ := hrel
    by_cases hlt : k < n + 16
    · go_wp2_with fail
      refine (markInts_any ((k : Int) - (n : Int)) _ (by omega)).mono ?_
      rintro e w1 ⟨rfl, hw1⟩
      have hw2 := New.trans hw hw1
      obtain ⟨ob, oo, q, rfl, hpo, hco⟩ := (ho.new_ hw2).elem encInts_len (by decide) hlt
      by_cases hkn : k < n
      · obtain ⟨b, off, x0, rfl, hp, hc⟩ := (ha.new_ hw2).elem encInts_len (by decide) hkn
        have hpe : (l ++ marksInts 16)[k]? = l[k]? := List.getElem?_append_left (by have := HL.out; omega)
        rw [hpe, hp] at hpo
        injection hpo with hpo
        subst hpo
        have c0 := hc 0 _ rfl
        simp only [Nat.add_zero, Nat.mul_one] at c0
        have o0 := hco 0 _ rfl
        simp only [Nat.add_zero, Nat.mul_one] at o0
        have hob := World.block_lt_of_cell? w1 _ o0
        have hbl := World.block_lt_of_cell? w1 _ c0
        clear hp hc hpe hco
        try clear hpo
        have hneq : (x0 != x0) = false := by simp
        go_wp2
        go_roundw
        case rel => exact ⟨k + 1, by omega, by go_num, hw2⟩
        case measure => simp [intOf]; omega
      · have hpe : (l ++ marksInts 16)[k]? = some (markInts ((k - n : Nat) : Int)) := by
          rw [List.getElem?_append_right (by have := HL.out; omega), at_marksInts _ _ (by have := HL.out; omega)]
          have := HL.out
          rw [this]
        rw [hpe] at hpo
        injection hpo with hpo
        have hkk : ((k - n : Nat) : Int) = (k : Int) - (n : Int) := by omega
        rw [hkk] at hpo
        subst hpo
        have o0 := hco 0 _ rfl
        simp only [Nat.add_zero, Nat.mul_one] at o0
        have hob := World.block_lt_of_cell? w1 _ o0
        clear hpe hco hkk
        have hneq : ((91000273 + ((k : Int) - (n : Int))) != (91000273 + ((k : Int) - (n : Int)))) = false := by simp
        simp only [markInts] at o0
        go_wp2
        go_roundw
        case rel => exact ⟨k + 1, by omega, by go_num, hw2⟩
        case measure => simp [intOf]; omega
    · go_wp2
      go_ret
      exact ⟨rfl, hw⟩

theorem keptInts_any (g : Nat) (A : Option Addr) (n cap c B : Nat) (l : List (Int)) (w : World) (hL : Lent w B 3 1 g n cap (cellsL encInts (l ++ marksInts 16))) (ha : Sl w A n 1 (cellsL encInts l)) (hn : n ≤ 4294967296) :
    Calls Tryd.prog 18 #[.slice (some ⟨g, 0, none⟩) n cap, .slice A n c] w fun e w' => e = .returned (.bool true) ∧ New w w' := by
  obtain ⟨hc1, hc2⟩ := hL.cap
  have hd : ((n : Int) != (n : Int)) = false := by simp
  have HF := Lib.hid hL.full
  clear hL
  go_enter Tryd.func18, Tryd.ntmps18
  go_wp2_with fail
  refine (keptFullInts_any _ A n cap c l _ HF.out ha hn).mono ?_
  rintro e w1 ⟨rfl, hw1⟩
  go_wp2
  go_ret
  exact ⟨rfl, hw1⟩
end Go.Proofs.YtkkaejbdekdljaaDoor
/- Words: append of one's own row: it stays in its block, or moves and leaves all that was there as it was. Rows that are written; shorter slices of a row. -/
set_option linter.unusedVariables false
set_option linter.unusedSimpArgs false
namespace Go.Proofs.YtkkaejbdekdljaaDoor
open Go.RowKit

/-- A row of n elements has become one of k: in its block, or in a new one, and then nothing old has changed. -/
def Moved (w w' : World) (v : Value) (n : Nat) (v' : Value) (k : Nat) : Prop :=
  (∃ g cap, v = .slice (some ⟨g, 0, none⟩) n cap ∧ v' = .slice (some ⟨g, 0, none⟩) k cap ∧ w.grownBy w' (some g)) ∨ (v'.ownBlock = some w.heap.size ∧ New w w')
theorem Moved.grown {w w' : World} {v v' : Value} {n k : Nat} (h : Moved w w' v n v' k) : w.grownBy w' v.ownBlock := by
  rcases h with ⟨g, cap, rfl, _, h⟩ | ⟨_, h⟩
  · exact h
  · exact ⟨h.os, h.tape, h.output, h.size, fun i hi _ => h.block i hi (fun x => x)⟩
theorem Moved.block {w w' : World} {v v' : Value} {n k : Nat} (h : Moved w w' v n v' k) : v'.ownBlock = v.ownBlock ∨ v'.ownBlock = some w.heap.size := by
  rcases h with ⟨g, cap, rfl, rfl, h⟩ | ⟨h, _⟩
  · exact .inl rfl
  · exact .inr h
section
variable {P : Program} {w : World} {t e : TypeId} {size bytes : Nat}
theorem run_append_moves (H : SlT P t e size bytes) (ty : TypeId) (base : Nat) (v : Value) (n : Nat) (xs : List Value) (hown : w.ownsRow base e size v n xs)
    (a : Addr) (m c : Nat) (news : List Value) (hm : 0 < m) (hl : news.length = m * size) (hnews : ∀ j u, news[j]? = some u → w.cell? (a.add j) = some u) (h1 : ∀ u ∈ news, u.oneCell' = true)
    (hbytes : (n + m) * bytes ≤ 140737488355328) (hbase : base ≤ w.heap.size) :
    ∃ v' w', (Builtin.append_ #[t, t] ty #[v, .slice (some a) m c]).run P w = .ok v' w' ∧ w'.ownsRow base e size v' (n + m) (xs ++ news) ∧
      Moved w w' v n v' (n + m) := by
  obtain ⟨z, hi, hz⟩ := H.info
  obtain ⟨i, hi0, hi1, hi2, hi3⟩ := info_parts hi
  have hml : n + m ≤ maxLen := by
    have : (n + m) * 1 ≤ (n + m) * bytes := Nat.mul_le_mul_left _ H.posb
    unfold maxLen; omega
  have hsm : n + m ≤ 9223372036854775807 := by unfold maxLen at hml; omega
  obtain ⟨v', w', hr, h2, h3, h4, h5⟩ := run_append_own_at (P := P) w base t ty e i z size bytes H.und hi0 hi1 hi2 hi3 hz H.pos v n xs hown a m c news hl hnews h1 hml hbytes hbase
  refine ⟨v', w', hr, h2, ?_⟩
  subst hi2 hi3
  rcases hown.2 with ⟨rfl, rfl⟩ | ⟨g, cap, cur, rfl, hbg, hg, hnc, hcm, hcs, htake⟩
  · have hx := run_append_nil (P := P) w t ty e i z H.und hi0 hi1 a m c news hl hnews hm (by omega) (by simp only [Nat.zero_add] at hbytes; omega)
    rw [hx] at hr
    injection hr with hr1 hr2
    subst hr1 hr2
    exact .inr ⟨rfl, (Mod.refl _ w).drew.alloc _⟩
  · by_cases hroom : n + m ≤ cap
    · have hfit : n * i.size + news.length ≤ cur.size := by rw [hl, hcs, ← Nat.add_mul]; exact Nat.mul_le_mul_right _ hroom
      have hx := run_append_room (P := P) w t ty e i H.und hi0 g n cap cur hg a m c news hl hnews h1 hroom hfit
      rw [hx] at hr
      injection hr with hr1 hr2
      subst hr1
      exact .inl ⟨g, cap, rfl, rfl, h3⟩
    · have hx := run_append_grow (P := P) w t ty e i z H.und hi0 hi1 ⟨g, 0, none⟩ n cap xs hown.1 (hown.cells (g := g) rfl) a m c news hl hnews (by omega) (by omega) (growslice_fits (by omega) hbytes)
      rw [hx] at hr
      injection hr with hr1 hr2
      subst hr1 hr2
      exact .inr ⟨rfl, (Mod.refl _ w).drew.alloc _⟩

theorem wpList_appm {ops : Array Oper} {rest : List Oper} {o : Oper} {a : Act} {Q : Exit → Act → World → Prop} (H : SlT P t e size bytes) (hgd : o.guard = none) (s x : Operand)
    (ho : o.op = .call { callee := .builtin .append, args := #[s, x], argTypes := #[t, t] })
    (base : Nat) (v : Value) (n : Nat) (xs : List Value) (hs : a.eval s = v) (hown : w.ownsRow base e size v n xs)
    (ad : Addr) (m c : Nat) (news : List Value) (hm : 0 < m) (hx : a.eval x = .slice (some ad) m c) (hl : news.length = m * size) (hnews : ∀ j u, news[j]? = some u → w.cell? (ad.add j) = some u) (h1 : ∀ u ∈ news, u.oneCell' = true)
    (hbytes : (n + m) * bytes ≤ 140737488355328) (hbase : base ≤ w.heap.size)
    (h : ∀ v' w', w'.ownsRow base e size v' (n + m) (xs ++ news) → Moved w w' v n v' (n + m) → wpList P ops Q rest (a.put o.dst v') w') : wpList P ops Q (o :: rest) a w := by
  refine wpList_plain hgd fun K hK => ?_
  obtain ⟨v', w', hr, h2, h3⟩ := run_append_moves H o.type base v n xs hown ad m c news hm hl hnews h1 hbytes hbase
  unfold Oper.wp execOp
  simp only [ho, resolve, invoke, builtin, Sem.run_bind, Sem.run_pure, Result.andThen_ok, List.map_toArray, List.map_cons, List.map_nil, hs, hx, hr]
  exact hK _ _ (h v' w' h2 h3)
end

section
variable {w w' : World} {B sz : Nat} {e : TypeId} {vs : List Value} {ls : List (Nat × List Value)}
/-- A shorter slice of a row. -/
theorem own_take {g n m cap : Nat} {xs : List Value} (h : w.ownsRow B e sz (.slice (some ⟨g, 0, none⟩) n cap) n xs) (hm : m ≤ n) : w.ownsRow B e sz (.slice (some ⟨g, 0, none⟩) m cap) m (xs.take (m * sz)) := by
  have hl := h.1
  have hmul : m * sz ≤ n * sz := Nat.mul_le_mul_right _ hm
  refine ⟨by rw [List.length_take]; omega, ?_⟩
  rcases h.2 with ⟨h1, _⟩ | ⟨g', cap', cur, h1, hg, hh, h2, h3, h4, h5⟩
  · cases h1
  · injection h1 with h1 h6 h7
    injection h1 with h1
    injection h1 with h1
    subst h1 h7
    refine .inr ⟨g, cap, cur, rfl, hg, hh, by omega, h3, h4, ?_⟩
    rw [← h5, List.take_take, Nat.min_eq_left hmul]
/-- Two slices of one block have one capacity. -/
theorem own_cap {g n m cap cap' : Nat} {xs ys : List Value} (hsz : 0 < sz) (h : w.ownsRow B e sz (.slice (some ⟨g, 0, none⟩) n cap) n xs) (h' : w.ownsRow B e sz (.slice (some ⟨g, 0, none⟩) m cap') m ys) : cap = cap' := by
  rcases h.2 with ⟨h1, _⟩ | ⟨g1, cap1, cur1, h1, _, hh1, _, _, h4, _⟩
  · cases h1
  · rcases h'.2 with ⟨k1, _⟩ | ⟨g2, cap2, cur2, k1, _, hh2, _, _, k4, _⟩
    · cases k1
    · injection h1 with a1 a2 a3
      injection k1 with b1 b2 b3
      injection a1 with a1
      injection a1 with a1
      injection b1 with b1
      injection b1 with b1
      subst a1 a3 b1 b3
      rw [hh1] at hh2
      injection hh2 with hh2
      injection hh2 with hh2
      subst hh2
      rw [h4] at k4
      exact Nat.eq_of_mul_eq_mul_right hsz k4
/-- A cell of a row has been written. -/
theorem RowsOf.store (h : RowsOf w B e sz vs ls) {i g n cap : Nat} {xs : List Value} (hv : vs[i]? = some (.slice (some ⟨g, 0, none⟩) n cap)) (hx : ls[i]? = some (n, xs)) (j : Nat) (u : Value) :
    RowsOf (w.setCell ⟨g, j, none⟩ u) B e sz vs (ls.set i (n, xs.set j u)) := by
  have hown := (h.own i _ _ hv hx).stored j u
  have hi : i < vs.length := (List.getElem?_eq_some_iff.1 hv).1
  have := h.upd (x := (n, xs.set j u)) hv (w' := w.setCell ⟨g, j, none⟩ u) (v' := .slice (some ⟨g, 0, none⟩) n cap) hown.2 hown.1 (.inl rfl)
  rwa [show vs.set i (.slice (some ⟨g, 0, none⟩) n cap) = vs from by
    refine List.ext_getElem? fun k => ?_
    rw [List.getElem?_set]
    split
    · rename_i hk; subst hk; rw [hv]
    · rfl] at this
end

/-- The blocks of some slices. -/
def OwnS (vs : List Value) (b : Nat) : Prop := ∃ (i : Nat) (v : Value), vs[i]? = some v ∧ v.ownBlock = some b
theorem RowsOf.owns {w : World} {B sz : Nat} {e : TypeId} {vs : List Value} {ls : List (Nat × List Value)} (h : RowsOf w B e sz vs ls) {b : Nat} (hb : OwnS vs b) : B ≤ b ∧ b < w.heap.size ∧ ∃ cs, w.heap[b]? = some (.cells cs e (0, 0)) := by
  obtain ⟨i, v, hv, hb⟩ := hb
  have hi : i < ls.length := by rw [← h.len]; exact (List.getElem?_eq_some_iff.1 hv).1
  have h0 := h.own i v _ hv (List.getElem?_eq_getElem hi)
  rcases h0.2 with ⟨h1, _⟩ | ⟨g, cap, cur, h1, hg, hh, _⟩
  · rw [h1] at hb; simp [Value.ownBlock] at hb
  · rw [h1] at hb
    simp [Value.ownBlock] at hb
    subst hb
    exact ⟨hg, (Array.getElem?_eq_some_iff.1 hh).1, _, hh⟩
/-- A block of another type is none of theirs. -/
theorem RowsOf.not_owns {w : World} {B sz g : Nat} {e t : TypeId} {vs : List Value} {ls : List (Nat × List Value)} {cs : List Value} (h : RowsOf w B e sz vs ls) (hg : Blk w g t cs) (hne : t ≠ e) : ¬ OwnS vs g := fun hb => by
  obtain ⟨_, _, ds, hd⟩ := h.owns hb
  unfold Blk at hg
  rw [hg] at hd
  injection hd with hd
  injection hd with _ hd
  exact hne hd

/-- Slices vs, and slices us that grew out of them: each reads as the first of its marks. -/
structure TwoRows (w : World) (B : Nat) (e : TypeId) (sz : Nat) (mk : Nat → Nat → List Value) (vs : List Value) (ns : List Nat) (us : List Value) (ms : List Nat) : Prop where
  lenv : vs.length = ns.length
  lenu : us.length = ms.length
  ownv : ∀ (j : Nat) (v : Value) (n : Nat), vs[j]? = some v → ns[j]? = some n → w.ownsRow B e sz v n (mk j n)
  ownu : ∀ (j : Nat) (u : Value) (m : Nat), us[j]? = some u → ms[j]? = some m → w.ownsRow B e sz u m (mk j m)
  ne : ∀ (i j : Nat) (x y : Value) (b : Nat), i ≠ j → (vs[i]? = some x ∨ us[i]? = some x) → (vs[j]? = some y ∨ us[j]? = some y) → x.ownBlock = some b → y.ownBlock ≠ some b

section
variable {w w' : World} {B sz : Nat} {e : TypeId} {mk : Nat → Nat → List Value} {vs us : List Value} {ns ms : List Nat}
theorem TwoRows.start {ls : List (Nat × List Value)} (h : RowsOf w B e sz vs ls) (hn : ns = ls.map (·.1)) (hm : ∀ (i : Nat) (x : Nat × List Value), ls[i]? = some x → x.2 = mk i x.1) : TwoRows w B e sz mk vs ns [] [] := by
  subst hn
  refine ⟨by simp [h.len], rfl, fun j v n hv hn => ?_, fun j u m hu => by simp at hu, fun i j x y b hij hx hy hb => ?_⟩
  · rw [List.getElem?_map] at hn
    obtain ⟨x, hx, rfl⟩ := Option.map_eq_some_iff.1 hn
    have := h.own j v x hv hx
    rwa [hm j x hx] at this
  · have hx' : vs[i]? = some x := by simpa using hx
    have hy' : vs[j]? = some y := by simpa using hy
    exact h.ne i j x y b hij hx' hy' hb
theorem TwoRows.new_ (h : TwoRows w B e sz mk vs ns us ms) (hm : New w w') : TwoRows w' B e sz mk vs ns us ms :=
  ⟨h.lenv, h.lenu, fun j v n hv hn => own_new (h.ownv j v n hv hn) hm, fun j u m hu hn => own_new (h.ownu j u m hu hn) hm, h.ne⟩
theorem TwoRows.grown (h : TwoRows w B e sz mk vs ns us ms) {row : Option Nat} (hg : w.grownBy w' row) (hne : ∀ (j : Nat) (x : Value), (vs[j]? = some x ∨ us[j]? = some x) → x.ownBlock = none ∨ x.ownBlock ≠ row) : TwoRows w' B e sz mk vs ns us ms :=
  ⟨h.lenv, h.lenu, fun j v n hv hn => (h.ownv j v n hv hn).kept hg (hne j v (.inl hv)), fun j u m hu hn => (h.ownu j u m hu hn).kept hg (hne j u (.inr hu)), h.ne⟩
theorem TwoRows.lt (h : TwoRows w B e sz mk vs ns us ms) {j : Nat} {x : Value} {b : Nat} (hx : vs[j]? = some x ∨ us[j]? = some x) (hb : x.ownBlock = some b) : B ≤ b ∧ b < w.heap.size := by
  rcases hx with hx | hx
  · have hj : j < ns.length := by rw [← h.lenv]; exact (List.getElem?_eq_some_iff.1 hx).1
    exact (h.ownv j x _ hx (List.getElem?_eq_getElem hj)).lt b hb
  · have hj : j < ms.length := by rw [← h.lenu]; exact (List.getElem?_eq_some_iff.1 hx).1
    exact (h.ownu j x _ hx (List.getElem?_eq_getElem hj)).lt b hb
/-- One more row begins to grow. -/
theorem TwoRows.push (h : TwoRows w B e sz mk vs ns us ms) {v : Value} {n : Nat} (hv : vs[us.length]? = some v) (hn : ns[us.length]? = some n) : TwoRows w B e sz mk vs ns (us ++ [v]) (ms ++ [n]) := by
  have hlu := h.lenu
  have key : ∀ (i : Nat) (x : Value), (vs[i]? = some x ∨ (us ++ [v])[i]? = some x) → (vs[i]? = some x ∨ us[i]? = some x) := fun i x hx => by
    rcases hx with hx | hx
    · exact .inl hx
    · by_cases hi : i < us.length
      · rw [List.getElem?_append_left hi] at hx; exact .inr hx
      · have hi2 : i = us.length := by
          have := (List.getElem?_eq_some_iff.1 hx).1
          simp at this; omega
        subst hi2
        rw [List.getElem?_append_right (Nat.le_refl _)] at hx
        simp at hx
        subst hx
        exact .inl hv
  refine ⟨h.lenv, by simp [hlu], h.ownv, fun j u m hu hm => ?_, fun i j x y b hij hx hy hb => h.ne i j x y b hij (key i x hx) (key j y hy) hb⟩
  by_cases hj : j < us.length
  · rw [List.getElem?_append_left hj] at hu
    rw [List.getElem?_append_left (by omega)] at hm
    exact h.ownu j u m hu hm
  · have hj2 : j = us.length := by
      have := (List.getElem?_eq_some_iff.1 hu).1
      simp at this; omega
    subst hj2
    rw [List.getElem?_append_right (Nat.le_refl _)] at hu
    rw [List.getElem?_append_right (by omega), hlu] at hm
    simp at hu hm
    subst hu hm
    exact h.ownv _ v n hv hn
/-- The last row has grown by one element. -/
theorem TwoRows.step {u v t' : Value} {m n : Nat} {news : List Value} (h : TwoRows w B e sz mk vs ns (us ++ [u]) (ms ++ [m])) (hsz : 0 < sz) (hv : vs[us.length]? = some v) (hn : ns[us.length]? = some n) (hnm : n ≤ m)
    (hmk : ∀ a b, a ≤ b → (mk us.length b).take (a * sz) = mk us.length a) (hmk1 : mk us.length m ++ news = mk us.length (m + 1)) (hown : w'.ownsRow B e sz t' (m + 1) (mk us.length m ++ news))
    (hat : Moved w w' u m t' (m + 1)) : TwoRows w' B e sz mk vs ns (us ++ [t']) (ms ++ [m + 1]) := by
  have hlu : us.length = ms.length := by have := h.lenu; simpa using this
  have hulast : (us ++ [u])[us.length]? = some u := by simp
  have hu0 := h.ownu us.length u m hulast (by rw [hlu]; simp)
  have hother : ∀ (i : Nat) (x : Value), i ≠ us.length → (vs[i]? = some x ∨ (us ++ [t'])[i]? = some x) → (vs[i]? = some x ∨ (us ++ [u])[i]? = some x) := fun i x hi hx => by
    rcases hx with hx | hx
    · exact .inl hx
    · have hl : i < us.length := by
        have := (List.getElem?_eq_some_iff.1 hx).1
        simp at this; omega
      rw [List.getElem?_append_left hl] at hx
      exact .inr (by rw [List.getElem?_append_left hl]; exact hx)
  have hgr := hat.grown
  have hkeep : ∀ (i : Nat) (x : Value), i ≠ us.length → (vs[i]? = some x ∨ (us ++ [u])[i]? = some x) → x.ownBlock = none ∨ x.ownBlock ≠ u.ownBlock := fun i x hi hx => by
    cases hb : x.ownBlock with
    | none => exact .inl rfl
    | some b => exact .inr fun he => h.ne i us.length x u b hi hx (.inr hulast) hb he.symm
  -- the block of what stands at the last place
  have hlast : ∀ (x : Value) (b : Nat), (vs[us.length]? = some x ∨ (us ++ [t'])[us.length]? = some x) → x.ownBlock = some b → (vs[us.length]? = some x ∨ (us ++ [u])[us.length]? = some x) ∨ b = u.ownBlock ∨ b = w.heap.size := fun x b hx hb => by
    rcases hx with hx | hx
    · exact .inl (.inl hx)
    · simp at hx
      subst hx
      rcases hat.block with hb2 | hb2
      · rw [hb2] at hb; exact .inr (.inl hb.symm)
      · rw [hb2] at hb; injection hb with hb; exact .inr (.inr hb.symm)
  refine ⟨h.lenv, by simp [hlu], fun j x k hx hk => ?_, fun j x k hx hk => ?_, fun i j x y b hij hx hy hb => ?_⟩
  · have h0 := h.ownv j x k hx hk
    by_cases hj : j = us.length
    · subst hj
      rw [hv] at hx
      rw [hn] at hk
      injection hx with hx
      injection hk with hk
      subst hx hk
      rcases hat with ⟨g, cap, rfl, rfl, hg⟩ | ⟨_, hnew⟩
      · by_cases hb : v.ownBlock = some g
        · rcases h0.2 with ⟨h1, _⟩ | ⟨g', cap', cur, h1, _⟩
          · rw [h1] at hb; simp [Value.ownBlock] at hb
          · subst h1
            simp [Value.ownBlock] at hb
            subst hb
            obtain rfl := own_cap hsz h0 hu0
            have := own_take hown (m := n) (by omega)
            rwa [hmk1, hmk n (m + 1) (by omega)] at this
        · exact h0.kept hg (.inr hb)
      · exact own_new h0 hnew
    · exact h0.kept hgr (hkeep j x hj (.inl hx))
  · by_cases hj : j = us.length
    · subst hj
      simp at hx
      rw [hlu] at hk
      simp at hk
      subst hx hk
      rw [← hmk1]; exact hown
    · have hl : j < us.length := by
        have := (List.getElem?_eq_some_iff.1 hx).1
        simp at this; omega
      rw [List.getElem?_append_left hl] at hx
      rw [List.getElem?_append_left (by omega)] at hk
      have hx2 : (us ++ [u])[j]? = some x := by rw [List.getElem?_append_left hl]; exact hx
      exact (h.ownu j x k hx2 (by rw [List.getElem?_append_left (by omega)]; exact hk)).kept hgr (hkeep j x hj (.inr hx2))
  · by_cases hi : i = us.length
    · subst hi
      have hy2 := hother j y (fun e => hij e.symm) hy
      rcases hlast x b hx hb with hx2 | hx2 | hx2
      · exact h.ne _ j x y b hij hx2 hy2 hb
      · exact h.ne us.length j u y b hij (.inr hulast) hy2 hx2.symm
      · intro hyb
        have := (h.lt hy2 hyb).2
        omega
    · have hx2 := hother i x hi hx
      by_cases hj : j = us.length
      · subst hj
        intro hyb
        rcases hlast y b hy hyb with hy2 | hy2 | hy2
        · exact h.ne i _ x y b hij hx2 hy2 hb hyb
        · exact h.ne i us.length x u b hij hx2 (.inr hulast) hb hy2.symm
        · have := (h.lt hx2 hb).2
          omega
      · exact h.ne i j x y b hij hx2 (hother j y hj hy) hb
end
end Go.Proofs.YtkkaejbdekdljaaDoor
