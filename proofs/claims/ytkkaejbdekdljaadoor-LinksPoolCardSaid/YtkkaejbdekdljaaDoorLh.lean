/- Walks: works. -/
import Derived.Test.YtkkaejbdekdljaaDoorLg
import Derived.Test.YtkkaejbdekdljaaDoorT1
set_option linter.unusedVariables false
set_option linter.unusedSimpArgs false
namespace Go.Proofs.YtkkaejbdekdljaaDoor
open Go.RowKit

theorem Sl.of_blk {w : World} {g : Nat} {t : TypeId} {xs rest : List Value} {n sz : Nat} (h : Blk w g t (xs ++ rest)) (hl : xs.length = n * sz) (hn : n ≤ 9223372036854775807) : Sl w (some ⟨g, 0, none⟩) n sz xs :=
  ⟨hl, hn, fun _ => ⟨g, 0, rfl, fun j u hu => by
    rw [h.cell, Nat.zero_add, List.getElem?_append_left (List.getElem?_eq_some_iff.1 hu).1]; exact hu⟩⟩
theorem Sl.lit (w : World) (t : TypeId) (xs : List Value) (n sz : Nat) (hl : xs.length = n * sz) (hn : n ≤ 9223372036854775807) : Sl (w.alloc (.cells xs.toArray t)) (some ⟨w.heap.size, 0, none⟩) n sz xs :=
  Sl.of_blk (rest := []) (by simpa using Blk.new w t xs) hl hn
theorem nats_nums (l : List Nat) : nats l = nums (l.map fun x : Nat => (x : Int)) := by simp [nats, nums]
theorem grp3 {r : List Nat} (h : GrpOut 3 [(2, 1)] r) : r = [0, 1, 1] := by
  have e : grpErr 3 [(2, 1)] = (0, 0) := by decide
  have h' : GrpOut 3 [(2, 1)] [0, 1, 1] := by
    unfold GrpOut
    rw [if_pos (by rw [e])]
    refine ⟨rfl, fun i hi => ?_, fun p hp => ?_, fun c hc i hi => ?_⟩
    · have : i = 0 ∨ i = 1 ∨ i = 2 := by simp at hi; omega
      rcases this with rfl | rfl | rfl <;> decide
    · simp at hp; subst hp; decide
    · have h1 := hc (2, 1) (by simp)
      have : i = 0 ∨ i = 1 ∨ i = 2 := by simp at hi; omega
      rcases this with rfl | rfl | rfl
      · rfl
      · rfl
      · simpa [at_] using h1.symm
  exact h.unique h'

set_option maxRecDepth 100000 in
set_option maxHeartbeats 1000000 in
theorem works_any (w : World) : Calls Tryd.prog 7 #[] w fun e w' => e = .returned (.bool true) ∧ New w w' := by
  go_enter Tryd.func7, Tryd.ntmps7
  go_wp2_with fail
  have s1 := Sl.lit w 67 (twos [(2, 1)]) 1 2 rfl (by omega)
  refine (linksGroups_any 3 _ 1 1 [(2, 1)] _ s1).mono ?_
  rintro e w1 ⟨v, ev, r, rfl, he, hv, hr, hw1⟩
  obtain rfl := grp3 hr
  have he2 : ev = .nilIface := by
    rcases he with ⟨_, h⟩ | ⟨h1, _⟩
    · exact h
    · have e : grpErr 3 [(2, 1)] = (0, 0) := by decide
      rw [e] at h1; simp at h1
  subst he2
  obtain ⟨A, c, rfl⟩ := own_shape hv
  have sv : Sl w1 A 3 1 (nums [0, 1, 1]) := own_sl hv
  have n1 : New w w1 := New.trans ((Mod.refl _ _).alloc _) hw1
  clear he hv hr s1 hw1
  go_wp2_with fail
  have s2 := Sl.lit w1 67 (twos [(1, 0)]) 1 2 rfl (by omega)
  have s3 := Sl.lit (w1.alloc (.cells (twos [(1, 0)]).toArray 67)) 3 (nums [5, 1]) 2 1 rfl (by omega)
  have e3 : (w1.alloc (.cells (twos [(1, 0)]).toArray 67)).heap.size = w1.heap.size + 1 := by simp
  rw [e3] at s3
  refine (linksOrder_any 2 _ _ 1 1 2 2 [(1, 0)] [5, 1] _ (s2.new_ ((Mod.refl _ _).alloc _)) s3 (by omega)).mono ?_
  rintro e w2 ⟨v2, ev2, rfl, he2, hv2, hw2⟩
  have ee : ordErr 2 [(1, 0)] 2 [5, 1] = (0, 0) := by decide
  have eo : ordOut 2 [(1, 0)] 2 [5, 1] = [1, 0] := by decide
  rw [eo] at hv2
  rw [ee] at he2
  have he3 : ev2 = .nilIface := by
    rcases he2 with ⟨_, h⟩ | ⟨h1, _⟩
    · exact h
    · simp at h1
  subst he3
  obtain ⟨A2, c2, rfl⟩ := own_shape hv2
  have sv2 : Sl w2 A2 2 1 (nums [1, 0]) := own_sl hv2
  have n2 : New w1 w2 := New.trans (((Mod.refl _ _).alloc _).alloc _) hw2
  have sv3 := sv.new_ n2
  clear he2 hv2 hw2 ee eo s2 s3 e3 sv
  go_wp2_with fail
  refine (sameInts_any A _ 3 3 c 3 [0, 1, 1] [0, 1, 1] _ (sv3.new_ ((Mod.refl _ _).alloc _)) (Sl.lit w2 3 (nums [0, 1, 1]) 3 1 rfl (by omega))).mono ?_
  rintro e w3 ⟨rfl, hw3⟩
  have n3 : New w2 w3 := New.trans ((Mod.refl _ _).alloc _) hw3
  go_wp2_with fail
  refine (sameInts_any A2 _ 2 2 c2 2 [1, 0] [1, 0] _ ((sv2.new_ n3).new_ ((Mod.refl _ _).alloc _)) (Sl.lit w3 3 (nums [1, 0]) 2 1 rfl (by omega))).mono ?_
  rintro e w4 ⟨rfl, hw4⟩
  go_wp2
  go_ret
  exact ⟨by simp, New.trans (New.trans (New.trans n1 n2) n3) (New.trans ((Mod.refl _ _).alloc _) hw4)⟩
end Go.Proofs.YtkkaejbdekdljaaDoor
