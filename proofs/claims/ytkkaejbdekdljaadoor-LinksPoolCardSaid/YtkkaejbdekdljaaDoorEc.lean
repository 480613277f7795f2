/- Walks: Place, Plain, At of the statements' kit. -/
import Derived.Test.YtkkaejbdekdljaaDoorEb
import Derived.Deep.QuietTactic
import Derived.BigQuiet
import Derived.Deep.RegionHeld3
set_option linter.unusedVariables false
set_option linter.unusedSimpArgs false
namespace Go.Proofs.YtkkaejbdekdljaaDoor
open Go.RowKit

set_option maxHeartbeats 1000000 in
set_option maxRecDepth 1000000 in
theorem plain_any {v : Value} {a : Int} (h : Er v a none) (h1 : 1 ≤ a) (h24 : a ≤ 24) (w : World) (hg : ErrVar w) :
    Calls Tryd.prog 22 #[v, .int .i64 a] w fun e w' => e = .returned (.bool true) ∧ New w w' := by
  have hlt := hg.lt
  have hd : (a == a) = true := by simp
  obtain ⟨t, x, rfl⟩ := h.iface
  go_enter Tryd.func22, Tryd.ntmps22
  go_wp2_with fail
  refine (num_any h h1 h24 _).mono ?_
  rintro e w1 ⟨rfl, hw1⟩
  have hb := (Blk.new w 88 [.int .i64 0, .int .i64 0, .int .i64 0]).new_ hw1
  have hg1 : ErrVar w1 := (hg.new_ ((Mod.refl _ _).alloc _)).new_ hw1
  have HW := Lib.hid hw1
  go_wp2_with fail
  refine (as_any h 0 0 0 w.heap.size _ hg1 hb).mono ?_
  rintro e w2 ⟨rfl, hb2, hw2⟩
  go_wp2
  go_ret
  exact ⟨rfl, Mod.trans (New.trans ((Mod.refl _ _).alloc _) hw1) hw2 (fun i hi hs => by omega)⟩
set_option maxRecDepth 1000000 in
theorem plain_nil (w : World) :
    Calls Tryd.prog 22 #[.nilIface, .int .i64 0] w fun e w' => e = .returned (.bool true) ∧ New w w' := by
  go_enter Tryd.func22, Tryd.ntmps22
  go_wp2_with fail
  refine (num_nil _).mono ?_
  rintro e w1 ⟨rfl, hw1⟩
  go_wp2
  go_ret
  exact ⟨rfl, New.trans ((Mod.refl _ _).alloc _) hw1⟩

theorem three_step {w0 w w' : World} {p q r : Addr} {x y z : Value} (h : (w.cell? p = some x ∧ w.cell? q = some y ∧ w.cell? r = some z) ∧ New w0 w) (hm : New w w') :
    (w'.cell? p = some x ∧ w'.cell? q = some y ∧ w'.cell? r = some z) ∧ New w0 w' :=
  ⟨⟨hm.cell h.1.1 (fun h => h), hm.cell h.1.2.1 (fun h => h), hm.cell h.1.2.2 (fun h => h)⟩, New.trans h.2 hm⟩
set_option maxHeartbeats 1000000 in
set_option maxRecDepth 1000000 in
theorem place_any {v : Value} {a l c : Int} (h : Er v a (some (l, c))) (h1 : 1 ≤ a) (h24 : a ≤ 24) (w : World) (hg : ErrVar w) :
    Calls Tryd.prog 65 #[v] w fun e w' => e = .returned (.tuple #[.int .i64 l, .int .i64 c, .bool true]) ∧ New w w' := by
  have hlt := hg.lt
  have hd : (a == a) = true := by simp
  have hb := Blk.new w 88 [.int .i64 0, .int .i64 0, .int .i64 0]
  have hg1 : ErrVar (w.alloc (.cells #[.int .i64 0, .int .i64 0, .int .i64 0] 88)) := hg.new_ ((Mod.refl _ _).alloc _)
  obtain ⟨t, x, rfl⟩ := h.iface
  go_enter Tryd.func65, Tryd.ntmps65
  go_wp2_with fail
  refine (as_any h 0 0 0 w.heap.size _ hg1 hb).mono ?_
  rintro e w2 ⟨rfl, hb2, hw2⟩
  have c0 := hb2.cell 0
  have c1 := hb2.cell 1
  have c2 := hb2.cell 2
  simp only [AsCells, List.getElem?_cons_zero, List.getElem?_cons_succ] at c0 c1 c2
  clear hb2
  have HW2 := Lib.hid hw2
  clear hw2 hg1 hb
  go_wp2
  go_region_held3 (fun w' => (w'.cell? ⟨w.heap.size, 0, none⟩ = some (.int .i64 a) ∧ w'.cell? ⟨w.heap.size, 1, none⟩ = some (.int .i64 l) ∧ w'.cell? ⟨w.heap.size, 2, none⟩ = some (.int .i64 c)) ∧ New w2 w') ((first | exact ⟨⟨‹_›, ‹_›, ‹_›⟩, (Mod.refl _ _).drew⟩ | (refine three_step ?_ hw3; assumption))) ((go_at_call 50; refine (num_any h h1 h24 _).mono ?_; rintro e w3 ⟨rfl, hw3⟩))
  go_wp2
  go_ret3
  obtain ⟨_, hn⟩ := ‹_ ∧ New w2 _›
  exact ⟨rfl, New.trans (Mod.trans ((Mod.refl (fun _ => False) w).alloc _) HW2.out (fun i hi hs => by omega)) hn⟩

set_option maxHeartbeats 1000000 in
theorem at_any {v : Value} {a l c : Int} (h : Er v a (some (l, c))) (h1 : 1 ≤ a) (h24 : a ≤ 24) (w : World) (hg : ErrVar w) :
    Calls Tryd.prog 42 #[v, .int .i64 a, .int .i64 l, .int .i64 c] w fun e w' => e = .returned (.bool true) ∧ New w w' := by
  have hd : (a == 0) = false := by simp; omega
  have hd1 : (a == a) = true := by simp
  have hd2 : (l == l) = true := by simp
  have hd3 : (c == c) = true := by simp
  obtain ⟨t, x, rfl⟩ := h.iface
  go_enter Tryd.func42, Tryd.ntmps42
  go_wp2_with fail
  refine (place_any h h1 h24 _ hg).mono ?_
  rintro e w1 ⟨rfl, hw1⟩
  go_wp2_with fail
  refine (num_any h h1 h24 _).mono ?_
  rintro e w2 ⟨rfl, hw2⟩
  go_wp2
  go_ret
  exact ⟨rfl, New.trans hw1 hw2⟩
theorem at_nil (l c : Int) (w : World) :
    Calls Tryd.prog 42 #[.nilIface, .int .i64 0, .int .i64 l, .int .i64 c] w fun e w' => e = .returned (.bool true) ∧ New w w' := by
  go_enter Tryd.func42, Tryd.ntmps42
  go_wp2
  go_ret
  exact ⟨rfl, Mod.refl _ _⟩
end Go.Proofs.YtkkaejbdekdljaaDoor
