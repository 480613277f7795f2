/- Walks: number: a store of the texts' lengths answers as the store of texts. (Printed by gen_number.py.) -/
import Derived.Test.YtfifalopbfopnaaGreatDoorZa
import Derived.Test.YtfifalopbfopnaaGreatDoorUk
import Derived.Deep.RegionHeld3
set_option linter.unusedVariables false
set_option linter.unusedSimpArgs false
namespace Go.Proofs.YtfifalopbfopnaaGreatDoor
open Go.RowKit

theorem I.Step.blk {w w' : World} {L : I.Lay} {N : Nat} {st : I.StS} {g : Nat} {t : TypeId} {cs : List Value} (h : I.Step w L N st w') (hb : Blk w g t cs) (hf : ¬ I.Foot L g) : Blk w' g t cs := by
  obtain ⟨L', _, _, _, hm, _⟩ := h
  exact hb.kept hm hf
def NumPost (w : World) (L : I.Lay) (N : Nat) (st : StS) (c : CallV) (e : Ending) (w' : World) : Prop :=
  e = .returned (.bool true) ∧ I.Step w L (N + 1) (numSt (after st c)) w'

set_option maxRecDepth 100000 in
set_option maxHeartbeats 2000000 in
theorem number4 (L : I.Lay) (N m : Nat) (st : StS) (c : CallV) (w : World) (h : I.StoreAt w L N (numSt st)) (hc : CallOk c) (hN : N + 1 ≤ 1048576) (hk : c.kind = 4) :
    Calls Tryz.prog 23 #[.pointer (some ⟨L.s, 0, none⟩), .agg (encCall c).toArray, saidVal (answer m st c)] w (NumPost w L N st c) := by
  obtain ⟨on, kind, ⟨k1, k2⟩, n, v⟩ := c
  obtain rfl : kind = 4 := hk
  obtain ⟨⟨av, an, aok⟩, hans⟩ : ∃ a, answer m st ⟨on, 4, (k1, k2), n, v⟩ = a := ⟨_, rfl⟩
  rw [hans]
  show Calls Tryz.prog 23 #[.pointer (some ⟨L.s, 0, none⟩), .agg #[.int .i64 on, .int .i64 4, .int .i64 k1, .int .i64 k2, .int .i64 n, .string v], .agg #[.string av, .int .i64 an, .bool aok]] w (NumPost w L N st ⟨on, 4, (k1, k2), n, v⟩)
  have hsz := fun b (hb : I.Foot L b) => h.foot_lt hb
  have n1 := Blk.new w 35 [.int .i64 on, .int .i64 4, .int .i64 k1, .int .i64 k2, .int .i64 n, .string v]
  have n2 := Blk.new (w.alloc (.cells #[.int .i64 on, .int .i64 4, .int .i64 k1, .int .i64 k2, .int .i64 n, .string v] 35)) 37 [.string av, .int .i64 an, .bool aok]
  simp only [World.size_alloc] at n2
  obtain ⟨wo, hwo⟩ : ∃ wo, (w.alloc (.cells #[.int .i64 on, .int .i64 4, .int .i64 k1, .int .i64 k2, .int .i64 n, .string v] 35)).alloc (.cells #[.string av, .int .i64 an, .bool aok] 37) = wo := ⟨_, rfl⟩
  have hnew : New w wo := by rw [← hwo]; exact ((Mod.refl _ w).alloc _).alloc _
  have hst0 := h.new_ hnew
  have hB1 : Blk wo w.heap.size 35 [.int .i64 on, .int .i64 4, .int .i64 k1, .int .i64 k2, .int .i64 n, .string v] := by rw [← hwo]; exact n1.alloc _
  have hB2 : Blk wo (w.heap.size + 1) 37 [.string av, .int .i64 an, .bool aok] := by rw [← hwo]; exact n2
  have HWO := Lib.hid hwo
  have HNEW := Lib.hid hnew
  have hf1 : ¬ I.Foot L w.heap.size := fun hb => by have := hsz _ hb; omega
  have hf2 : ¬ I.Foot L (w.heap.size + 1) := fun hb => by have := hsz _ hb; omega
  have hwf := hc.2
  have hkw := hc.1
  have HCELLS := Lib.hid (show ∀ W, Blk W w.heap.size 35 [.int .i64 on, .int .i64 4, .int .i64 k1, .int .i64 k2, .int .i64 n, .string v] → Blk W (w.heap.size + 1) 37 [.string av, .int .i64 an, .bool aok] → (W.cell? ⟨w.heap.size, 0, none⟩ = some (.int .i64 on) ∧ W.cell? ⟨w.heap.size, 1, none⟩ = some (.int .i64 4) ∧ W.cell? ⟨w.heap.size, 2, none⟩ = some (.int .i64 k1) ∧ W.cell? ⟨w.heap.size, 3, none⟩ = some (.int .i64 k2) ∧ W.cell? ⟨w.heap.size, 4, none⟩ = some (.int .i64 n) ∧ W.cell? ⟨w.heap.size, 5, none⟩ = some (.string v) ∧ W.cell? ⟨w.heap.size + 1, 0, none⟩ = some (.string av) ∧ W.cell? ⟨w.heap.size + 1, 1, none⟩ = some (.int .i64 an) ∧ W.cell? ⟨w.heap.size + 1, 2, none⟩ = some (.bool aok)) from fun W h1 h2 => ⟨h1.cell 0, h1.cell 1, h1.cell 2, h1.cell 3, h1.cell 4, h1.cell 5, h2.cell 0, h2.cell 1, h2.cell 2⟩)
  have HC := Lib.hid (show ∀ W, New wo W → Calls Tryz.prog 59 #[.pointer (some ⟨L.s, 0, none⟩), .int .i64 n] W fun e w' => e = .returned (.int .i64 an) ∧ I.Step wo L (N + 1) (numSt (after st ⟨on, 4, (k1, k2), n, v⟩)) w' ∧ w'.cell? ⟨w.heap.size, 0, none⟩ = some (.int .i64 on) ∧ w'.cell? ⟨w.heap.size, 1, none⟩ = some (.int .i64 4) ∧ w'.cell? ⟨w.heap.size, 2, none⟩ = some (.int .i64 k1) ∧ w'.cell? ⟨w.heap.size, 3, none⟩ = some (.int .i64 k2) ∧ w'.cell? ⟨w.heap.size, 4, none⟩ = some (.int .i64 n) ∧ w'.cell? ⟨w.heap.size, 5, none⟩ = some (.string v) ∧ w'.cell? ⟨w.heap.size + 1, 0, none⟩ = some (.string av) ∧ w'.cell? ⟨w.heap.size + 1, 1, none⟩ = some (.int .i64 an) ∧ w'.cell? ⟨w.heap.size + 1, 2, none⟩ = some (.bool aok) from fun W hW => by
    have h1 := I.storeOpen_any L N (numSt st) n W (hst0.new_ hW) hN
    have h1 : Calls _ _ _ _ (fun e w' => e = .returned (.int .i64 an) ∧ I.Step wo L (N + 1) (numSt (after st ⟨on, 4, (k1, k2), n, v⟩)) w') := h1.mono fun e w' ⟨he, hs⟩ => ⟨by rw [he, show an = ((numSt st).readers.length : Int) + 1 from (congrArg SaidV.n hans).symm], I.Step.of_new hW hs⟩
    exact h1.mono fun e w' ⟨he, hs⟩ => ⟨by rw [he], hs, HCELLS.out w' (hs.blk hB1 hf1) (hs.blk hB2 hf2)⟩)
  have hS0 := HCELLS.out wo hB1 hB2
  have hSd := HCELLS.out wo.drew (hB1.new_ (Mod.refl _ _).drew) (hB2.new_ (Mod.refl _ _).drew)
  have hnd : New wo wo.drew := (Mod.refl _ _).drew
  obtain ⟨r0, r1, r2, r3, r4, r5, q0, q1, q2⟩ := hS0
  clear hB1 hB2 hans
  clear h hsz hc hnew hst0 n1 n2 hf1 hf2 hwf hkw
  clear hwo
  go_enter Tryz.func23, Tryz.ntmps23
  go_wp2
  rw [HWO.out]
  go_region_held3 (fun w' => w'.cell? ⟨w.heap.size, 0, none⟩ = some (.int .i64 on) ∧ w'.cell? ⟨w.heap.size, 1, none⟩ = some (.int .i64 4) ∧ w'.cell? ⟨w.heap.size, 2, none⟩ = some (.int .i64 k1) ∧ w'.cell? ⟨w.heap.size, 3, none⟩ = some (.int .i64 k2) ∧ w'.cell? ⟨w.heap.size, 4, none⟩ = some (.int .i64 n) ∧ w'.cell? ⟨w.heap.size, 5, none⟩ = some (.string v) ∧ w'.cell? ⟨w.heap.size + 1, 0, none⟩ = some (.string av) ∧ w'.cell? ⟨w.heap.size + 1, 1, none⟩ = some (.int .i64 an) ∧ w'.cell? ⟨w.heap.size + 1, 2, none⟩ = some (.bool aok)) ((first | exact hS1 | exact hSd)) ((go_at_call 59; refine (HC.out _ hnd).mono ?_; rintro e w1 ⟨rfl, hst1, hS1⟩))
  all_goals
    go_wp2
    go_ret
    exact ⟨rfl, I.Step.of_new HNEW.out hst1⟩

set_option maxRecDepth 100000 in
set_option maxHeartbeats 2000000 in
theorem number5 (L : I.Lay) (N m : Nat) (st : StS) (c : CallV) (w : World) (h : I.StoreAt w L N (numSt st)) (hc : CallOk c) (hN : N + 1 ≤ 1048576) (hk : c.kind = 5) :
    Calls Tryz.prog 23 #[.pointer (some ⟨L.s, 0, none⟩), .agg (encCall c).toArray, saidVal (answer m st c)] w (NumPost w L N st c) := by
  obtain ⟨on, kind, ⟨k1, k2⟩, n, v⟩ := c
  obtain rfl : kind = 5 := hk
  obtain ⟨⟨av, an, aok⟩, hans⟩ : ∃ a, answer m st ⟨on, 5, (k1, k2), n, v⟩ = a := ⟨_, rfl⟩
  rw [hans]
  show Calls Tryz.prog 23 #[.pointer (some ⟨L.s, 0, none⟩), .agg #[.int .i64 on, .int .i64 5, .int .i64 k1, .int .i64 k2, .int .i64 n, .string v], .agg #[.string av, .int .i64 an, .bool aok]] w (NumPost w L N st ⟨on, 5, (k1, k2), n, v⟩)
  have hsz := fun b (hb : I.Foot L b) => h.foot_lt hb
  have n1 := Blk.new w 35 [.int .i64 on, .int .i64 5, .int .i64 k1, .int .i64 k2, .int .i64 n, .string v]
  have n2 := Blk.new (w.alloc (.cells #[.int .i64 on, .int .i64 5, .int .i64 k1, .int .i64 k2, .int .i64 n, .string v] 35)) 37 [.string av, .int .i64 an, .bool aok]
  simp only [World.size_alloc] at n2
  obtain ⟨wo, hwo⟩ : ∃ wo, (w.alloc (.cells #[.int .i64 on, .int .i64 5, .int .i64 k1, .int .i64 k2, .int .i64 n, .string v] 35)).alloc (.cells #[.string av, .int .i64 an, .bool aok] 37) = wo := ⟨_, rfl⟩
  have hnew : New w wo := by rw [← hwo]; exact ((Mod.refl _ w).alloc _).alloc _
  have hst0 := h.new_ hnew
  have hB1 : Blk wo w.heap.size 35 [.int .i64 on, .int .i64 5, .int .i64 k1, .int .i64 k2, .int .i64 n, .string v] := by rw [← hwo]; exact n1.alloc _
  have hB2 : Blk wo (w.heap.size + 1) 37 [.string av, .int .i64 an, .bool aok] := by rw [← hwo]; exact n2
  have HWO := Lib.hid hwo
  have HNEW := Lib.hid hnew
  have hf1 : ¬ I.Foot L w.heap.size := fun hb => by have := hsz _ hb; omega
  have hf2 : ¬ I.Foot L (w.heap.size + 1) := fun hb => by have := hsz _ hb; omega
  have hwf := hc.2
  have hkw := hc.1
  have HCELLS := Lib.hid (show ∀ W, Blk W w.heap.size 35 [.int .i64 on, .int .i64 5, .int .i64 k1, .int .i64 k2, .int .i64 n, .string v] → Blk W (w.heap.size + 1) 37 [.string av, .int .i64 an, .bool aok] → (W.cell? ⟨w.heap.size, 0, none⟩ = some (.int .i64 on) ∧ W.cell? ⟨w.heap.size, 1, none⟩ = some (.int .i64 5) ∧ W.cell? ⟨w.heap.size, 2, none⟩ = some (.int .i64 k1) ∧ W.cell? ⟨w.heap.size, 3, none⟩ = some (.int .i64 k2) ∧ W.cell? ⟨w.heap.size, 4, none⟩ = some (.int .i64 n) ∧ W.cell? ⟨w.heap.size, 5, none⟩ = some (.string v) ∧ W.cell? ⟨w.heap.size + 1, 0, none⟩ = some (.string av) ∧ W.cell? ⟨w.heap.size + 1, 1, none⟩ = some (.int .i64 an) ∧ W.cell? ⟨w.heap.size + 1, 2, none⟩ = some (.bool aok)) from fun W h1 h2 => ⟨h1.cell 0, h1.cell 1, h1.cell 2, h1.cell 3, h1.cell 4, h1.cell 5, h2.cell 0, h2.cell 1, h2.cell 2⟩)
  have HC := Lib.hid (show ∀ W, New wo W → Calls Tryz.prog 60 #[.pointer (some ⟨L.s, 0, none⟩), .int .i64 n] W fun e w' => e = .returned (.bool aok) ∧ I.Step wo L (N + 1) (numSt (after st ⟨on, 5, (k1, k2), n, v⟩)) w' ∧ w'.cell? ⟨w.heap.size, 0, none⟩ = some (.int .i64 on) ∧ w'.cell? ⟨w.heap.size, 1, none⟩ = some (.int .i64 5) ∧ w'.cell? ⟨w.heap.size, 2, none⟩ = some (.int .i64 k1) ∧ w'.cell? ⟨w.heap.size, 3, none⟩ = some (.int .i64 k2) ∧ w'.cell? ⟨w.heap.size, 4, none⟩ = some (.int .i64 n) ∧ w'.cell? ⟨w.heap.size, 5, none⟩ = some (.string v) ∧ w'.cell? ⟨w.heap.size + 1, 0, none⟩ = some (.string av) ∧ w'.cell? ⟨w.heap.size + 1, 1, none⟩ = some (.int .i64 an) ∧ w'.cell? ⟨w.heap.size + 1, 2, none⟩ = some (.bool aok) from fun W hW => by
    have h1 := I.storeClose_any L N (numSt st) n W (hst0.new_ hW) hwf
    have h1 : Calls _ _ _ _ (fun e w' => e = .returned (.bool aok) ∧ I.Step wo L (N + 1) (numSt (after st ⟨on, 5, (k1, k2), n, v⟩)) w') := h1.mono fun e w' ⟨he, hs⟩ => ⟨by rw [he, show aok = closes (numSt st) n from (congrArg SaidV.ok hans).symm], by
      rw [show numSt (after st ⟨on, 5, (k1, k2), n, v⟩) = stClose (numSt st) n from (stClose_map lenB st n).symm]
      exact I.Step.of_new hW (hs.mono (by omega) hN)⟩
    exact h1.mono fun e w' ⟨he, hs⟩ => ⟨by rw [he], hs, HCELLS.out w' (hs.blk hB1 hf1) (hs.blk hB2 hf2)⟩)
  have hS0 := HCELLS.out wo hB1 hB2
  have hSd := HCELLS.out wo.drew (hB1.new_ (Mod.refl _ _).drew) (hB2.new_ (Mod.refl _ _).drew)
  have hnd : New wo wo.drew := (Mod.refl _ _).drew
  obtain ⟨r0, r1, r2, r3, r4, r5, q0, q1, q2⟩ := hS0
  clear hB1 hB2 hans
  clear h hsz hc hnew hst0 n1 n2 hf1 hf2 hwf hkw
  clear hwo
  go_enter Tryz.func23, Tryz.ntmps23
  go_wp2
  rw [HWO.out]
  go_region_held3 (fun w' => w'.cell? ⟨w.heap.size, 0, none⟩ = some (.int .i64 on) ∧ w'.cell? ⟨w.heap.size, 1, none⟩ = some (.int .i64 5) ∧ w'.cell? ⟨w.heap.size, 2, none⟩ = some (.int .i64 k1) ∧ w'.cell? ⟨w.heap.size, 3, none⟩ = some (.int .i64 k2) ∧ w'.cell? ⟨w.heap.size, 4, none⟩ = some (.int .i64 n) ∧ w'.cell? ⟨w.heap.size, 5, none⟩ = some (.string v) ∧ w'.cell? ⟨w.heap.size + 1, 0, none⟩ = some (.string av) ∧ w'.cell? ⟨w.heap.size + 1, 1, none⟩ = some (.int .i64 an) ∧ w'.cell? ⟨w.heap.size + 1, 2, none⟩ = some (.bool aok)) ((first | exact hS1 | exact hSd)) ((go_at_call 60; refine (HC.out _ hnd).mono ?_; rintro e w1 ⟨rfl, hst1, hS1⟩))
  all_goals
    go_wp2
    go_ret
    exact ⟨rfl, I.Step.of_new HNEW.out hst1⟩

set_option maxRecDepth 100000 in
set_option maxHeartbeats 2000000 in
theorem number6 (L : I.Lay) (N m : Nat) (st : StS) (c : CallV) (w : World) (h : I.StoreAt w L N (numSt st)) (hc : CallOk c) (hN : N + 1 ≤ 1048576) (hk : c.kind = 6) :
    Calls Tryz.prog 23 #[.pointer (some ⟨L.s, 0, none⟩), .agg (encCall c).toArray, saidVal (answer m st c)] w (NumPost w L N st c) := by
  obtain ⟨on, kind, ⟨k1, k2⟩, n, v⟩ := c
  obtain rfl : kind = 6 := hk
  obtain ⟨⟨av, an, aok⟩, hans⟩ : ∃ a, answer m st ⟨on, 6, (k1, k2), n, v⟩ = a := ⟨_, rfl⟩
  rw [hans]
  show Calls Tryz.prog 23 #[.pointer (some ⟨L.s, 0, none⟩), .agg #[.int .i64 on, .int .i64 6, .int .i64 k1, .int .i64 k2, .int .i64 n, .string v], .agg #[.string av, .int .i64 an, .bool aok]] w (NumPost w L N st ⟨on, 6, (k1, k2), n, v⟩)
  have hsz := fun b (hb : I.Foot L b) => h.foot_lt hb
  have n1 := Blk.new w 35 [.int .i64 on, .int .i64 6, .int .i64 k1, .int .i64 k2, .int .i64 n, .string v]
  have n2 := Blk.new (w.alloc (.cells #[.int .i64 on, .int .i64 6, .int .i64 k1, .int .i64 k2, .int .i64 n, .string v] 35)) 37 [.string av, .int .i64 an, .bool aok]
  simp only [World.size_alloc] at n2
  obtain ⟨wo, hwo⟩ : ∃ wo, (w.alloc (.cells #[.int .i64 on, .int .i64 6, .int .i64 k1, .int .i64 k2, .int .i64 n, .string v] 35)).alloc (.cells #[.string av, .int .i64 an, .bool aok] 37) = wo := ⟨_, rfl⟩
  have hnew : New w wo := by rw [← hwo]; exact ((Mod.refl _ w).alloc _).alloc _
  have hst0 := h.new_ hnew
  have hB1 : Blk wo w.heap.size 35 [.int .i64 on, .int .i64 6, .int .i64 k1, .int .i64 k2, .int .i64 n, .string v] := by rw [← hwo]; exact n1.alloc _
  have hB2 : Blk wo (w.heap.size + 1) 37 [.string av, .int .i64 an, .bool aok] := by rw [← hwo]; exact n2
  have HWO := Lib.hid hwo
  have HNEW := Lib.hid hnew
  have hf1 : ¬ I.Foot L w.heap.size := fun hb => by have := hsz _ hb; omega
  have hf2 : ¬ I.Foot L (w.heap.size + 1) := fun hb => by have := hsz _ hb; omega
  have hwf := hc.2
  have hkw := hc.1
  have HCELLS := Lib.hid (show ∀ W, Blk W w.heap.size 35 [.int .i64 on, .int .i64 6, .int .i64 k1, .int .i64 k2, .int .i64 n, .string v] → Blk W (w.heap.size + 1) 37 [.string av, .int .i64 an, .bool aok] → (W.cell? ⟨w.heap.size, 0, none⟩ = some (.int .i64 on) ∧ W.cell? ⟨w.heap.size, 1, none⟩ = some (.int .i64 6) ∧ W.cell? ⟨w.heap.size, 2, none⟩ = some (.int .i64 k1) ∧ W.cell? ⟨w.heap.size, 3, none⟩ = some (.int .i64 k2) ∧ W.cell? ⟨w.heap.size, 4, none⟩ = some (.int .i64 n) ∧ W.cell? ⟨w.heap.size, 5, none⟩ = some (.string v) ∧ W.cell? ⟨w.heap.size + 1, 0, none⟩ = some (.string av) ∧ W.cell? ⟨w.heap.size + 1, 1, none⟩ = some (.int .i64 an) ∧ W.cell? ⟨w.heap.size + 1, 2, none⟩ = some (.bool aok)) from fun W h1 h2 => ⟨h1.cell 0, h1.cell 1, h1.cell 2, h1.cell 3, h1.cell 4, h1.cell 5, h2.cell 0, h2.cell 1, h2.cell 2⟩)
  have HC := Lib.hid (show ∀ W, New wo W → Calls Tryz.prog 61 #[.pointer (some ⟨L.s, 0, none⟩), .int .i64 n] W fun e w' => e = .returned (.int .i64 an) ∧ I.Step wo L (N + 1) (numSt (after st ⟨on, 6, (k1, k2), n, v⟩)) w' ∧ w'.cell? ⟨w.heap.size, 0, none⟩ = some (.int .i64 on) ∧ w'.cell? ⟨w.heap.size, 1, none⟩ = some (.int .i64 6) ∧ w'.cell? ⟨w.heap.size, 2, none⟩ = some (.int .i64 k1) ∧ w'.cell? ⟨w.heap.size, 3, none⟩ = some (.int .i64 k2) ∧ w'.cell? ⟨w.heap.size, 4, none⟩ = some (.int .i64 n) ∧ w'.cell? ⟨w.heap.size, 5, none⟩ = some (.string v) ∧ w'.cell? ⟨w.heap.size + 1, 0, none⟩ = some (.string av) ∧ w'.cell? ⟨w.heap.size + 1, 1, none⟩ = some (.int .i64 an) ∧ w'.cell? ⟨w.heap.size + 1, 2, none⟩ = some (.bool aok) from fun W hW => by
    have h1 := I.storeOldest_any L N (numSt st) n W (hst0.new_ hW)
    have h1 : Calls _ _ _ _ (fun e w' => e = .returned (.int .i64 an) ∧ I.Step wo L (N + 1) (numSt (after st ⟨on, 6, (k1, k2), n, v⟩)) w') := h1.mono fun e w' ⟨he, hs⟩ => ⟨by rw [he, show an = stOldest (numSt st) n from (congrArg SaidV.n hans).symm], (I.Step.same hst0 (New.trans hW hs)).mono (by omega) hN⟩
    exact h1.mono fun e w' ⟨he, hs⟩ => ⟨by rw [he], hs, HCELLS.out w' (hs.blk hB1 hf1) (hs.blk hB2 hf2)⟩)
  have hS0 := HCELLS.out wo hB1 hB2
  have hSd := HCELLS.out wo.drew (hB1.new_ (Mod.refl _ _).drew) (hB2.new_ (Mod.refl _ _).drew)
  have hnd : New wo wo.drew := (Mod.refl _ _).drew
  obtain ⟨r0, r1, r2, r3, r4, r5, q0, q1, q2⟩ := hS0
  clear hB1 hB2 hans
  clear h hsz hc hnew hst0 n1 n2 hf1 hf2 hwf hkw
  clear hwo
  go_enter Tryz.func23, Tryz.ntmps23
  go_wp2
  rw [HWO.out]
  go_region_held3 (fun w' => w'.cell? ⟨w.heap.size, 0, none⟩ = some (.int .i64 on) ∧ w'.cell? ⟨w.heap.size, 1, none⟩ = some (.int .i64 6) ∧ w'.cell? ⟨w.heap.size, 2, none⟩ = some (.int .i64 k1) ∧ w'.cell? ⟨w.heap.size, 3, none⟩ = some (.int .i64 k2) ∧ w'.cell? ⟨w.heap.size, 4, none⟩ = some (.int .i64 n) ∧ w'.cell? ⟨w.heap.size, 5, none⟩ = some (.string v) ∧ w'.cell? ⟨w.heap.size + 1, 0, none⟩ = some (.string av) ∧ w'.cell? ⟨w.heap.size + 1, 1, none⟩ = some (.int .i64 an) ∧ w'.cell? ⟨w.heap.size + 1, 2, none⟩ = some (.bool aok)) ((first | exact hS1 | exact hSd)) ((go_at_call 61; refine (HC.out _ hnd).mono ?_; rintro e w1 ⟨rfl, hst1, hS1⟩))
  all_goals
    go_wp2
    go_ret
    exact ⟨rfl, I.Step.of_new HNEW.out hst1⟩

set_option maxRecDepth 100000 in
set_option maxHeartbeats 2000000 in
theorem number7 (L : I.Lay) (N m : Nat) (st : StS) (c : CallV) (w : World) (h : I.StoreAt w L N (numSt st)) (hc : CallOk c) (hN : N + 1 ≤ 1048576) (hk : c.kind = 7) :
    Calls Tryz.prog 23 #[.pointer (some ⟨L.s, 0, none⟩), .agg (encCall c).toArray, saidVal (answer m st c)] w (NumPost w L N st c) := by
  obtain ⟨on, kind, ⟨k1, k2⟩, n, v⟩ := c
  obtain rfl : kind = 7 := hk
  obtain ⟨⟨av, an, aok⟩, hans⟩ : ∃ a, answer m st ⟨on, 7, (k1, k2), n, v⟩ = a := ⟨_, rfl⟩
  rw [hans]
  show Calls Tryz.prog 23 #[.pointer (some ⟨L.s, 0, none⟩), .agg #[.int .i64 on, .int .i64 7, .int .i64 k1, .int .i64 k2, .int .i64 n, .string v], .agg #[.string av, .int .i64 an, .bool aok]] w (NumPost w L N st ⟨on, 7, (k1, k2), n, v⟩)
  have hsz := fun b (hb : I.Foot L b) => h.foot_lt hb
  have n1 := Blk.new w 35 [.int .i64 on, .int .i64 7, .int .i64 k1, .int .i64 k2, .int .i64 n, .string v]
  have n2 := Blk.new (w.alloc (.cells #[.int .i64 on, .int .i64 7, .int .i64 k1, .int .i64 k2, .int .i64 n, .string v] 35)) 37 [.string av, .int .i64 an, .bool aok]
  simp only [World.size_alloc] at n2
  obtain ⟨wo, hwo⟩ : ∃ wo, (w.alloc (.cells #[.int .i64 on, .int .i64 7, .int .i64 k1, .int .i64 k2, .int .i64 n, .string v] 35)).alloc (.cells #[.string av, .int .i64 an, .bool aok] 37) = wo := ⟨_, rfl⟩
  have hnew : New w wo := by rw [← hwo]; exact ((Mod.refl _ w).alloc _).alloc _
  have hst0 := h.new_ hnew
  have hB1 : Blk wo w.heap.size 35 [.int .i64 on, .int .i64 7, .int .i64 k1, .int .i64 k2, .int .i64 n, .string v] := by rw [← hwo]; exact n1.alloc _
  have hB2 : Blk wo (w.heap.size + 1) 37 [.string av, .int .i64 an, .bool aok] := by rw [← hwo]; exact n2
  have HWO := Lib.hid hwo
  have HNEW := Lib.hid hnew
  have hf1 : ¬ I.Foot L w.heap.size := fun hb => by have := hsz _ hb; omega
  have hf2 : ¬ I.Foot L (w.heap.size + 1) := fun hb => by have := hsz _ hb; omega
  have hwf := hc.2
  have hkw := hc.1
  have HCELLS := Lib.hid (show ∀ W, Blk W w.heap.size 35 [.int .i64 on, .int .i64 7, .int .i64 k1, .int .i64 k2, .int .i64 n, .string v] → Blk W (w.heap.size + 1) 37 [.string av, .int .i64 an, .bool aok] → (W.cell? ⟨w.heap.size, 0, none⟩ = some (.int .i64 on) ∧ W.cell? ⟨w.heap.size, 1, none⟩ = some (.int .i64 7) ∧ W.cell? ⟨w.heap.size, 2, none⟩ = some (.int .i64 k1) ∧ W.cell? ⟨w.heap.size, 3, none⟩ = some (.int .i64 k2) ∧ W.cell? ⟨w.heap.size, 4, none⟩ = some (.int .i64 n) ∧ W.cell? ⟨w.heap.size, 5, none⟩ = some (.string v) ∧ W.cell? ⟨w.heap.size + 1, 0, none⟩ = some (.string av) ∧ W.cell? ⟨w.heap.size + 1, 1, none⟩ = some (.int .i64 an) ∧ W.cell? ⟨w.heap.size + 1, 2, none⟩ = some (.bool aok)) from fun W h1 h2 => ⟨h1.cell 0, h1.cell 1, h1.cell 2, h1.cell 3, h1.cell 4, h1.cell 5, h2.cell 0, h2.cell 1, h2.cell 2⟩)
  have HC := Lib.hid (show ∀ W, New wo W → Calls Tryz.prog 62 #[.pointer (some ⟨L.s, 0, none⟩), .agg #[.int .i64 k1, .int .i64 k2], .int .i64 n] W fun e w' => e = .returned (.int .i64 an) ∧ I.Step wo L (N + 1) (numSt (after st ⟨on, 7, (k1, k2), n, v⟩)) w' ∧ w'.cell? ⟨w.heap.size, 0, none⟩ = some (.int .i64 on) ∧ w'.cell? ⟨w.heap.size, 1, none⟩ = some (.int .i64 7) ∧ w'.cell? ⟨w.heap.size, 2, none⟩ = some (.int .i64 k1) ∧ w'.cell? ⟨w.heap.size, 3, none⟩ = some (.int .i64 k2) ∧ w'.cell? ⟨w.heap.size, 4, none⟩ = some (.int .i64 n) ∧ w'.cell? ⟨w.heap.size, 5, none⟩ = some (.string v) ∧ w'.cell? ⟨w.heap.size + 1, 0, none⟩ = some (.string av) ∧ w'.cell? ⟨w.heap.size + 1, 1, none⟩ = some (.int .i64 an) ∧ w'.cell? ⟨w.heap.size + 1, 2, none⟩ = some (.bool aok) from fun W hW => by
    have h1 := I.storePrune_any L N (numSt st) (k1, k2) n W (hst0.new_ hW) hkw
    have h1 : Calls _ _ _ _ (fun e w' => e = .returned (.int .i64 an) ∧ I.Step wo L (N + 1) (numSt (after st ⟨on, 7, (k1, k2), n, v⟩)) w') := h1.mono fun e w' ⟨he, hs⟩ => ⟨by rw [he, goneV_num, show an = (goneV (rowOf st.rows (k1, k2)) (stOldest st n) : Int) from (congrArg SaidV.n hans).symm], by
      rw [show numSt (after st ⟨on, 7, (k1, k2), n, v⟩) = stPrune (numSt st) (k1, k2) n from (stPrune_map lenB st (k1, k2) n).symm]
      exact I.Step.of_new hW (hs.mono (by omega) hN)⟩
    exact h1.mono fun e w' ⟨he, hs⟩ => ⟨by rw [he], hs, HCELLS.out w' (hs.blk hB1 hf1) (hs.blk hB2 hf2)⟩)
  have hS0 := HCELLS.out wo hB1 hB2
  have hSd := HCELLS.out wo.drew (hB1.new_ (Mod.refl _ _).drew) (hB2.new_ (Mod.refl _ _).drew)
  have hnd : New wo wo.drew := (Mod.refl _ _).drew
  obtain ⟨r0, r1, r2, r3, r4, r5, q0, q1, q2⟩ := hS0
  clear hB1 hB2 hans
  clear h hsz hc hnew hst0 n1 n2 hf1 hf2 hwf hkw
  clear hwo
  go_enter Tryz.func23, Tryz.ntmps23
  go_wp2
  rw [HWO.out]
  go_region_held3 (fun w' => w'.cell? ⟨w.heap.size, 0, none⟩ = some (.int .i64 on) ∧ w'.cell? ⟨w.heap.size, 1, none⟩ = some (.int .i64 7) ∧ w'.cell? ⟨w.heap.size, 2, none⟩ = some (.int .i64 k1) ∧ w'.cell? ⟨w.heap.size, 3, none⟩ = some (.int .i64 k2) ∧ w'.cell? ⟨w.heap.size, 4, none⟩ = some (.int .i64 n) ∧ w'.cell? ⟨w.heap.size, 5, none⟩ = some (.string v) ∧ w'.cell? ⟨w.heap.size + 1, 0, none⟩ = some (.string av) ∧ w'.cell? ⟨w.heap.size + 1, 1, none⟩ = some (.int .i64 an) ∧ w'.cell? ⟨w.heap.size + 1, 2, none⟩ = some (.bool aok)) ((first | exact hS1 | exact hSd)) ((go_at_call 62; refine (HC.out _ hnd).mono ?_; rintro e w1 ⟨rfl, hst1, hS1⟩))
  all_goals
    go_wp2
    go_ret
    exact ⟨rfl, I.Step.of_new HNEW.out hst1⟩

set_option maxRecDepth 100000 in
set_option maxHeartbeats 2000000 in
theorem number8 (L : I.Lay) (N m : Nat) (st : StS) (c : CallV) (w : World) (h : I.StoreAt w L N (numSt st)) (hc : CallOk c) (hN : N + 1 ≤ 1048576) (hk : c.kind = 8) :
    Calls Tryz.prog 23 #[.pointer (some ⟨L.s, 0, none⟩), .agg (encCall c).toArray, saidVal (answer m st c)] w (NumPost w L N st c) := by
  obtain ⟨on, kind, ⟨k1, k2⟩, n, v⟩ := c
  obtain rfl : kind = 8 := hk
  obtain ⟨⟨av, an, aok⟩, hans⟩ : ∃ a, answer m st ⟨on, 8, (k1, k2), n, v⟩ = a := ⟨_, rfl⟩
  rw [hans]
  show Calls Tryz.prog 23 #[.pointer (some ⟨L.s, 0, none⟩), .agg #[.int .i64 on, .int .i64 8, .int .i64 k1, .int .i64 k2, .int .i64 n, .string v], .agg #[.string av, .int .i64 an, .bool aok]] w (NumPost w L N st ⟨on, 8, (k1, k2), n, v⟩)
  have hsz := fun b (hb : I.Foot L b) => h.foot_lt hb
  have n1 := Blk.new w 35 [.int .i64 on, .int .i64 8, .int .i64 k1, .int .i64 k2, .int .i64 n, .string v]
  have n2 := Blk.new (w.alloc (.cells #[.int .i64 on, .int .i64 8, .int .i64 k1, .int .i64 k2, .int .i64 n, .string v] 35)) 37 [.string av, .int .i64 an, .bool aok]
  simp only [World.size_alloc] at n2
  obtain ⟨wo, hwo⟩ : ∃ wo, (w.alloc (.cells #[.int .i64 on, .int .i64 8, .int .i64 k1, .int .i64 k2, .int .i64 n, .string v] 35)).alloc (.cells #[.string av, .int .i64 an, .bool aok] 37) = wo := ⟨_, rfl⟩
  have hnew : New w wo := by rw [← hwo]; exact ((Mod.refl _ w).alloc _).alloc _
  have hst0 := h.new_ hnew
  have hB1 : Blk wo w.heap.size 35 [.int .i64 on, .int .i64 8, .int .i64 k1, .int .i64 k2, .int .i64 n, .string v] := by rw [← hwo]; exact n1.alloc _
  have hB2 : Blk wo (w.heap.size + 1) 37 [.string av, .int .i64 an, .bool aok] := by rw [← hwo]; exact n2
  have HWO := Lib.hid hwo
  have HNEW := Lib.hid hnew
  have hf1 : ¬ I.Foot L w.heap.size := fun hb => by have := hsz _ hb; omega
  have hf2 : ¬ I.Foot L (w.heap.size + 1) := fun hb => by have := hsz _ hb; omega
  have hwf := hc.2
  have hkw := hc.1
  have HCELLS := Lib.hid (show ∀ W, Blk W w.heap.size 35 [.int .i64 on, .int .i64 8, .int .i64 k1, .int .i64 k2, .int .i64 n, .string v] → Blk W (w.heap.size + 1) 37 [.string av, .int .i64 an, .bool aok] → (W.cell? ⟨w.heap.size, 0, none⟩ = some (.int .i64 on) ∧ W.cell? ⟨w.heap.size, 1, none⟩ = some (.int .i64 8) ∧ W.cell? ⟨w.heap.size, 2, none⟩ = some (.int .i64 k1) ∧ W.cell? ⟨w.heap.size, 3, none⟩ = some (.int .i64 k2) ∧ W.cell? ⟨w.heap.size, 4, none⟩ = some (.int .i64 n) ∧ W.cell? ⟨w.heap.size, 5, none⟩ = some (.string v) ∧ W.cell? ⟨w.heap.size + 1, 0, none⟩ = some (.string av) ∧ W.cell? ⟨w.heap.size + 1, 1, none⟩ = some (.int .i64 an) ∧ W.cell? ⟨w.heap.size + 1, 2, none⟩ = some (.bool aok)) from fun W h1 h2 => ⟨h1.cell 0, h1.cell 1, h1.cell 2, h1.cell 3, h1.cell 4, h1.cell 5, h2.cell 0, h2.cell 1, h2.cell 2⟩)
  have HC := Lib.hid (show ∀ W, New wo W → Calls Tryz.prog 24 #[.pointer (some ⟨L.s, 0, none⟩)] W fun e w' => e = .returned (.int .i64 an) ∧ I.Step wo L (N + 1) (numSt (after st ⟨on, 8, (k1, k2), n, v⟩)) w' ∧ w'.cell? ⟨w.heap.size, 0, none⟩ = some (.int .i64 on) ∧ w'.cell? ⟨w.heap.size, 1, none⟩ = some (.int .i64 8) ∧ w'.cell? ⟨w.heap.size, 2, none⟩ = some (.int .i64 k1) ∧ w'.cell? ⟨w.heap.size, 3, none⟩ = some (.int .i64 k2) ∧ w'.cell? ⟨w.heap.size, 4, none⟩ = some (.int .i64 n) ∧ w'.cell? ⟨w.heap.size, 5, none⟩ = some (.string v) ∧ w'.cell? ⟨w.heap.size + 1, 0, none⟩ = some (.string av) ∧ w'.cell? ⟨w.heap.size + 1, 1, none⟩ = some (.int .i64 an) ∧ w'.cell? ⟨w.heap.size + 1, 2, none⟩ = some (.bool aok) from fun W hW => by
    have h1 := I.storeVersions_any L N (numSt st) W (hst0.new_ hW)
    have h1 : Calls _ _ _ _ (fun e w' => e = .returned (.int .i64 an) ∧ I.Step wo L (N + 1) (numSt (after st ⟨on, 8, (k1, k2), n, v⟩)) w') := h1.mono fun e w' ⟨he, hs⟩ => ⟨by rw [he, show stVersions (numSt st) = stVersions st from stVersions_map lenB st, show an = (stVersions st : Int) from (congrArg SaidV.n hans).symm], (I.Step.same hst0 (New.trans hW hs)).mono (by omega) hN⟩
    exact h1.mono fun e w' ⟨he, hs⟩ => ⟨by rw [he], hs, HCELLS.out w' (hs.blk hB1 hf1) (hs.blk hB2 hf2)⟩)
  have hS0 := HCELLS.out wo hB1 hB2
  have hSd := HCELLS.out wo.drew (hB1.new_ (Mod.refl _ _).drew) (hB2.new_ (Mod.refl _ _).drew)
  have hnd : New wo wo.drew := (Mod.refl _ _).drew
  obtain ⟨r0, r1, r2, r3, r4, r5, q0, q1, q2⟩ := hS0
  clear hB1 hB2 hans
  clear h hsz hc hnew hst0 n1 n2 hf1 hf2 hwf hkw
  clear hwo
  go_enter Tryz.func23, Tryz.ntmps23
  go_wp2
  rw [HWO.out]
  go_region_held3 (fun w' => w'.cell? ⟨w.heap.size, 0, none⟩ = some (.int .i64 on) ∧ w'.cell? ⟨w.heap.size, 1, none⟩ = some (.int .i64 8) ∧ w'.cell? ⟨w.heap.size, 2, none⟩ = some (.int .i64 k1) ∧ w'.cell? ⟨w.heap.size, 3, none⟩ = some (.int .i64 k2) ∧ w'.cell? ⟨w.heap.size, 4, none⟩ = some (.int .i64 n) ∧ w'.cell? ⟨w.heap.size, 5, none⟩ = some (.string v) ∧ w'.cell? ⟨w.heap.size + 1, 0, none⟩ = some (.string av) ∧ w'.cell? ⟨w.heap.size + 1, 1, none⟩ = some (.int .i64 an) ∧ w'.cell? ⟨w.heap.size + 1, 2, none⟩ = some (.bool aok)) ((first | exact hS1 | exact hSd)) ((go_at_call 24; refine (HC.out _ hnd).mono ?_; rintro e w1 ⟨rfl, hst1, hS1⟩))
  all_goals
    go_wp2
    go_ret
    exact ⟨rfl, I.Step.of_new HNEW.out hst1⟩

set_option maxRecDepth 100000 in
set_option maxHeartbeats 2000000 in
theorem number1 (L : I.Lay) (N m : Nat) (st : StS) (c : CallV) (w : World) (h : I.StoreAt w L N (numSt st)) (hc : CallOk c) (hN : N + 1 ≤ 1048576) (hk : c.kind = 1) :
    Calls Tryz.prog 23 #[.pointer (some ⟨L.s, 0, none⟩), .agg (encCall c).toArray, saidVal (answer m st c)] w (NumPost w L N st c) := by
  obtain ⟨on, kind, ⟨k1, k2⟩, n, v⟩ := c
  obtain rfl : kind = 1 := hk
  obtain ⟨⟨av, an, aok⟩, hans⟩ : ∃ a, answer m st ⟨on, 1, (k1, k2), n, v⟩ = a := ⟨_, rfl⟩
  rw [hans]
  show Calls Tryz.prog 23 #[.pointer (some ⟨L.s, 0, none⟩), .agg #[.int .i64 on, .int .i64 1, .int .i64 k1, .int .i64 k2, .int .i64 n, .string v], .agg #[.string av, .int .i64 an, .bool aok]] w (NumPost w L N st ⟨on, 1, (k1, k2), n, v⟩)
  have hsz := fun b (hb : I.Foot L b) => h.foot_lt hb
  have n1 := Blk.new w 35 [.int .i64 on, .int .i64 1, .int .i64 k1, .int .i64 k2, .int .i64 n, .string v]
  have n2 := Blk.new (w.alloc (.cells #[.int .i64 on, .int .i64 1, .int .i64 k1, .int .i64 k2, .int .i64 n, .string v] 35)) 37 [.string av, .int .i64 an, .bool aok]
  simp only [World.size_alloc] at n2
  obtain ⟨wo, hwo⟩ : ∃ wo, (w.alloc (.cells #[.int .i64 on, .int .i64 1, .int .i64 k1, .int .i64 k2, .int .i64 n, .string v] 35)).alloc (.cells #[.string av, .int .i64 an, .bool aok] 37) = wo := ⟨_, rfl⟩
  have hnew : New w wo := by rw [← hwo]; exact ((Mod.refl _ w).alloc _).alloc _
  have hst0 := h.new_ hnew
  have hB1 : Blk wo w.heap.size 35 [.int .i64 on, .int .i64 1, .int .i64 k1, .int .i64 k2, .int .i64 n, .string v] := by rw [← hwo]; exact n1.alloc _
  have hB2 : Blk wo (w.heap.size + 1) 37 [.string av, .int .i64 an, .bool aok] := by rw [← hwo]; exact n2
  have HWO := Lib.hid hwo
  have HNEW := Lib.hid hnew
  have hf1 : ¬ I.Foot L w.heap.size := fun hb => by have := hsz _ hb; omega
  have hf2 : ¬ I.Foot L (w.heap.size + 1) := fun hb => by have := hsz _ hb; omega
  have hwf := hc.2
  have hkw := hc.1
  have HCELLS := Lib.hid (show ∀ W, Blk W w.heap.size 35 [.int .i64 on, .int .i64 1, .int .i64 k1, .int .i64 k2, .int .i64 n, .string v] → Blk W (w.heap.size + 1) 37 [.string av, .int .i64 an, .bool aok] → (W.cell? ⟨w.heap.size, 0, none⟩ = some (.int .i64 on) ∧ W.cell? ⟨w.heap.size, 1, none⟩ = some (.int .i64 1) ∧ W.cell? ⟨w.heap.size, 2, none⟩ = some (.int .i64 k1) ∧ W.cell? ⟨w.heap.size, 3, none⟩ = some (.int .i64 k2) ∧ W.cell? ⟨w.heap.size, 4, none⟩ = some (.int .i64 n) ∧ W.cell? ⟨w.heap.size, 5, none⟩ = some (.string v) ∧ W.cell? ⟨w.heap.size + 1, 0, none⟩ = some (.string av) ∧ W.cell? ⟨w.heap.size + 1, 1, none⟩ = some (.int .i64 an) ∧ W.cell? ⟨w.heap.size + 1, 2, none⟩ = some (.bool aok)) from fun W h1 h2 => ⟨h1.cell 0, h1.cell 1, h1.cell 2, h1.cell 3, h1.cell 4, h1.cell 5, h2.cell 0, h2.cell 1, h2.cell 2⟩)
  have HC := Lib.hid (I.storeAt_any L N (numSt st) (k1, k2) n wo hst0 hkw)
  rw [atV_num] at HC
  have HSAME := Lib.hid (fun W (hW : New wo W) => (I.Step.same hst0 hW).mono (N' := N + 1) (by omega) hN)
  have hS0 := HCELLS.out wo hB1 hB2
  obtain ⟨r0, r1, r2, r3, r4, r5, q0, q1, q2⟩ := hS0
  have HBB := Lib.hid (And.intro hB1 hB2)
  have hv : (match atV (rowOf st.rows (k1, k2)) n with | some x => (⟨x.2, 0, true⟩ : SaidV) | none => ⟨emptyB, 0, false⟩) = ⟨av, an, aok⟩ := hans
  have ha : I.ansV ((atV (rowOf st.rows (k1, k2)) n).map fun v => (v.1, lenB v.2)) = .tuple #[.int .i64 (av.size : Int), .bool aok] := by
    cases hx : atV (rowOf st.rows (k1, k2)) n with
    | none => rw [hx] at hv; dsimp only at hv; injection hv with h1 h2 h3; subst h1 h3; rfl
    | some y => rw [hx] at hv; dsimp only at hv; injection hv with h1 h2 h3; subst h1 h3; rfl
  rw [ha] at HC
  clear hB1 hB2 hans hv ha
  clear hst0 h hsz hc hnew n1 n2 hf1 hf2 hwf hkw
  clear hwo
  go_enter Tryz.func23, Tryz.ntmps23
  go_wp2_with fail
  rw [HWO.out]
  refine HC.out.mono ?_
  rintro e w1 ⟨rfl, hw1⟩
  obtain ⟨s0, s1, s2, s3, s4, s5, p0, p1, p2⟩ := HCELLS.out w1 (HBB.out.1.new_ hw1) (HBB.out.2.new_ hw1)
  have HFIN := Lib.hid (I.Step.of_new HNEW.out (HSAME.out w1 hw1))
  clear r0 r1 r2 r3 r4 r5 q0 q1 q2
  go_wp2
  go_ret
  exact ⟨rfl, HFIN.out⟩

set_option maxRecDepth 100000 in
set_option maxHeartbeats 2000000 in
theorem number2 (L : I.Lay) (N m : Nat) (st : StS) (c : CallV) (w : World) (h : I.StoreAt w L N (numSt st)) (hc : CallOk c) (hN : N + 1 ≤ 1048576) (hk : c.kind = 2) :
    Calls Tryz.prog 23 #[.pointer (some ⟨L.s, 0, none⟩), .agg (encCall c).toArray, saidVal (answer m st c)] w (NumPost w L N st c) := by
  obtain ⟨on, kind, ⟨k1, k2⟩, n, v⟩ := c
  obtain rfl : kind = 2 := hk
  obtain ⟨⟨av, an, aok⟩, hans⟩ : ∃ a, answer m st ⟨on, 2, (k1, k2), n, v⟩ = a := ⟨_, rfl⟩
  rw [hans]
  show Calls Tryz.prog 23 #[.pointer (some ⟨L.s, 0, none⟩), .agg #[.int .i64 on, .int .i64 2, .int .i64 k1, .int .i64 k2, .int .i64 n, .string v], .agg #[.string av, .int .i64 an, .bool aok]] w (NumPost w L N st ⟨on, 2, (k1, k2), n, v⟩)
  have hsz := fun b (hb : I.Foot L b) => h.foot_lt hb
  have n1 := Blk.new w 35 [.int .i64 on, .int .i64 2, .int .i64 k1, .int .i64 k2, .int .i64 n, .string v]
  have n2 := Blk.new (w.alloc (.cells #[.int .i64 on, .int .i64 2, .int .i64 k1, .int .i64 k2, .int .i64 n, .string v] 35)) 37 [.string av, .int .i64 an, .bool aok]
  simp only [World.size_alloc] at n2
  obtain ⟨wo, hwo⟩ : ∃ wo, (w.alloc (.cells #[.int .i64 on, .int .i64 2, .int .i64 k1, .int .i64 k2, .int .i64 n, .string v] 35)).alloc (.cells #[.string av, .int .i64 an, .bool aok] 37) = wo := ⟨_, rfl⟩
  have hnew : New w wo := by rw [← hwo]; exact ((Mod.refl _ w).alloc _).alloc _
  have hst0 := h.new_ hnew
  have hB1 : Blk wo w.heap.size 35 [.int .i64 on, .int .i64 2, .int .i64 k1, .int .i64 k2, .int .i64 n, .string v] := by rw [← hwo]; exact n1.alloc _
  have hB2 : Blk wo (w.heap.size + 1) 37 [.string av, .int .i64 an, .bool aok] := by rw [← hwo]; exact n2
  have HWO := Lib.hid hwo
  have HNEW := Lib.hid hnew
  have hf1 : ¬ I.Foot L w.heap.size := fun hb => by have := hsz _ hb; omega
  have hf2 : ¬ I.Foot L (w.heap.size + 1) := fun hb => by have := hsz _ hb; omega
  have hwf := hc.2
  have hkw := hc.1
  have HCELLS := Lib.hid (show ∀ W, Blk W w.heap.size 35 [.int .i64 on, .int .i64 2, .int .i64 k1, .int .i64 k2, .int .i64 n, .string v] → Blk W (w.heap.size + 1) 37 [.string av, .int .i64 an, .bool aok] → (W.cell? ⟨w.heap.size, 0, none⟩ = some (.int .i64 on) ∧ W.cell? ⟨w.heap.size, 1, none⟩ = some (.int .i64 2) ∧ W.cell? ⟨w.heap.size, 2, none⟩ = some (.int .i64 k1) ∧ W.cell? ⟨w.heap.size, 3, none⟩ = some (.int .i64 k2) ∧ W.cell? ⟨w.heap.size, 4, none⟩ = some (.int .i64 n) ∧ W.cell? ⟨w.heap.size, 5, none⟩ = some (.string v) ∧ W.cell? ⟨w.heap.size + 1, 0, none⟩ = some (.string av) ∧ W.cell? ⟨w.heap.size + 1, 1, none⟩ = some (.int .i64 an) ∧ W.cell? ⟨w.heap.size + 1, 2, none⟩ = some (.bool aok)) from fun W h1 h2 => ⟨h1.cell 0, h1.cell 1, h1.cell 2, h1.cell 3, h1.cell 4, h1.cell 5, h2.cell 0, h2.cell 1, h2.cell 2⟩)
  have HC := Lib.hid (I.storeLast_any L N (numSt st) (k1, k2) wo hst0 hkw)
  have HSAME := Lib.hid (fun W (hW : New wo W) => (I.Step.same hst0 hW).mono (N' := N + 1) (by omega) hN)
  have hS0 := HCELLS.out wo hB1 hB2
  obtain ⟨r0, r1, r2, r3, r4, r5, q0, q1, q2⟩ := hS0
  have HBB := Lib.hid (And.intro hB1 hB2)
  have hv : (⟨(endV (rowOf st.rows (k1, k2))).1, (endV (rowOf st.rows (k1, k2))).2.1, (endV (rowOf st.rows (k1, k2))).2.2⟩ : SaidV) = ⟨av, an, aok⟩ := hans
  have ha : I.ansL (rowOf (numSt st).rows (k1, k2)) = .tuple #[.int .i64 (av.size : Int), .int .i64 an, .bool aok] := by
    unfold I.ansL
    rw [endV_num]
    injection hv with h1 h2 h3
    subst h1 h2 h3
    rfl
  rw [ha] at HC
  clear hB1 hB2 hans hv ha
  clear hst0 h hsz hc hnew n1 n2 hf1 hf2 hwf hkw
  clear hwo
  go_enter Tryz.func23, Tryz.ntmps23
  go_wp2_with fail
  rw [HWO.out]
  refine HC.out.mono ?_
  rintro e w1 ⟨rfl, hw1⟩
  obtain ⟨s0, s1, s2, s3, s4, s5, p0, p1, p2⟩ := HCELLS.out w1 (HBB.out.1.new_ hw1) (HBB.out.2.new_ hw1)
  have HFIN := Lib.hid (I.Step.of_new HNEW.out (HSAME.out w1 hw1))
  clear r0 r1 r2 r3 r4 r5 q0 q1 q2
  go_wp2
  go_ret
  exact ⟨rfl, HFIN.out⟩

set_option maxRecDepth 100000 in
set_option maxHeartbeats 2000000 in
theorem number0 (L : I.Lay) (N m : Nat) (st : StS) (c : CallV) (w : World) (h : I.StoreAt w L N (numSt st)) (hc : CallOk c) (hN : N + 1 ≤ 1048576) (hk : c.kind = 0) :
    Calls Tryz.prog 23 #[.pointer (some ⟨L.s, 0, none⟩), .agg (encCall c).toArray, saidVal (answer m st c)] w (NumPost w L N st c) := by
  obtain ⟨on, kind, ⟨k1, k2⟩, n, v⟩ := c
  obtain rfl : kind = 0 := hk
  obtain ⟨⟨av, an, aok⟩, hans⟩ : ∃ a, answer m st ⟨on, 0, (k1, k2), n, v⟩ = a := ⟨_, rfl⟩
  rw [hans]
  show Calls Tryz.prog 23 #[.pointer (some ⟨L.s, 0, none⟩), .agg #[.int .i64 on, .int .i64 0, .int .i64 k1, .int .i64 k2, .int .i64 n, .string v], .agg #[.string av, .int .i64 an, .bool aok]] w (NumPost w L N st ⟨on, 0, (k1, k2), n, v⟩)
  have hsz := fun b (hb : I.Foot L b) => h.foot_lt hb
  have n1 := Blk.new w 35 [.int .i64 on, .int .i64 0, .int .i64 k1, .int .i64 k2, .int .i64 n, .string v]
  have n2 := Blk.new (w.alloc (.cells #[.int .i64 on, .int .i64 0, .int .i64 k1, .int .i64 k2, .int .i64 n, .string v] 35)) 37 [.string av, .int .i64 an, .bool aok]
  simp only [World.size_alloc] at n2
  obtain ⟨wo, hwo⟩ : ∃ wo, (w.alloc (.cells #[.int .i64 on, .int .i64 0, .int .i64 k1, .int .i64 k2, .int .i64 n, .string v] 35)).alloc (.cells #[.string av, .int .i64 an, .bool aok] 37) = wo := ⟨_, rfl⟩
  have hnew : New w wo := by rw [← hwo]; exact ((Mod.refl _ w).alloc _).alloc _
  have hst0 := h.new_ hnew
  have hB1 : Blk wo w.heap.size 35 [.int .i64 on, .int .i64 0, .int .i64 k1, .int .i64 k2, .int .i64 n, .string v] := by rw [← hwo]; exact n1.alloc _
  have hB2 : Blk wo (w.heap.size + 1) 37 [.string av, .int .i64 an, .bool aok] := by rw [← hwo]; exact n2
  have HWO := Lib.hid hwo
  have HNEW := Lib.hid hnew
  have hf1 : ¬ I.Foot L w.heap.size := fun hb => by have := hsz _ hb; omega
  have hf2 : ¬ I.Foot L (w.heap.size + 1) := fun hb => by have := hsz _ hb; omega
  have hwf := hc.2
  have hkw := hc.1
  have HCELLS := Lib.hid (show ∀ W, Blk W w.heap.size 35 [.int .i64 on, .int .i64 0, .int .i64 k1, .int .i64 k2, .int .i64 n, .string v] → Blk W (w.heap.size + 1) 37 [.string av, .int .i64 an, .bool aok] → (W.cell? ⟨w.heap.size, 0, none⟩ = some (.int .i64 on) ∧ W.cell? ⟨w.heap.size, 1, none⟩ = some (.int .i64 0) ∧ W.cell? ⟨w.heap.size, 2, none⟩ = some (.int .i64 k1) ∧ W.cell? ⟨w.heap.size, 3, none⟩ = some (.int .i64 k2) ∧ W.cell? ⟨w.heap.size, 4, none⟩ = some (.int .i64 n) ∧ W.cell? ⟨w.heap.size, 5, none⟩ = some (.string v) ∧ W.cell? ⟨w.heap.size + 1, 0, none⟩ = some (.string av) ∧ W.cell? ⟨w.heap.size + 1, 1, none⟩ = some (.int .i64 an) ∧ W.cell? ⟨w.heap.size + 1, 2, none⟩ = some (.bool aok)) from fun W h1 h2 => ⟨h1.cell 0, h1.cell 1, h1.cell 2, h1.cell 3, h1.cell 4, h1.cell 5, h2.cell 0, h2.cell 1, h2.cell 2⟩)
  have HC := Lib.hid (show ∀ W, New wo W → Calls Tryz.prog 56 #[.pointer (some ⟨L.s, 0, none⟩), .agg #[.int .i64 k1, .int .i64 k2], .int .i64 n, .int .i64 (v.size : Int)] W fun e w' => (∃ z, I.SPutPost W L N (numSt st) (k1, k2) n (lenB v) e z ∧ z = w') ∧ I.Step wo L (N + 1) (numSt (after st ⟨on, 0, (k1, k2), n, v⟩)) w' ∧ w'.cell? ⟨w.heap.size, 0, none⟩ = some (.int .i64 on) ∧ w'.cell? ⟨w.heap.size, 1, none⟩ = some (.int .i64 0) ∧ w'.cell? ⟨w.heap.size, 2, none⟩ = some (.int .i64 k1) ∧ w'.cell? ⟨w.heap.size, 3, none⟩ = some (.int .i64 k2) ∧ w'.cell? ⟨w.heap.size, 4, none⟩ = some (.int .i64 n) ∧ w'.cell? ⟨w.heap.size, 5, none⟩ = some (.string v) ∧ w'.cell? ⟨w.heap.size + 1, 0, none⟩ = some (.string av) ∧ w'.cell? ⟨w.heap.size + 1, 1, none⟩ = some (.int .i64 an) ∧ w'.cell? ⟨w.heap.size + 1, 2, none⟩ = some (.bool aok) from fun W hW => by
    have h1 := I.storePut_any L N (numSt st) (k1, k2) n (lenB v) W (hst0.new_ hW) hkw hN
    refine h1.mono fun e w' hp => ?_
    have hs : I.Step wo L (N + 1) (numSt (after st ⟨on, 0, (k1, k2), n, v⟩)) w' := by
      rw [show numSt (after st ⟨on, 0, (k1, k2), n, v⟩) = stPut (numSt st) (k1, k2) n (lenB v) from (stPut_map lenB st (k1, k2) n v).symm]
      exact I.Step.of_new hW hp.2
    exact ⟨⟨w', hp, rfl⟩, hs, HCELLS.out w' (hs.blk hB1 hf1) (hs.blk hB2 hf2)⟩)
  have hS0 := HCELLS.out wo hB1 hB2
  have hSd := HCELLS.out wo.drew (hB1.new_ (Mod.refl _ _).drew) (hB2.new_ (Mod.refl _ _).drew)
  have hnd : New wo wo.drew := (Mod.refl _ _).drew
  obtain ⟨r0, r1, r2, r3, r4, r5, q0, q1, q2⟩ := hS0
  have han : an = if canPut (rowOf (numSt st).rows (k1, k2)) n then 0 else 1 := by rw [canPut_num]; exact (congrArg SaidV.n hans).symm
  unfold I.SPutPost at HC
  have HKEEP := Lib.hid (show ∀ W W' : World, (W.cell? ⟨w.heap.size, 0, none⟩ = some (.int .i64 on) ∧ W.cell? ⟨w.heap.size, 1, none⟩ = some (.int .i64 0) ∧ W.cell? ⟨w.heap.size, 2, none⟩ = some (.int .i64 k1) ∧ W.cell? ⟨w.heap.size, 3, none⟩ = some (.int .i64 k2) ∧ W.cell? ⟨w.heap.size, 4, none⟩ = some (.int .i64 n) ∧ W.cell? ⟨w.heap.size, 5, none⟩ = some (.string v) ∧ W.cell? ⟨w.heap.size + 1, 0, none⟩ = some (.string av) ∧ W.cell? ⟨w.heap.size + 1, 1, none⟩ = some (.int .i64 an) ∧ W.cell? ⟨w.heap.size + 1, 2, none⟩ = some (.bool aok)) → New W W' → (W'.cell? ⟨w.heap.size, 0, none⟩ = some (.int .i64 on) ∧ W'.cell? ⟨w.heap.size, 1, none⟩ = some (.int .i64 0) ∧ W'.cell? ⟨w.heap.size, 2, none⟩ = some (.int .i64 k1) ∧ W'.cell? ⟨w.heap.size, 3, none⟩ = some (.int .i64 k2) ∧ W'.cell? ⟨w.heap.size, 4, none⟩ = some (.int .i64 n) ∧ W'.cell? ⟨w.heap.size, 5, none⟩ = some (.string v) ∧ W'.cell? ⟨w.heap.size + 1, 0, none⟩ = some (.string av) ∧ W'.cell? ⟨w.heap.size + 1, 1, none⟩ = some (.int .i64 an) ∧ W'.cell? ⟨w.heap.size + 1, 2, none⟩ = some (.bool aok)) from fun W W' h hm => ⟨hm.cell h.1 (fun h => h), hm.cell h.2.1 (fun h => h), hm.cell h.2.2.1 (fun h => h), hm.cell h.2.2.2.1 (fun h => h), hm.cell h.2.2.2.2.1 (fun h => h), hm.cell h.2.2.2.2.2.1 (fun h => h), hm.cell h.2.2.2.2.2.2.1 (fun h => h), hm.cell h.2.2.2.2.2.2.2.1 (fun h => h), hm.cell h.2.2.2.2.2.2.2.2 (fun h => h)⟩)
  obtain ⟨cp, hcp⟩ : ∃ cp, canPut (rowOf (numSt st).rows (k1, k2)) n = cp := ⟨_, rfl⟩
  rw [hcp] at han HC
  clear hB1 hB2 hans hcp hst0
  clear h hsz hc hnew n1 n2 hf1 hf2 hwf hkw
  clear hwo
  cases cp with
  | true =>
    simp only [if_true] at han HC
    subst han
    go_enter Tryz.func23, Tryz.ntmps23
    go_wp2
    rw [HWO.out]
    go_region_held3 (fun w' => w'.cell? ⟨w.heap.size, 0, none⟩ = some (.int .i64 on) ∧ w'.cell? ⟨w.heap.size, 1, none⟩ = some (.int .i64 0) ∧ w'.cell? ⟨w.heap.size, 2, none⟩ = some (.int .i64 k1) ∧ w'.cell? ⟨w.heap.size, 3, none⟩ = some (.int .i64 k2) ∧ w'.cell? ⟨w.heap.size, 4, none⟩ = some (.int .i64 n) ∧ w'.cell? ⟨w.heap.size, 5, none⟩ = some (.string v) ∧ w'.cell? ⟨w.heap.size + 1, 0, none⟩ = some (.string av) ∧ w'.cell? ⟨w.heap.size + 1, 1, none⟩ = some (.int .i64 0) ∧ w'.cell? ⟨w.heap.size + 1, 2, none⟩ = some (.bool aok)) ((first | exact hS2 | exact hS1 | exact hSd)) ((first | (go_at_call 56; refine (HC.out _ hnd).mono ?_; rintro e w1 ⟨⟨w1', ⟨rfl, hst0⟩, rfl⟩, hst1, hS1⟩) | (go_at_call 30; refine (num_nil _).mono ?_; rintro e w2 ⟨rfl, hw2⟩; have hS2 := HKEEP.out _ _ hS1 hw2)))
    all_goals
      have HFIN := Lib.hid (I.Step.of_new HNEW.out (hst1.new_ hw2))
      go_wp2
      go_ret
      exact ⟨rfl, HFIN.out⟩
  | false =>
    simp only [Bool.false_eq_true, if_false] at han HC
    subst han
    go_enter Tryz.func23, Tryz.ntmps23
    go_wp2
    rw [HWO.out]
    go_region_held3 (fun w' => w'.cell? ⟨w.heap.size, 0, none⟩ = some (.int .i64 on) ∧ w'.cell? ⟨w.heap.size, 1, none⟩ = some (.int .i64 0) ∧ w'.cell? ⟨w.heap.size, 2, none⟩ = some (.int .i64 k1) ∧ w'.cell? ⟨w.heap.size, 3, none⟩ = some (.int .i64 k2) ∧ w'.cell? ⟨w.heap.size, 4, none⟩ = some (.int .i64 n) ∧ w'.cell? ⟨w.heap.size, 5, none⟩ = some (.string v) ∧ w'.cell? ⟨w.heap.size + 1, 0, none⟩ = some (.string av) ∧ w'.cell? ⟨w.heap.size + 1, 1, none⟩ = some (.int .i64 1) ∧ w'.cell? ⟨w.heap.size + 1, 2, none⟩ = some (.bool aok)) ((first | exact hS2 | exact hS1 | exact hSd)) ((first | (go_at_call 56; refine (HC.out _ hnd).mono ?_; rintro e w1 ⟨⟨w1', ⟨rfl, hst0⟩, rfl⟩, hst1, hS1⟩) | (go_at_call 30; refine (num_any (Er.errno 1) (by omega) (by omega) _).mono ?_; rintro e w2 ⟨rfl, hw2⟩; have hS2 := HKEEP.out _ _ hS1 hw2)))
    all_goals
      have HFIN := Lib.hid (I.Step.of_new HNEW.out (hst1.new_ hw2))
      go_wp2
      go_ret
      exact ⟨rfl, HFIN.out⟩
theorem number_any (L : I.Lay) (N m : Nat) (st : StS) (c : CallV) (w : World) (h : I.StoreAt w L N (numSt st)) (hc : CallOk c) (hN : N + 1 ≤ 1048576) (h0 : 0 ≤ c.kind) (h8 : c.kind ≤ 8) (h3 : c.kind ≠ 3) :
    Calls Tryz.prog 23 #[.pointer (some ⟨L.s, 0, none⟩), .agg (encCall c).toArray, saidVal (answer m st c)] w (NumPost w L N st c) := by
  rcases (show c.kind = 0 ∨ c.kind = 1 ∨ c.kind = 2 ∨ c.kind = 4 ∨ c.kind = 5 ∨ c.kind = 6 ∨ c.kind = 7 ∨ c.kind = 8 by omega) with e | e | e | e | e | e | e | e
  · exact number0 L N m st c w h hc hN e
  · exact number1 L N m st c w h hc hN e
  · exact number2 L N m st c w h hc hN e
  · exact number4 L N m st c w h hc hN e
  · exact number5 L N m st c w h hc hN e
  · exact number6 L N m st c w h hc hN e
  · exact number7 L N m st c w h hc hN e
  · exact number8 L N m st c w h hc hN e
end Go.Proofs.YtfifalopbfopnaaGreatDoor
