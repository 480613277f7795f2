/- Walks: the forest of package links (newForest, root, join, roots). -/
import Derived.Test.YtkkaejbdekdljaaDoorProg
import Derived.Test.YtkkaejbdekdljaaDoorWb
import Derived.Test.YtkkaejbdekdljaaDoorPa
import Derived.Deep.QuietTactic
import Derived.BigQuiet
import Derived.Lib.MinMax
set_option linter.unusedVariables false
set_option linter.unusedSimpArgs false
namespace Go.Proofs.YtkkaejbdekdljaaDoor
open Go.RowKit

def nats (l : List Nat) : List Value := l.map fun x : Nat => .int .i64 (x : Int)
theorem nats_length (l : List Nat) : (nats l).length = l.length := by simp [nats]
theorem nats_set (l : List Nat) (i v : Nat) : (nats l).set i (.int .i64 (v : Int)) = nats (l.set i v) := by simp [nats, List.map_set]
theorem nats_at (l : List Nat) (k : Nat) (h : k < l.length) : (nats l)[k]? = some (.int .i64 (at_ l k : Int)) := by
  simp [nats, at_, List.getElem?_eq_getElem h, List.getD_eq_getElem?_getD]
theorem Blk.nat {w : World} {g : Nat} {t : TypeId} {l : List Nat} (h : Blk w g t (nats l)) {k : Nat} (hk : k < l.length) : w.cell? ⟨g, k, none⟩ = some (.int .i64 (at_ l k : Int)) := by
  rw [h.cell, nats_at l k hk]

theorem madeCells_int (n : Nat) : madeCells (Value.int .i64 0).cells (n * 1) = (nats (List.replicate n 0)).toArray := by
  apply Array.ext <;> simp [madeCells, Value.cells, nats, Nat.mod_one]

set_option maxHeartbeats 400000 in
theorem root_any (g : Nat) (n c x : Nat) (l : List Nat) (w : World) (hb : Blk w g 3 (nats l)) (hl : l.length = n) (hf : ∀ i, i < n → at_ l i ≤ i) (hx : x < n) (hn : n ≤ 4096) (hc : n ≤ c) :
    Calls Tryd.prog 64 #[.slice (some ⟨g, 0, none⟩) n c, .int .i64 (x : Int)] w fun e w' => e = .returned (.int .i64 (rt (at_ l) x : Int)) ∧
      ∃ l' : List Nat, l'.length = n ∧ (∀ i, i < n → at_ l' i ≤ i) ∧ (∀ i, i < n → rt (at_ l') i = rt (at_ l) i) ∧ Blk w' g 3 (nats l') ∧ Mod (· = g) w w' := by
  have HL := Lib.hid hl
  clear hl
  go_enter Tryd.func64, Tryd.ntmps64
  go_wp2
  go_loopw [1] (fun v wr => ∃ (y : Nat) (l' : List Nat), v = .int .i64 (y : Int) ∧ y < n ∧ l'.length = n ∧ (∀ i, i < n → at_ l' i ≤ i) ∧ (∀ i, i < n → rt (at_ l') i = rt (at_ l) i) ∧ rt (at_ l) y = rt (at_ l) x ∧ Blk wr g 3 (nats l') ∧ Mod (· = g) w wr) (fun v _ => (intOf v).toNat)
  case atStart => exact ⟨x, l, rfl, hx, HL.out, hf, fun _ _ => rfl, rfl, hb, Mod.refl _ _⟩
  case round =>
    obtain ⟨y, l', rfl, hy, hl', hf', hr', hxy, hb', hw⟩ := hrel
    have hc1 := hb'.nat (k := y) (by omega)
    have hfy := hf' y hy
    have hc2 := hb'.nat (k := at_ l' y) (by omega)
    have hfz := hb'.frozen y
    have HX := Lib.hid hxy
    have HR := Lib.hid hr'
    have HF := Lib.hid hf'
    have HL' := Lib.hid hl'
    clear hxy hr' hf' hl'
    by_cases he : at_ l' y = y
    · have hd : ((at_ l' y : Int) != (y : Int)) = false := by simp; omega
      have HE := Lib.hid he
      clear he
      go_wp2
      go_ret
      exact ⟨ret_int (by
        have h1 := HX.out
        rw [rt_end (f := at_ l) (x := y)] at h1
        · rw [h1]
        · have h2 := HR.out y hy
          have h3 := HE.out
          rw [rt_end (f := at_ l') (by omega)] at h2
          intro h4
          rw [rt_step h4] at h2
          have := rt_le (at_ l) (at_ l y)
          omega), l', HL'.out, HF.out, HR.out, hb', hw⟩
    · have hd : ((at_ l' y : Int) != (y : Int)) = true := by simp; omega
      have HE := Lib.hid he
      clear he
      go_wp2
      go_roundw
      case rel =>
        have e1 := at_set l' y (at_ l' (at_ l' y)) (by have := HL'.out; omega)
        have e2 := rt_half (f := at_ l') (n := n) (x := y) HF.out hy
        have e3 : rt (at_ l') (at_ l' y) = rt (at_ l') y := rt_f _ _ hfy
        have e4 := HF.out (at_ l' y) (by omega)
        have e5 : rt (at_ l') (at_ l' (at_ l' y)) = rt (at_ l') (at_ l' y) := rt_f _ _ e4
        refine ⟨at_ l' (at_ l' y), l'.set y (at_ l' (at_ l' y)), rfl, by omega, by simp; exact HL'.out, fun i hi => ?_, fun i hi => ?_, ?_, ?_, ?_⟩
        · rw [e1]
          by_cases hiy : i = y
          · subst hiy; rw [put_same]; omega
          · rw [put_other _ _ hiy]; exact HF.out i hi
        · rw [e1, e2]; exact HR.out i hi
        · rw [← HX.out, ← HR.out _ (by omega), e5, e3]; exact HR.out y hy
        · have := hb'.set_ y (.int .i64 (at_ l' (at_ l' y) : Int))
          rwa [nats_set] at this
        · exact hw.set_ (fun _ => rfl) _
      case measure =>
        have e4 := HF.out (at_ l' y) (by omega)
        have e6 := HE.out
        simp [intOf]; omega

theorem Tryd.slt24 : SlT Tryd.prog 24 3 1 8 := ⟨Tryd.underlying24, ⟨.int .i64 0, by kernel_rfl, rfl⟩, by decide, by decide⟩
theorem Tryd.sltForest : SlT Tryd.prog 73 3 1 8 := ⟨Tryd.underlying73, ⟨.int .i64 0, by kernel_rfl, rfl⟩, by decide, by decide⟩
theorem run_mk_ints {P : Program} {t e : TypeId} (H : SlT P t e 1 8) (hz : (P.info? e).map (·.zero) = some (some (.int .i64 0))) (n : Nat) (hn : n ≤ 4294967296) (w : World) :
    (Instr.makeSlice t (.int .i64 (n : Int)) (.int .i64 (n : Int))).run P w = .ok (.slice (some ⟨w.heap.size, 0, none⟩) n n) (w.alloc (.cells (nats (List.replicate n 0)).toArray e)) := by
  obtain ⟨z, hi, hzs⟩ := H.info
  obtain ⟨i, hi0, hi1, hi2, hi3⟩ := info_parts hi
  rw [hi0] at hz
  simp at hz
  rw [hi1] at hz
  injection hz with hz
  have := run_make (P := P) w t e i z H.und hi0 hi1 .i64 .i64 n n (by omega) (by omega) (by rw [hi3]; omega) (by omega)
  simp only [Int.toNat_natCast] at this
  rw [this, hi2, hz, madeCells_int]
theorem at_repl (n i : Nat) : at_ (List.replicate n 0) i = 0 := by
  simp [at_, List.getD_eq_getElem?_getD, List.getElem?_replicate]
  split <;> rfl

set_option maxHeartbeats 400000 in
theorem newForest_any (n : Nat) (w : World) (hn : n ≤ 4096) :
    Calls Tryd.prog 39 #[.int .i64 (n : Int)] w fun e w' => ∃ g, e = .returned (.slice (some ⟨g, 0, none⟩) n n) ∧ w.heap.size ≤ g ∧ Blk w' g 3 (nats (List.range n)) ∧ New w w' := by
  have hmk := run_mk_ints Tryd.sltForest (by kernel_rfl) n (by omega)
  go_enter Tryd.func39, Tryd.ntmps39
  go_wp2
  go_loopw [4, 8] (fun _ i wr => ∃ (k : Nat) (l : List Nat), k ≤ n ∧ i = .int .i64 (k : Int) ∧ l.length = n ∧ (∀ j, j < k → at_ l j = j) ∧ Blk wr w.heap.size 3 (nats l) ∧ New w wr) (fun _ i _ => n - (intOf i).toNat)
  case atStart => exact ⟨0, _, Nat.zero_le _, rfl, by simp, fun j hj => by omega, Blk.new _ _ _, (Mod.refl _ _).alloc _⟩
  case round =>
    obtain ⟨k, l, hk, rfl, hl, hj, hb, hw⟩ := hrel
    have HL := Lib.hid hl
    have HJ := Lib.hid hj
    clear hl hj
    by_cases hlt : k < n
    · have hc := hb.nat (k := k) (by have := HL.out; omega)
      have hf := hb.frozen k
      go_wp2
      go_roundw
      case rel => exact ⟨k + 1, l.set k k, by omega, by go_num, by simp; exact HL.out, fun j hj => by
        rw [at_set _ _ _ (by have := HL.out; omega)]
        by_cases e : j = k
        · subst e; rw [put_same]
        · rw [put_other _ _ e]; exact HJ.out j (by omega), by
        have := hb.set_ k (.int .i64 (k : Int))
        rwa [nats_set] at this, hw.set_ (fun h => by simp at h) _⟩
      case measure => simp [intOf]; omega
    · go_wp2
      go_ret
      have e : l = List.range n := list_of_at (by rw [HL.out]; simp) (fun i hi => by
        rw [HJ.out i (by have := HL.out; omega)]
        have := HL.out
        simp [at_, List.getD_eq_getElem?_getD, show i < n by omega])
      exact ⟨w.heap.size, rfl, Nat.le_refl _, by rw [← e]; exact hb, hw⟩

set_option maxHeartbeats 400000 in
theorem join_any (g : Nat) (n c x y : Nat) (l : List Nat) (w : World) (hb : Blk w g 3 (nats l)) (hl : l.length = n) (hf : ∀ i, i < n → at_ l i ≤ i) (hx : x < n) (hy : y < n) (hn : n ≤ 4096) (hc : n ≤ c) :
    Calls Tryd.prog 40 #[.slice (some ⟨g, 0, none⟩) n c, .int .i64 (x : Int), .int .i64 (y : Int)] w fun e w' => e = .returned (.tuple #[]) ∧
      ∃ l' : List Nat, l'.length = n ∧ (∀ i, i < n → at_ l' i ≤ i) ∧ (∀ i, i < n → rt (at_ l') i = if rt (at_ l) i = max (rt (at_ l) x) (rt (at_ l) y) then min (rt (at_ l) x) (rt (at_ l) y) else rt (at_ l) i) ∧ Blk w' g 3 (nats l') ∧ Mod (· = g) w w' := by
  have HL := Lib.hid hl
  have HF := Lib.hid hf
  have hx0 := rt_le (at_ l) x
  have hy0 := rt_le (at_ l) y
  clear hl hf
  go_enter Tryd.func40, Tryd.ntmps40
  go_wp2_with fail
  refine (root_any g n c x l _ hb HL.out HF.out hx hn hc).mono ?_
  rintro e w1 ⟨rfl, l1, hl1, hf1, hr1, hb1, hw1⟩
  have HL1 := Lib.hid hl1
  have HF1 := Lib.hid hf1
  have HR1 := Lib.hid hr1
  clear hl1 hf1 hr1
  go_wp2_with fail
  refine (root_any g n c y l1 _ hb1 HL1.out HF1.out hy hn hc).mono ?_
  rintro e w2 ⟨rfl, l2, hl2, hf2, hr2, hb2, hw2⟩
  have hry := HR1.out y hy
  rw [hry]
  have HL2 := Lib.hid hl2
  have HF2 := Lib.hid hf2
  have HR2 := Lib.hid hr2
  have HRY := Lib.hid hry
  clear hl2 hf2 hr2 hry
  have hm : (max (rt (at_ l) x : Int) (rt (at_ l) y : Int)).toNat = max (rt (at_ l) x) (rt (at_ l) y) := by omega
  have hmc : w2.cell? ⟨g, (max (rt (at_ l) x : Int) (rt (at_ l) y : Int)).toNat, none⟩ = some (.int .i64 (at_ l2 (max (rt (at_ l) x) (rt (at_ l) y)) : Int)) := by
    rw [hm]; exact hb2.nat (by have := HL2.out; omega)
  have hmf : w2.frozen? ⟨g, (max (rt (at_ l) x : Int) (rt (at_ l) y : Int)).toNat, none⟩ = false := hb2.frozen _
  have HM := Lib.hid hm
  clear hm
  have hb0 : 0 ≤ max (rt (at_ l) x : Int) (rt (at_ l) y : Int) := by omega
  have hb3 : max (rt (at_ l) x : Int) (rt (at_ l) y : Int) < (n : Int) := by omega
  go_wp2
  go_end0
  have ea : ∀ i, i < n → rt (at_ l2) i = rt (at_ l) i := fun i hi => (HR2.out i hi).trans (HR1.out i hi)
  have ex : ∀ z, z = x ∨ z = y → at_ l2 (rt (at_ l) z) = rt (at_ l) z := fun z hz => by
    have hzn : z < n := by rcases hz with rfl | rfl <;> assumption
    have h1 := rt_root (at_ l2) z
    rw [ea z hzn] at h1
    have := HF2.out (rt (at_ l) z) (by have := rt_le (at_ l) z; omega)
    omega
  have emin : ((min (rt (at_ l) x) (rt (at_ l) y) : Nat) : Int) = min (rt (at_ l) x : Int) (rt (at_ l) y : Int) := by omega
  have ehi : at_ l2 (max (rt (at_ l) x) (rt (at_ l) y)) = max (rt (at_ l) x) (rt (at_ l) y) := by
    rcases Nat.le_total (rt (at_ l) x) (rt (at_ l) y) with h | h
    · rw [Nat.max_eq_right h]; exact ex y (.inr rfl)
    · rw [Nat.max_eq_left h]; exact ex x (.inl rfl)
  have elo : at_ l2 (min (rt (at_ l) x) (rt (at_ l) y)) = min (rt (at_ l) x) (rt (at_ l) y) := by
    rcases Nat.le_total (rt (at_ l) x) (rt (at_ l) y) with h | h
    · rw [Nat.min_eq_left h]; exact ex x (.inl rfl)
    · rw [Nat.min_eq_right h]; exact ex y (.inr rfl)
  have eset := at_set l2 (max (rt (at_ l) x) (rt (at_ l) y)) (min (rt (at_ l) x) (rt (at_ l) y)) (by have := HL2.out; omega)
  refine ⟨rfl, l2.set (max (rt (at_ l) x) (rt (at_ l) y)) (min (rt (at_ l) x) (rt (at_ l) y)), by simp; exact HL2.out, fun i hi => ?_, fun i hi => ?_, ?_, ?_⟩
  · rw [eset]
    by_cases e : i = max (rt (at_ l) x) (rt (at_ l) y)
    · rw [e, put_same]; omega
    · rw [put_other _ _ e]; exact HF2.out i hi
  · rw [eset, rt_join (by omega) ehi elo, ea i hi]
  · have := hb2.set_ (max (rt (at_ l) x) (rt (at_ l) y)) (.int .i64 ((min (rt (at_ l) x) (rt (at_ l) y) : Nat) : Int))
    rw [nats_set, emin] at this
    rw [HM.out]
    exact this
  · exact (hw1.trans hw2 (fun _ _ h => h)).set_ (fun _ => rfl) _

set_option maxHeartbeats 400000 in
theorem roots_any (g : Nat) (n c : Nat) (l : List Nat) (w : World) (hb : Blk w g 3 (nats l)) (hl : l.length = n) (hf : ∀ i, i < n → at_ l i ≤ i) (hn : n ≤ 4096) (hc : n ≤ c) :
    Calls Tryd.prog 41 #[.slice (some ⟨g, 0, none⟩) n c] w fun e w' => ∃ (h : Nat) (r : List Nat), e = .returned (.slice (some ⟨h, 0, none⟩) n n) ∧ w.heap.size ≤ h ∧ Blk w' h 3 (nats r) ∧ r.length = n ∧ (∀ i, i < n → at_ r i = rt (at_ l) i) ∧ Mod (· = g) w w' := by
  have HL := Lib.hid hl
  have HF := Lib.hid hf
  clear hl hf
  have hmk := run_mk_ints Tryd.slt24 (by kernel_rfl) n (by omega)
  have hgl := hb.lt
  go_enter Tryd.func41, Tryd.ntmps41
  go_wp2
  go_loopw [4, 10] (fun _ i wr => ∃ (k : Nat) (l' r : List Nat), k ≤ n ∧ i = .int .i64 (k : Int) ∧ l'.length = n ∧ (∀ j, j < n → at_ l' j ≤ j) ∧ (∀ j, j < n → rt (at_ l') j = rt (at_ l) j) ∧ r.length = n ∧ (∀ j, j < k → at_ r j = rt (at_ l) j) ∧
      Blk wr g 3 (nats l') ∧ Blk wr w.heap.size 3 (nats r) ∧ Mod (· = g) w wr) (fun _ i _ => n - (intOf i).toNat)
  case atStart => exact ⟨0, l, _, Nat.zero_le _, rfl, HL.out, HF.out, fun _ _ => rfl, by simp, fun j hj => by omega, hb.alloc _, Blk.new _ _ _, (Mod.refl _ _).alloc _⟩
  case round =>
    obtain ⟨k, l', r, hk, rfl, hl', hf', hr', hlr, hj, hb', hbr, hw⟩ := hrel
    have HL' := Lib.hid hl'
    have HF' := Lib.hid hf'
    have HR' := Lib.hid hr'
    have HLR := Lib.hid hlr
    have HJ := Lib.hid hj
    clear hl' hf' hr' hlr hj
    by_cases hlt : k < n
    · go_wp2_with fail
      refine (root_any g n c k l' _ hb' HL'.out HF'.out hlt hn hc).mono ?_
      rintro e w1 ⟨rfl, l1, hl1, hf1, hr1, hb1, hw1⟩
      have hbr1 := hbr.kept hw1 (fun h => by omega)
      have hcr := hbr1.nat (k := k) (by have := HLR.out; omega)
      have hfr := hbr1.frozen k
      have HL1 := Lib.hid hl1
      have HF1 := Lib.hid hf1
      have HR1 := Lib.hid hr1
      clear hl1 hf1 hr1
      go_wp2
      go_roundw
      case rel => exact ⟨k + 1, l1, r.set k (rt (at_ l') k), by omega, by go_num, HL1.out, HF1.out, fun j hj => (HR1.out j hj).trans (HR'.out j hj), by simp; exact HLR.out, fun j hj => by
        rw [at_set _ _ _ (by have := HLR.out; omega)]
        by_cases e : j = k
        · subst e; rw [put_same]; exact HR'.out j hlt
        · rw [put_other _ _ e]; exact HJ.out j (by omega), hb1.far (by simp; omega) _, by
        have := hbr1.set_ k (.int .i64 (rt (at_ l') k : Int))
        rwa [nats_set] at this, (hw.trans hw1 (fun _ _ h => h)).set_ (fun h => by simp at h) _⟩
      case measure => simp [intOf]; omega
    · go_wp2
      go_ret
      exact ⟨w.heap.size, r, rfl, Nat.le_refl _, hbr, HLR.out, fun i hi => HJ.out i (by omega), hw⟩
end Go.Proofs.YtkkaejbdekdljaaDoor
