/- Walks: the document's chain (custodyref10): Counts, Copy, Put, At, Last, Prune. -/
import Derived.Test.YtfifalopbfopnaaGreatDoorVg
import Derived.Deep.QuietTactic
import Derived.BigQuiet
set_option linter.unusedVariables false
set_option linter.unusedSimpArgs false
namespace Go.Proofs.YtfifalopbfopnaaGreatDoor
open Go.RowKit

theorem Tryz.sltRV : SlT Tryz.prog 75 153 2 24 := ⟨Tryz.underlying75, ⟨.agg #[.int .i64 0, .string ⟨#[]⟩], by kernel_rfl, rfl⟩, by decide, by decide⟩

set_option maxRecDepth 100000 in
set_option maxHeartbeats 2000000 in
theorem refCounts_any (A : Option Addr) (n c : Nat) (l : VersS) (x : Int) (w : World) (ha : Sl w A n 2 (cellsL encVer l)) (hr : Rising l) :
    Calls Tryz.prog 100 #[.slice A n c, .int .i64 x] w fun e w' => e = .returned (.int .i64 ((upTo l x : Int) - 1)) ∧ New w w' := by
  have hl : l.length = n := ha.length encVer_len (by decide)
  have hn := ha.le
  have HL := Lib.hid hl
  have HR := Lib.hid hr
  obtain ⟨u, hu⟩ : ∃ u, upTo l x = u := ⟨_, rfl⟩
  have HU := Lib.hid hu
  rw [hu]
  clear hl hr hu
  go_enter Tryz.func100, Tryz.ntmps100
  go_wp2
  go_loopw [5, 6] (fun b i wr => ∃ (k : Nat) (q : Int), k ≤ n ∧ i = .int .i64 (k : Int) ∧ b = .int .i64 q ∧ q = (upTo (l.take k) x : Int) - 1 ∧ New w wr) (fun _ i _ => n - (intOf i).toNat)
  case atStart => exact ⟨0, -1, Nat.zero_le _, rfl, rfl, rfl, Mod.refl _ _⟩
  case round =>
    obtain ⟨k, q, hk, rfl, rfl, hq, hw⟩ := hrel
    by_cases hlt : k < n
    · obtain ⟨b, off, ⟨y0, y1⟩, rfl, hy, hc⟩ := (ha.new_ hw).elem encVer_len (by decide) hlt
      have c0 := hc 0 _ rfl
      simp only [Nat.add_zero] at c0
      have hst := upTo_take_succ HR.out hy x
      by_cases hle : y0 ≤ x
      · have hd : decide (y0 ≤ x) = true := by simpa using hle
        rw [if_pos hle] at hst
        have HST := Lib.hid hst
        by_cases hneg : q < 0
        · have hd2 : decide (q < 0) = true := by simpa using hneg
          clear hq hy hst hc
          go_wp2
          go_quiet (fail)
          go_wp2
          go_roundw
          case rel => exact ⟨k + 1, (k : Int), by omega, by go_num, rfl, by rw [HST.out]; omega, hw.drewN _⟩
          case measure => simp [intOf]; omega
        · have hu := upTo_le (l.take k) x
          have hul : (l.take k).length ≤ k := List.length_take_le _ _
          obtain ⟨j, rfl⟩ : ∃ j : Nat, q = (j : Int) := ⟨q.toNat, by omega⟩
          have hjk : j < k := by omega
          obtain ⟨b', off', ⟨z0, z1⟩, e, hz, hcz⟩ := (ha.new_ hw).elem encVer_len (by decide) (show j < n by omega)
          injection e with e
          injection e with e1 e2
          subst e1 e2
          have d0 := hcz 0 _ rfl
          simp only [Nat.add_zero] at d0
          have hgt : z0 < y0 := HR.out.at_lt hz hy hjk
          have hd2 : decide ((j : Int) < 0) = false := by simp
          have hd3 : decide (y0 > z0) = true := by simpa using hgt
          have hd4 : decide (z0 < y0) = true := by simpa using hgt
          clear hq hy hst hc hz hcz hu hul
          go_wp2
          go_quiet (fail)
          go_wp2
          go_roundw
          case rel => exact ⟨k + 1, (k : Int), by omega, by go_num, rfl, by rw [HST.out]; omega, hw.drewN _⟩
          case measure => simp [intOf]; omega
      · have hd : decide (y0 ≤ x) = false := by simpa using hle
        rw [if_neg hle] at hst
        have HST := Lib.hid (show q = (upTo (l.take (k + 1)) x : Int) - 1 from by rw [hst]; exact hq)
        clear hq hy hst hc
        go_wp2
        go_quiet (fail)
        go_wp2
        go_roundw
        case rel => exact ⟨k + 1, q, by omega, by go_num, rfl, HST.out, hw.drewN _⟩
        case measure => simp [intOf]; omega
    · obtain rfl : k = n := by omega
      have e : (upTo (l.take k) x : Int) - 1 = (u : Int) - 1 := by rw [List.take_of_length_le (by have := HL.out; omega), HU.out]
      rw [e] at hq
      subst hq
      go_wp2
      go_ret
      exact ⟨rfl, hw⟩

/-- What Copy answers. -/
def RCopyPost (w : World) (n : Nat) (l : VersS) (e : Ending) (w' : World) : Prop := ∃ v, e = .returned v ∧ w'.ownsRow w.heap.size 153 2 v n (cellsL encVer l) ∧ New w w'
set_option maxHeartbeats 1000000 in
theorem refCopy_any (A : Option Addr) (n c : Nat) (l : VersS) (w : World) (ha : Sl w A n 2 (cellsL encVer l)) (hn : n ≤ 4294967296) :
    Calls Tryz.prog 98 #[.slice A n c] w (RCopyPost w n l) := by
  have HL := Lib.hid (ha.length encVer_len (by decide))
  go_enter Tryz.func98, Tryz.ntmps98
  go_wp2
  go_loopw [3, 4] (fun v i wr => ∃ k : Nat, k ≤ n ∧ i = .int .i64 (k : Int) ∧ wr.ownsRow w.heap.size 153 2 v k (cellsL encVer (l.take k)) ∧ New w wr) (fun _ i _ => n - (intOf i).toNat)
  case atStart => exact ⟨0, Nat.zero_le _, rfl, own_nil _ _ _ _, Mod.refl _ _⟩
  case round =>
    obtain ⟨k, hk, rfl, hown, hw⟩ := hrel
    by_cases hlt : k < n
    · obtain ⟨b, off, ⟨x0, x1⟩, rfl, hp, hc⟩ := (ha.new_ hw).elem encVer_len (by decide) hlt
      have c0 := hc 0 _ rfl
      have c1 := hc 1 _ rfl
      simp only [Nat.add_zero] at c0
      have HP := Lib.hid hp
      clear hp hc
      go_wp2_with (at_builtin; refine wpList_app Tryz.sltRV rfl (.tmp 11) (.tmp 16) rfl w.heap.size _ k _ rfl (hown.alloc _) ⟨wr.heap.size, 0, none⟩ 1 1 [.int .i64 x0, .string x1] rfl rfl (cells_new _ _ _) ?c1 ?c2 ?c3 ?_)
      case c1 => simp [Value.oneCell']
      case c2 => omega
      case c3 => have := hw.size; first | omega | (simp; omega)
      intro v' w1 hown1 hg1 _
      have hw1 : New w w1 := New.grown (hw.alloc _) (hown.alloc _) (Nat.le_refl _) hg1
      clear hg1
      go_wp2
      go_roundw
      case rel => exact ⟨k + 1, by omega, by go_num, by rw [take_next l k _ HP.out]; exact hown1, hw1⟩
      case measure => simp [intOf]; omega
    · obtain rfl : k = n := by omega
      rw [List.take_of_length_le (by have := HL.out; omega)] at hown
      go_wp2
      go_ret
      exact ⟨_, rfl, hown, hw⟩

/-- What Put answers. -/
def RPutPost (w : World) (n : Nat) (v : Value) (l : VersS) (x : Int) (y : ByteArray) (e : Ending) (w' : World) : Prop :=
  New w w' ∧ ((canPut l x = false ∧ e = .returned (.tuple #[v, .int .i64 1])) ∨ (canPut l x = true ∧ ∃ v', e = .returned (.tuple #[v', .int .i64 0]) ∧ w'.ownsRow w.heap.size 153 2 v' (l ++ [(x, y)]).length (cellsL encVer (l ++ [(x, y)]))))
set_option maxHeartbeats 1000000 in
theorem refPut_any (A : Option Addr) (n c : Nat) (l : VersS) (x : Int) (y : ByteArray) (w : World) (ha : Sl w A n 2 (cellsL encVer l)) (hr : Rising l) (hn : n ≤ 1048576) :
    Calls Tryz.prog 72 #[.slice A n c, .int .i64 x, .string y] w (RPutPost w n (.slice A n c) l x y) := by
  have hl := ha.length encVer_len (by decide)
  have HL := Lib.hid hl
  have HCI := Lib.hid (canPut_iff hr (n := x))
  clear hl
  by_cases h0 : x < 0
  · have HX := Lib.hid (show canPut l x = false from by
      cases h : canPut l x with
      | false => rfl
      | true => have := (HCI.out.1 h).1; omega)
    go_enter Tryz.func72, Tryz.ntmps72
    go_wp2
    go_ret2
    exact ⟨Mod.refl _ _, .inl ⟨HX.out, rfl⟩⟩
  · go_enter Tryz.func72, Tryz.ntmps72
    go_wp2
    go_loopw [8] (fun i wr => ∃ k : Nat, k ≤ n ∧ i = .int .i64 (k : Int) ∧ (∀ (j : Nat) (p : Int × ByteArray), j < k → l[j]? = some p → p.1 < x) ∧ New w wr) (fun i _ => n - (intOf i).toNat)
    case atStart => exact ⟨0, Nat.zero_le _, rfl, fun j p h => by omega, Mod.refl _ _⟩
    case round =>
      obtain ⟨k, hk, rfl, hall, hw⟩ := hrel
      have HALL := Lib.hid hall
      clear hall
      by_cases hlt : k < n
      · obtain ⟨b, off, ⟨x0, x1⟩, rfl, hp, hc⟩ := (ha.new_ hw).elem encVer_len (by decide) hlt
        have c0 := hc 0 _ rfl
        simp only [Nat.add_zero] at c0
        have HP := Lib.hid hp
        clear hp hc
        by_cases hge : x ≤ x0
        · have HX := Lib.hid (show canPut l x = false from by
            cases h : canPut l x with
            | false => rfl
            | true => have := (HCI.out.1 h).2 _ (List.mem_of_getElem? HP.out); simp only at this; omega)
          go_wp2
          go_ret2
          exact ⟨hw, .inl ⟨HX.out, rfl⟩⟩
        · have HN := Lib.hid (show ∀ (j : Nat) (p : Int × ByteArray), j < k + 1 → l[j]? = some p → p.1 < x from fun j p hj hp => by
            by_cases e : j = k
            · subst e; rw [HP.out] at hp; injection hp with hp; subst hp; simp only; omega
            · exact HALL.out j p (by omega) hp)
          go_wp2
          go_roundw
          case rel => exact ⟨k + 1, by omega, by go_num, HN.out, hw⟩
          case measure => simp [intOf]; omega
      · obtain rfl : k = n := by omega
        have HX := Lib.hid (show canPut l x = true from HCI.out.2 ⟨by omega, fun p hp => by
          obtain ⟨j, hj⟩ := List.getElem?_of_mem hp
          exact HALL.out j p (by have := (List.getElem?_eq_some_iff.1 hj).1; have := HL.out; omega) hj⟩)
        have haw := ha.new_ hw
        go_wp2_with fail
        refine (refCopy_any A k c l _ haw (by omega)).mono ?_
        rintro e w1 ⟨v, rfl, hown, hw1⟩
        have hn1 := New.trans hw hw1
        have hown2 := own_mono hown hw.size
        clear hown
        go_wp2_with (at_builtin; refine wpList_app Tryz.sltRV rfl (.tmp 29) (.tmp 33) rfl w.heap.size _ k _ rfl (hown2.alloc _) ⟨w1.heap.size, 0, none⟩ 1 1 [.int .i64 x, .string y] rfl rfl (cells_new _ _ _) ?c1 ?c2 ?c3 ?_)
        case c1 => simp [Value.oneCell']
        case c2 => omega
        case c3 => have := hn1.size; first | omega | (simp; omega)
        intro v' w4 hown4 hg4 _
        have hw4 : New w w4 := New.grown (hn1.alloc _) (hown2.alloc _) (Nat.le_refl _) hg4
        have HO4 := Lib.hid (show w4.ownsRow w.heap.size 153 2 v' (l ++ [(x, y)]).length (cellsL encVer (l ++ [(x, y)])) from by
          rw [List.length_append, HL.out, cellsL_append, cellsL_one]; exact hown4)
        clear hg4 hown4
        go_wp2
        go_ret2
        exact ⟨hw4, .inr ⟨HX.out, _, rfl, HO4.out⟩⟩

theorem refAt_any (A : Option Addr) (n c : Nat) (l : VersS) (x : Int) (w : World) (ha : Sl w A n 2 (cellsL encVer l)) (hr : Rising l) :
    Calls Tryz.prog 75 #[.slice A n c, .int .i64 x] w fun e w' => e = .returned (ansV (atV l x)) ∧ New w w' := by
  have hl := ha.length encVer_len (by decide)
  have hn := ha.le
  have hu := upTo_le l x
  have HC := Lib.hid (refCounts_any A n c l x w ha hr)
  unfold atV
  obtain ⟨u, hue⟩ : ∃ u, upTo l x = u := ⟨_, rfl⟩
  rw [hue] at HC hu ⊢
  rw [hl] at hu
  clear hl hue
  by_cases h0 : u = 0
  · subst h0
    have e : (((0 : Nat) : Int) - 1) = -1 := by omega
    rw [e] at HC
    clear e
    go_enter Tryz.func75, Tryz.ntmps75
    go_wp2_with (go_at_call 100; refine HC.out.mono ?_; rintro e w1 ⟨rfl, hw1⟩)
    go_ret2
    exact ⟨rfl, hw1⟩
  · obtain ⟨m, rfl⟩ : ∃ m, u = m + 1 := ⟨u - 1, by omega⟩
    have e : (((m + 1 : Nat) : Int) - 1) = (m : Int) := by omega
    rw [e] at HC
    clear e
    obtain ⟨b, off, ⟨y0, y1⟩, rfl, hy, hc⟩ := ha.elem encVer_len (by decide) (show m < n by omega)
    have HC1 := Lib.hid (hc 1 _ rfl)
    have HY := Lib.hid hy
    have hmn : m < n := by omega
    clear hc hy
    go_enter Tryz.func75, Tryz.ntmps75
    go_wp2_with (go_at_call 100; refine HC.out.mono ?_; rintro e w1 ⟨rfl, hw1⟩; have c1 := hw1.cell HC1.out (fun h => h))
    go_ret2
    exact ⟨by rw [HY.out]; rfl, hw1⟩

theorem upTo_all {l : VersS} (hr : Rising l) {x : Int} (h : ∀ p ∈ l, p.1 ≤ x) : upTo l x = l.length :=
  (upTo_unique hr (Nat.le_refl _) (fun i p hi hp => h p (List.mem_of_getElem? hp)) (fun i p hi hp => by have := (List.getElem?_eq_some_iff.1 hp).1; omega)).symm
set_option maxHeartbeats 1000000 in
theorem refLast_any (A : Option Addr) (n c : Nat) (l : VersS) (w : World) (ha : Sl w A n 2 (cellsL encVer l)) (hr : Rising l) (hb : ∀ p ∈ l, p.1 ≤ 9223372036854775807) :
    Calls Tryz.prog 76 #[.slice A n c] w fun e w' => e = .returned (ansL l) ∧ New w w' := by
  have hl := ha.length encVer_len (by decide)
  have hn := ha.le
  have HC := Lib.hid (refCounts_any A n c l 9223372036854775807 w ha hr)
  rw [upTo_all hr hb, hl] at HC
  have HL := Lib.hid hl
  unfold ansL endV
  clear hl hb
  by_cases h0 : n = 0
  · subst h0
    have e : (((0 : Nat) : Int) - 1) = -1 := by omega
    rw [e] at HC
    clear e
    have HLN := Lib.hid (List.length_eq_zero_iff.1 HL.out)
    rw [HLN.out]
    go_enter Tryz.func76, Tryz.ntmps76
    go_wp2_with (go_at_call 100; refine HC.out.mono ?_; rintro e w1 ⟨rfl, hw1⟩)
    go_ret3
    exact ⟨rfl, hw1⟩
  · obtain ⟨m, rfl⟩ : ∃ m, n = m + 1 := ⟨n - 1, by omega⟩
    have e : (((m + 1 : Nat) : Int) - 1) = (m : Int) := by omega
    rw [e] at HC
    clear e
    obtain ⟨b, off, ⟨y0, y1⟩, rfl, hy, hc⟩ := ha.elem encVer_len (by decide) (show m < m + 1 by omega)
    have HC0 := Lib.hid (hc 0 _ rfl)
    have HC1 := Lib.hid (hc 1 _ rfl)
    have HY := Lib.hid (show l.getLast? = some (y0, y1) from by rw [List.getLast?_eq_getElem?, HL.out]; exact hy)
    rw [HY.out]
    clear hc hy
    simp only [Nat.add_zero] at HC0
    go_enter Tryz.func76, Tryz.ntmps76
    go_wp2_with (go_at_call 100; refine HC.out.mono ?_; rintro e w1 ⟨rfl, hw1⟩; have c1 := hw1.cell HC1.out (fun h => h); have c0 := hw1.cell HC0.out (fun h => h))
    go_quiet (fail)
    go_wp2
    go_ret3
    exact ⟨rfl, hw1.drewN _⟩

/-- What Prune answers. -/
def RPrunePost (w : World) (l : VersS) (x : Int) (e : Ending) (w' : World) : Prop :=
  ∃ v, e = .returned (.tuple #[v, .int .i64 (goneV l x : Int)]) ∧ New w w' ∧ (0 < goneV l x → w'.ownsRow w.heap.size 153 2 v (pruneV l x).length (cellsL encVer (pruneV l x)))
theorem take_drop_snoc {l : VersS} {m k : Nat} {p : Int × ByteArray} (hm : m ≤ k) (hp : l[k]? = some p) : (l.take (k + 1)).drop m = (l.take k).drop m ++ [p] := by
  have h := (List.getElem?_eq_some_iff.1 hp).1
  rw [List.take_add_one, hp]
  simp only [Option.toList_some]
  rw [List.drop_append_of_le_length (by rw [List.length_take]; omega)]
set_option maxRecDepth 100000 in
set_option maxHeartbeats 2000000 in
theorem refPrune_any (A : Option Addr) (n c : Nat) (l : VersS) (x : Int) (w : World) (ha : Sl w A n 2 (cellsL encVer l)) (hr : Rising l) (hn : n ≤ 1048576) :
    Calls Tryz.prog 77 #[.slice A n c, .int .i64 x] w (RPrunePost w l x) := by
  have hl := ha.length encVer_len (by decide)
  have hu := upTo_le l x
  have HC := Lib.hid (refCounts_any A n c l x w ha hr)
  have HR := Lib.hid hr
  have HL := Lib.hid hl
  obtain ⟨u, hue⟩ : ∃ u, upTo l x = u := ⟨_, rfl⟩
  rw [hue] at HC hu
  rw [hl] at hu
  have HG := Lib.hid (show goneV l x = u - 1 from by unfold goneV; rw [hue])
  clear hl hue hr
  by_cases h0 : u = 0
  · subst h0
    have e : (((0 : Nat) : Int) - 1) = -1 := by omega
    rw [e] at HC
    clear e
    go_enter Tryz.func77, Tryz.ntmps77
    go_wp2_with (go_at_call 100; refine HC.out.mono ?_; rintro e w1 ⟨rfl, hw1⟩)
    go_ret2
    exact ⟨_, by rw [HG.out]; rfl, hw1, fun h => by rw [HG.out] at h; omega⟩
  · obtain ⟨m, rfl⟩ : ∃ m, u = m + 1 := ⟨u - 1, by omega⟩
    have e : (((m + 1 : Nat) : Int) - 1) = (m : Int) := by omega
    rw [e] at HC
    clear e
    have hmn : m < n := by omega
    go_enter Tryz.func77, Tryz.ntmps77
    go_wp2_with (go_at_call 100; refine HC.out.mono ?_; rintro e w1 ⟨rfl, hw1⟩)
    go_loopw [7, 8] (fun v i wr => ∃ k : Nat, k ≤ n ∧ i = .int .i64 (k : Int) ∧ wr.ownsRow w.heap.size 153 2 v (k - m) (cellsL encVer ((l.take k).drop m)) ∧ New w wr) (fun _ i _ => n - (intOf i).toNat)
    case atStart => exact ⟨0, Nat.zero_le _, rfl, by rw [Nat.zero_sub]; simpa [cellsL] using own_nil w1 w.heap.size _ _, hw1⟩
    case round =>
      obtain ⟨k, hk, rfl, hown, hw⟩ := hrel
      by_cases hlt : k < n
      · obtain ⟨b, off, ⟨x0, x1⟩, rfl, hp, hc⟩ := (ha.new_ hw).elem encVer_len (by decide) hlt
        obtain ⟨b', off', ⟨z0, z1⟩, e, hz, hcz⟩ := (ha.new_ hw).elem encVer_len (by decide) hmn
        injection e with e
        injection e with e1 e2
        subst e1 e2
        have c0 := hc 0 _ rfl
        have c1 := hc 1 _ rfl
        have d0 := hcz 0 _ rfl
        simp only [Nat.add_zero] at c0 d0
        have HP := Lib.hid hp
        by_cases hkm : k < m
        · have hlt2 := HR.out.at_lt hp hz hkm
          have hge : decide (x0 ≥ z0) = false := by simp; exact hlt2
          have hge2 : decide (z0 ≤ x0) = false := by simp; exact hlt2
          have hnl : ¬ z0 ≤ x0 := by simp only at hlt2; omega
          have HE := Lib.hid (show (l.take (k + 1)).drop m = (l.take k).drop m from by
            rw [List.drop_eq_nil_of_le (by rw [List.length_take]; omega), List.drop_eq_nil_of_le (by rw [List.length_take]; omega)])
          have hkk : k + 1 - m = k - m := by omega
          have HKK := Lib.hid hkk
          have HO := Lib.hid hown
          clear hp hc hz hcz hlt2 hkk hown
          go_wp2
          go_quiet (fail)
          go_wp2
          go_roundw
          case rel => exact ⟨k + 1, by omega, by go_num, by rw [HE.out, HKK.out]; exact own_new HO.out (Mod.drewN (Mod.refl _ _) _), hw.drewN _⟩
          case measure => simp [intOf]; omega
        · have hle : z0 ≤ x0 := by
            by_cases e : k = m
            · subst e; rw [hz] at hp; injection hp with hp; injection hp with h1 h2; omega
            · have := HR.out.at_lt hz hp (by omega); simp only at this; omega
          have hge : decide (x0 ≥ z0) = true := by simpa using hle
          have hge2 : decide (z0 ≤ x0) = true := by simpa using hle
          have hkk : k + 1 - m = k - m + 1 := by omega
          have HKK := Lib.hid hkk
          have HO := Lib.hid hown
          have HE := Lib.hid (take_drop_snoc (show m ≤ k by omega) hp)
          have hkm2 : k - m ≤ 1048576 := by omega
          clear hp hc hz hcz hkk hown
          go_wp2
          go_quiet (fail)
          go_wp2_with (at_builtin; refine wpList_app Tryz.sltRV rfl (.tmp 32) (.tmp 37) rfl w.heap.size _ (k - m) _ rfl ((own_new HO.out (Mod.drewN (Mod.refl _ _) _)).alloc _) ⟨wr.heap.size, 0, none⟩ 1 1 [.int .i64 x0, .string x1] rfl rfl (cells_new _ _ _) ?c1 ?c2 ?c3 ?_)
          case c1 => simp [Value.oneCell']
          case c2 => omega
          case c3 => have := hw.size; first | omega | (simp; omega)
          intro v' w4 hown4 hg4 _
          have hw4 : New w w4 := New.grown ((hw.drewN _).alloc _) ((own_new HO.out (Mod.drewN (Mod.refl _ _) _)).alloc _) (Nat.le_refl _) hg4
          have HO4 := Lib.hid hown4
          clear hg4 hown4
          go_wp2
          go_roundw
          case rel => exact ⟨k + 1, by omega, by go_num, by rw [HE.out, HKK.out, cellsL_append, cellsL_one]; exact HO4.out, hw4⟩
          case measure => simp [intOf]; omega
      · obtain rfl : k = n := by omega
        rw [List.take_of_length_le (by have := HL.out; omega)] at hown
        obtain ⟨OA, oc, rfl⟩ := own_shape hown
        have hsub : (k : Int) - ((k - m : Nat) : Int) = (m : Int) := by omega
        have HPL := Lib.hid (show pruneV l x = l.drop m from by unfold pruneV; rw [HG.out]; rfl)
        have HLN := Lib.hid (show (l.drop m).length = k - m from by rw [List.length_drop, HL.out])
        have HO := Lib.hid hown
        clear hown
        go_wp2
        go_ret2
        exact ⟨_, by rw [HG.out]; rfl, hw, fun _ => by rw [HPL.out, HLN.out]; exact HO.out⟩
end Go.Proofs.YtfifalopbfopnaaGreatDoor
