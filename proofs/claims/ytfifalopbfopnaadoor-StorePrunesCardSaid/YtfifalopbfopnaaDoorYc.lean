/- Walks: sees. -/
import Derived.Test.YtfifalopbfopnaaDoorYb
import Derived.Deep.RegionHeld3
import Derived.IntWalk
set_option linter.unusedVariables false
set_option linter.unusedSimpArgs false
namespace Go.Proofs.YtfifalopbfopnaaDoor
open Go.RowKit

theorem three_kept {w0 w w' : World} {p q r : Addr} {x y z : Value} (h : (w.cell? p = some x ∧ w.cell? q = some y ∧ w.cell? r = some z) ∧ New w0 w) (hm : New w w') : (w'.cell? p = some x ∧ w'.cell? q = some y ∧ w'.cell? r = some z) ∧ New w0 w' :=
  ⟨⟨hm.cell h.1.1 (fun h => h), hm.cell h.1.2.1 (fun h => h), hm.cell h.1.2.2 (fun h => h)⟩, New.trans h.2 hm⟩
set_option maxRecDepth 100000 in
set_option maxHeartbeats 2000000 in
theorem sees_any (X Y : Lay) (N : Nat) (s t : StS) (A : Option Addr) (n cap : Nat) (cs : List CallV) (o : Int) (w : World) (hx : StoreAt w X N s) (hy : StoreAt w Y N t) (hs : Sl w A n 6 (cellsL encCall cs)) (hok : ∀ c ∈ cs, CallOk c)
    (heq : ∀ k m, o ≤ m → atV (rowOf s.rows k) m = atV (rowOf t.rows k) m) :
    Calls Tryd.prog 11 #[.pointer (some ⟨X.s, 0, none⟩), .pointer (some ⟨Y.s, 0, none⟩), .slice A n cap, .int .i64 o] w fun e w' => e = .returned (.bool true) ∧ New w w' := by
  have hn := hs.le
  have HSL := Lib.hid hs
  have HOK := Lib.hid hok
  have HX := Lib.hid hx
  have HY := Lib.hid hy
  have HEQ := Lib.hid heq
  clear hs hok hx hy heq
  go_enter Tryd.func11, Tryd.ntmps11
  go_wp2
  go_loopw [9] (fun i wr => ∃ k : Nat, k ≤ n ∧ i = .int .i64 k ∧ New w wr) (fun i _ => n - (intOf i).toNat)
  case atStart => exact ⟨0, Nat.zero_le _, rfl, Mod.refl _ _⟩
  case round =>
    obtain ⟨i, hi, rfl, hw⟩ := hrel
    by_cases hlt : i < n
    · obtain ⟨cb, off, c, rfl, hc, hcc⟩ := (HSL.out.new_ hw).elem encCall_len (by decide) hlt
      have hcok := HOK.out c (List.mem_of_getElem? hc)
      have HCOK := Lib.hid hcok
      have k2 := hcc 2 _ rfl
      have k3 := hcc 3 _ rfl
      have k4 := hcc 4 _ rfl
      obtain ⟨on, kind, ⟨c1, c2⟩, cn, cv⟩ := c
      dsimp only at k2 k3 k4
      clear hcc hc hcok
      have hk := HCOK.out.1
      have HKEY := Lib.hid hk
      have hb1 := Blk.new wr 27 [.int .i64 c1, .int .i64 c2]
      have HB1 := Lib.hid hb1
      have k4' : (wr.alloc (.cells #[.int .i64 c1, .int .i64 c2] 27)).cell? ⟨cb, off + i * 6 + 4, none⟩ = some (.int .i64 cn) := (show New wr _ from (Mod.refl _ wr).alloc _).cell k4 (fun h => h)
      clear hk hb1
      go_wp2
      obtain ⟨wo, hwo⟩ : ∃ wo, ((wr.alloc (.cells #[.int .i64 c1, .int .i64 c2] 27)).alloc (.cells #[.int .i64 o, .int .i64 (wrap64 (o + 1)), .int .i64 (wrap64 (o + 7)), .int .i64 cn, .int .i64 9223372036854775807] 3)) = wo := ⟨_, rfl⟩
      have hb2 := Blk.new (wr.alloc (.cells #[.int .i64 c1, .int .i64 c2] 27)) 3 [.int .i64 o, .int .i64 (wrap64 (o + 1)), .int .i64 (wrap64 (o + 7)), .int .i64 cn, .int .i64 9223372036854775807]
      simp only [World.size_alloc] at hb2
      have hwn : New wr wo := by rw [← hwo]; exact ((Mod.refl _ wr).alloc _).alloc _
      have HB1 := Lib.hid (show Blk wo wr.heap.size 27 [.int .i64 c1, .int .i64 c2] from by rw [← hwo]; exact HB1.out.new_ ((Mod.refl _ _).alloc _))
      have HB2 := Lib.hid (show Blk wo (wr.heap.size + 1) 3 [.int .i64 o, .int .i64 (wrap64 (o + 1)), .int .i64 (wrap64 (o + 7)), .int .i64 cn, .int .i64 9223372036854775807] from by rw [← hwo]; exact hb2)
      have hno : New w wo := New.trans hw hwn
      clear hb2 hwn k2 k3 k4 k4'
      rw [hwo]
      obtain ⟨g, hg⟩ : ∃ g, wr.heap.size = g := ⟨_, rfl⟩
      rw [hg] at HB1 HB2 ⊢
      clear hwo hg
      go_loopw [12] (fun j wk => ∃ k : Nat, k ≤ 5 ∧ j = .int .i64 k ∧ New wo wk) (fun j _ => 5 - (intOf j).toNat)
      case atStart => exact ⟨0, Nat.zero_le _, rfl, Mod.refl _ _⟩
      case round =>
        obtain ⟨j, hj, rfl, hwk⟩ := hrel
        by_cases hj5 : j < 5
        · have hcell : ∃ m, wr.cell? ⟨g + 1, j, none⟩ = some (.int .i64 m) := by
            have h := (HB2.out.new_ hwk).cell j
            rcases (show j = 0 ∨ j = 1 ∨ j = 2 ∨ j = 3 ∨ j = 4 by omega) with rfl | rfl | rfl | rfl | rfl <;> exact ⟨_, h⟩
          obtain ⟨m, hm⟩ := hcell
          by_cases hlow : m < o
          · go_wp2
            go_roundw
            case rel => exact ⟨j + 1, by omega, by go_num, hwk⟩
            case measure => simp [intOf]; omega
          · have hb1 := HB1.out.new_ hwk
            have r0 := hb1.cell 0
            have r1 := hb1.cell 1
            simp only [List.getElem?_cons_zero, List.getElem?_cons_succ] at r0 r1
            have hX := HX.out.new_ (New.trans hno hwk)
            have hY := HY.out.new_ (New.trans hno hwk)
            have HXA := Lib.hid (fun W (hW : New wr W) => storeAt_any X N s (c1, c2) m W (hX.new_ hW) HKEY.out)
            have HYA := Lib.hid (fun W (hW : New wr W) => storeAt_any Y N t (c1, c2) m W (hY.new_ hW) HKEY.out)
            rw [HEQ.out (c1, c2) m (by omega)] at HXA
            obtain ⟨ans, hans⟩ : ∃ ans, atV (rowOf t.rows (c1, c2)) m = ans := ⟨_, rfl⟩
            rw [hans] at HXA HYA
            have z1 : (0 : Int) ≤ (j : Int) := by omega
            have z2 : (j : Int) < 5 := by omega
            clear hb1 hX hY hans
            cases ans
            all_goals
              dsimp only [ansV] at HXA HYA
              go_wp2
              go_region_held3 (fun w' => (w'.cell? ⟨g, 0, none⟩ = some (.int .i64 c1) ∧ w'.cell? ⟨g, 1, none⟩ = some (.int .i64 c2) ∧ w'.cell? ⟨g + 1, j, none⟩ = some (.int .i64 m)) ∧ New wr w') ((first | exact ⟨⟨‹_›, ‹_›, ‹_›⟩, (Mod.refl _ _).drew⟩ | (refine three_kept ?_ hwx; assumption) | assumption)) ((go_at_call 19; refine (HXA.out _ (And.right (by assumption))).mono ?_; rintro e wx ⟨rfl, hwx⟩))
              all_goals
                obtain ⟨⟨a0, a1, a2⟩, hn1⟩ := ‹(_ ∧ _ ∧ _) ∧ New wr _›
                have HN1 := Lib.hid hn1
                clear r0 r1 hm hn1
                go_wp2
                go_region_held3 (fun w' => (w'.cell? ⟨g, 0, none⟩ = some (.int .i64 c1) ∧ w'.cell? ⟨g, 1, none⟩ = some (.int .i64 c2) ∧ w'.cell? ⟨g + 1, j, none⟩ = some (.int .i64 m)) ∧ New wr w') ((first | exact ⟨⟨‹_›, ‹_›, ‹_›⟩, HN1.out.drew⟩ | (refine three_kept ?_ hwy; assumption) | assumption)) ((go_at_call 19; refine (HYA.out _ (And.right (by assumption))).mono ?_; rintro e wy ⟨rfl, hwy⟩))
                all_goals
                  obtain ⟨⟨b0, b1, b2⟩, hn2⟩ := ‹(_ ∧ _ ∧ _) ∧ New wr _›
                  clear b0 b1 b2
                  go_wp2
                  go_roundw
                  case rel => exact ⟨j + 1, by omega, by go_num, New.trans hwk hn2⟩
                  case measure => simp [intOf]; omega
        · go_wp2
          go_roundw
          case rel => exact ⟨i + 1, by omega, by go_num, New.trans hno hwk⟩
          case measure => simp [intOf]; omega
    · go_wp2
      go_ret
      exact ⟨rfl, hw⟩
end Go.Proofs.YtfifalopbfopnaaDoor
