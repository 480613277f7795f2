/- Walks: the document's Pool. -/
import Derived.Test.YtkkaejbdekdljaaDoorKLegs
import Derived.Test.YtkkaejbdekdljaaDoorWh
import Derived.Test.YtkkaejbdekdljaaDoorPc
import Derived.RegionTactic
set_option linter.unusedVariables false
set_option linter.unusedSimpArgs false
namespace Go.Proofs.YtkkaejbdekdljaaDoor
open Go.RowKit

/-- What the document's Pool answers. -/
def RefPoolPost (w : World) (R : Int × List Leg5) (e : Ending) (w' : World) : Prop :=
  ∃ v, e = .returned (.tuple #[v, .int .i64 (poolEnd R).1]) ∧ w'.ownsRow w.heap.size 84 5 v (poolEnd R).2.length (cellsL encLegs (poolEnd R).2) ∧ New w w'
theorem refPool_bad {w : World} {R : Int × List Leg5} {a : Int} (h : poolEnd R = (a, [])) : ∀ w', New w w' → RefPoolPost w R (.returned (.tuple #[.slice none 0 0, .int .i64 a])) w' := fun w' hw =>
  ⟨_, by rw [h], by rw [h]; exact own_nil _ _ _ _, hw⟩
theorem refPool_good {w w' : World} {R : Int × List Leg5} {out : List Leg5} {v : Value} (h : poolEnd R = (0, out)) (hw : New w w') (hv : w'.ownsRow w.heap.size 84 5 v out.length (cellsL encLegs out)) : RefPoolPost w R (.returned (.tuple #[v, .int .i64 0])) w' :=
  ⟨_, by rw [h], by rw [h]; exact hv, hw⟩

set_option maxRecDepth 100000 in
set_option maxHeartbeats 4000000 in
theorem refPool_any (A : Option Addr) (n c : Nat) (vs : List Value) (ls : List (List Leg5)) (w : World) (hl : Nest encLegs 5 w A n vs ls) (hT : ls.flatten.length ≤ 3000) (hQ : ∀ (i k : Nat) (l : List Leg5) (x : Leg5), ls[i]? = some l → l[k]? = some x → legQty x ≤ 9223372036854775807) :
    Calls Tryd.prog 19 #[.slice A n c] w (RefPoolPost w (poolRun [] ls.flatten)) := by
  have hn := hl.outer.le
  have HLEN := Lib.hid hl.len
  have HT := Lib.hid hT
  have HQ := Lib.hid hQ
  obtain ⟨R, hR⟩ : ∃ R, poolRun [] ls.flatten = R := ⟨_, rfl⟩
  rw [hR]
  have HR := Lib.hid hR
  clear hT hQ hR
  go_enter Tryd.func19, Tryd.ntmps19
  go_wp2
  go_loopw [4, 5] (fun v i wr => ∃ (i' : Nat) (out : List Leg5), i' ≤ n ∧ i = .int .i64 (i' : Int) ∧ wr.ownsRow w.heap.size 84 5 v out.length (cellsL encLegs out) ∧ poolRun out (ls.drop i').flatten = R ∧ QtyOk out ∧ out.length + (ls.drop i').flatten.length ≤ 3000 ∧ New w wr) (fun _ i _ => n - (intOf i).toNat)
  case atStart => exact ⟨0, [], Nat.zero_le _, rfl, own_nil _ _ _ _, HR.out, QtyOk.nil, by simpa using HT.out, Mod.refl _ _⟩
  case round =>
    obtain ⟨i, out, hi, rfl, hown, hrun, hqo, hlen, hw⟩ := hrel
    have HRUN := Lib.hid hrun
    have HQO := Lib.hid hqo
    have HLN := Lib.hid hlen
    clear hrun hqo hlen
    by_cases hlt : i < n
    · obtain ⟨b, off, RA, rc, l, rfl, hli, hci, hsl, _⟩ := (hl.new_ hw).at_ hlt
      have hll := hsl.le
      have hR0 : poolRun out (l.drop 0 ++ (ls.drop (i + 1)).flatten) = R := by rw [List.drop_zero, ← left_outer hli]; exact HRUN.out
      have hL0 : out.length + (l.drop 0 ++ (ls.drop (i + 1)).flatten).length ≤ 3000 := by rw [List.drop_zero, ← left_outer hli]; exact HLN.out
      have HR0 := Lib.hid hR0
      have HL0 := Lib.hid hL0
      have HLI := Lib.hid hli
      clear hR0 hL0 hli
      obtain ⟨wo, rfl⟩ : ∃ wo : World, wo = wr := ⟨_, rfl⟩
      obtain ⟨out0, rfl⟩ : ∃ o, o = out := ⟨_, rfl⟩
      go_wp2
      go_loopw [4, 6] (fun v k wr => ∃ (k' : Nat) (out : List Leg5), k' ≤ l.length ∧ k = .int .i64 (k' : Int) ∧ wr.ownsRow w.heap.size 84 5 v out.length (cellsL encLegs out) ∧ poolRun out (l.drop k' ++ (ls.drop (i + 1)).flatten) = R ∧ QtyOk out ∧ out.length + (l.drop k' ++ (ls.drop (i + 1)).flatten).length ≤ 3000 ∧ New w wr) (fun _ k _ => l.length - (intOf k).toNat)
      case atStart => exact ⟨0, out0, Nat.zero_le _, rfl, hown, HR0.out, HQO.out, HL0.out, hw⟩
      case round =>
        obtain ⟨k, out, hk, rfl, hown, hrun, hqo, hlen, hw2⟩ := hrel
        have HRUN := Lib.hid hrun
        have HQO := Lib.hid hqo
        have HLN := Lib.hid hlen
        clear hrun hqo hlen
        obtain ⟨b1, off1, RA1, rc1, l1, he1, hli1, hci, hsl, _⟩ := (hl.new_ hw2).at_ hlt
        injection he1 with he1
        injection he1 with he1 he2
        subst he1 he2
        rw [HLI.out] at hli1
        injection hli1 with hli1
        subst hli1
        by_cases hkl : k < l.length
        · obtain ⟨xb, xo, ⟨x0, x1, x2, x3, x4⟩, rfl, hx, hxc⟩ := hsl.elem encLegs_len (by decide) hkl
          have c0 := hxc 0 _ rfl
          have c1 := hxc 1 _ rfl
          have c2 := hxc 2 _ rfl
          have c3 := hxc 3 _ rfl
          have c4 := hxc 4 _ rfl
          simp only [Nat.add_zero] at c0
          have hxq := HQ.out i k l _ HLI.out hx
          simp only [legQty] at hxq
          have HX := Lib.hid hx
          have hr1 : poolRun out ((x0, x1, x2, x3, x4) :: (l.drop (k + 1) ++ (ls.drop (i + 1)).flatten)) = R := by
            have := HRUN.out
            rw [left_inner hx] at this
            exact this
          have hl1 : out.length + 1 + (l.drop (k + 1) ++ (ls.drop (i + 1)).flatten).length ≤ 3000 := by
            have := HLN.out
            rw [left_inner hx] at this
            simp at this ⊢
            omega
          have HR1 := Lib.hid hr1
          have HL1 := Lib.hid hl1
          clear hx hxc hr1 hl1
          by_cases hq1 : x3 < 1
          · have HB := Lib.hid (refPool_bad (w := w) (R := R) (a := 16) (by rw [← HR1.out, poolRun_bad (by simpa [legQty] using hq1)]; rfl))
            go_wp2
            go_ret2
            exact HB.out _ (hw2.alloc _)
          · obtain ⟨OA, oc, rfl⟩ := own_shape hown
            have hbx := Blk.new wr 84 [.int .i64 x0, .int .i64 x1, .int .i64 x2, .int .i64 x3, .int .i64 x4]
            have HBX := Lib.hid hbx
            clear hbx
            obtain ⟨wl, rfl⟩ : ∃ wl : World, wl = wr := ⟨_, rfl⟩
            have hown1 := hown.alloc (.cells #[.int .i64 x0, .int .i64 x1, .int .i64 x2, .int .i64 x3, .int .i64 x4] 84)
            have holn := own_le hown
            go_wp2
            go_loopw [8, 9] (fun at' j wb => ∃ (j' : Nat) (q : Int), j' ≤ out.length ∧ j = .int .i64 (j' : Int) ∧ at' = .int .i64 q ∧ q = idxInt (lastN out (legKey (x0, x1, x2, x3, x4)) j') ∧ New (wl.alloc (.cells #[.int .i64 x0, .int .i64 x1, .int .i64 x2, .int .i64 x3, .int .i64 x4] 84)) wb) (fun _ j _ => out.length - (intOf j).toNat)
            case atStart => exact ⟨0, -1, Nat.zero_le _, rfl, rfl, rfl, Mod.refl _ _⟩
            case round =>
              obtain ⟨j, q, hj, rfl, rfl, hq, hwb⟩ := hrel
              have hbx := HBX.out.new_ hwb
              have e0 := hbx.cell 0
              have e1 := hbx.cell 1
              have e2 := hbx.cell 2
              have e3 := hbx.cell 3
              have e4 := hbx.cell 4
              simp only [List.getElem?_cons_zero, List.getElem?_cons_succ] at e0 e1 e2 e3 e4
              have hbl := hbx.lt
              have hown2 := own_new hown1 hwb
              have hwl := hwb.size
              simp at hwl
              clear hbx
              by_cases hjl : j < out.length
              · obtain ⟨yb, yo, ⟨y0, y1, y2, y3, y4⟩, rfl, hy, hyc⟩ := (own_sl hown2).elem encLegs_len (by decide) hjl
                have d0 := hyc 0 _ rfl
                have d1 := hyc 1 _ rfl
                have d2 := hyc 2 _ rfl
                have d3 := hyc 3 _ rfl
                have d4 := hyc 4 _ rfl
                simp only [Nat.add_zero] at d0
                have HY := Lib.hid hy
                clear hy hyc
                by_cases hall : y0 = x0 ∧ y1 = x1 ∧ y2 = x2 ∧ y4 = x4
                · obtain ⟨rfl, rfl, rfl, rfl⟩ := hall
                  have HH := Lib.hid (lastN_hit HY.out (show legKey (y0, y1, y2, y3, y4) = legKey (y0, y1, y2, x3, y4) from rfl))
                  go_wp2
                  go_roundw
                  case rel => exact ⟨j + 1, j, by omega, by go_num, rfl, by rw [HH.out]; rfl, by first | exact hwb.alloc _ | exact (hwb.alloc _).set_ (by simp) _⟩
                  case measure => simp [intOf]; omega
                · have HH := Lib.hid (lastN_miss (k := legKey (x0, x1, x2, x3, x4)) HY.out (by simp only [legKey]; intro h; injection h with h1 h; injection h with h2 h; injection h with h3 h; injection h with _ h; exact hall ⟨h1, h2, h3, h⟩))
                  have HQ2 := Lib.hid hq
                  clear hq
                  have hcs : ((y0 == x0) = false) ∨ ((y0 == x0) = true ∧ (y1 == x1) = false) ∨ ((y0 == x0) = true ∧ (y1 == x1) = true ∧ (y2 == x2) = false) ∨ ((y0 == x0) = true ∧ (y1 == x1) = true ∧ (y2 == x2) = true ∧ (y4 == x4) = false) := by
                    simp only [beq_eq_false_iff_ne, beq_iff_eq, ne_eq]
                    by_cases h0 : y0 = x0 <;> by_cases h1 : y1 = x1 <;> by_cases h2 : y2 = x2 <;> simp_all
                  clear hall
                  rcases hcs with g0 | ⟨g0, g1⟩ | ⟨g0, g1, g2⟩ | ⟨g0, g1, g2, g3⟩
                  all_goals
                    go_wp2
                    go_roundw
                    case rel => exact ⟨j + 1, q, by omega, by go_num, rfl, by rw [HH.out]; exact HQ2.out, by first | exact hwb.alloc _ | exact (hwb.alloc _).set_ (by simp) _⟩
                    case measure => simp [intOf]; omega
              · obtain rfl : j = out.length := by omega
                have hw3 : New w wr := New.trans (hw2.alloc _) hwb
                cases hli : lastIdx out (legKey (x0, x1, x2, x3, x4)) with
                | none =>
                  obtain rfl : q = -1 := by rw [hq]; show idxInt (lastIdx _ _) = _; rw [hli]; rfl
                  have HN := Lib.hid (show poolRun (out ++ [(x0, x1, x2, x3, x4)]) (l.drop (k + 1) ++ (ls.drop (i + 1)).flatten) = R by rw [← HR1.out, poolRun_new (by simpa [legQty] using hq1) hli])
                  clear hli hq
                  go_wp2_with (at_builtin; go_must (refine wpList_app Tryd.sltLegs rfl (.tmp 55) (.tmp 57) rfl w.heap.size _ out.length _ rfl (hown2.alloc _) ⟨wr.heap.size, 0, none⟩ 1 1 [.int .i64 x0, .int .i64 x1, .int .i64 x2, .int .i64 x3, .int .i64 x4] rfl rfl (cells_new _ _ _) ?c1 ?c2 ?c3 ?_))
                  case c1 => simp [Value.oneCell']
                  case c2 => have := HL1.out; omega
                  case c3 => simp; have := hw3.size; omega
                  intro v' w4 hown4 hg4 _
                  have hw4 : New w w4 := New.grown (hw3.alloc _) (hown2.alloc _) (Nat.le_refl _) hg4
                  clear hg4
                  go_wp2
                  go_roundw
                  case rel => exact ⟨k + 1, out ++ [(x0, x1, x2, x3, x4)], by omega, by go_num, by rw [cellsL_append, cellsL_one, List.length_append]; exact hown4, HN.out, HQO.out.snoc (by simp only [legQty]; omega) (by simp only [legQty]; omega), by simp; have := HL1.out; simp at this; omega, hw4⟩
                  case measure => simp [intOf]; omega
                | some z =>
                  obtain ⟨⟨y0, y1, y2, y3, y4⟩, hzl, hy, hyk⟩ := lastIdx_at hli
                  obtain rfl : q = z := by rw [hq]; show idxInt (lastIdx _ _) = _; rw [hli]; rfl
                  obtain ⟨g, rfl, hgB, hgl⟩ : ∃ g, OA = some ⟨g, 0, none⟩ ∧ w.heap.size ≤ g ∧ g < wl.heap.size := by
                    obtain ⟨g, cap, hv, h1, h2⟩ := hown.form (by omega)
                    injection hv with hv
                    exact ⟨g, hv, h1, h2⟩
                  have d3 := own_at encLegs_len hown2 hy 3 _ rfl
                  have f3 := hown2.frozenAt (z * 5 + 3)
                  have hyq := HQO.out z _ hy
                  simp only [legQty] at hyq
                  have HY := Lib.hid hy
                  have HZ := Lib.hid hli
                  have hgr : g < wr.heap.size := by omega
                  clear hq hli hy hyk
                  by_cases hov : 9223372036854775807 - x3 < y3
                  · have HB := Lib.hid (refPool_bad (w := w) (R := R) (a := 9) (by rw [← HR1.out, poolRun_over (by simpa [legQty] using hq1) HZ.out HY.out (by simpa [legQty] using hov)]; rfl))
                    go_wp2
                    go_quiet (fail)
                    go_wp2
                    go_ret2
                    exact HB.out _ (hw3.drewN _)
                  · have HN := Lib.hid (show poolRun (out.set z (y0, y1, y2, y3 + x3, y4)) (l.drop (k + 1) ++ (ls.drop (i + 1)).flatten) = R by rw [← HR1.out, poolRun_add (by simpa [legQty] using hq1) HZ.out HY.out (by simpa [legQty] using hov)]; rfl)
                    have HO2 := Lib.hid hown2
                    have hgx : g ≠ wl.heap.size := by omega
                    clear hown2
                    go_wp2
                    go_quiet (fail)
                    go_wp2
                    go_region
                    all_goals
                      go_wp2
                      go_roundw
                      case rel => exact ⟨k + 1, out.set z (y0, y1, y2, y3 + x3, y4), by omega, by go_num, by
                        have h1 := (HO2.out.stored (z * 5 + 3) (.int .i64 (y3 + x3))).1
                        rw [cellsL_set encLegs_len out z 3 _ (y0, y1, y2, y3 + x3, y4) HY.out (by decide) _ rfl] at h1
                        rw [List.length_set]
                        exact h1, HN.out, HQO.out.set (by simp only [legQty]; omega) (by simp only [legQty]; omega), by rw [List.length_set]; have := HL1.out; omega, (hw3.set_ (fun h => by simp only at h; omega) _).drewN _⟩
                      case measure => simp [intOf]; omega
        · obtain rfl : k = l.length := by omega
          have hrun2 : poolRun out (ls.drop (i + 1)).flatten = R := by have := HRUN.out; rwa [List.drop_length, List.nil_append] at this
          have hlen2 : out.length + (ls.drop (i + 1)).flatten.length ≤ 3000 := by have := HLN.out; rwa [List.drop_length, List.nil_append] at this
          have HR2 := Lib.hid hrun2
          have HL2 := Lib.hid hlen2
          clear hrun2 hlen2
          go_wp2
          go_roundw
          case rel => exact ⟨i + 1, out, by omega, by go_num, hown, HR2.out, HQO.out, HL2.out, hw2⟩
          case measure => simp [intOf]; omega
    · obtain rfl : i = n := by omega
      obtain ⟨OA, oc, rfl⟩ := own_shape hown
      have hend : R = (0, out) := by
        rw [← HRUN.out, List.drop_of_length_le (by have := HLEN.out; omega)]; rfl
      have HE := Lib.hid hend
      have holn : out.length ≤ 3000 := by have := HLN.out; omega
      clear hend
      by_cases h0 : out.length = 0
      · have HB := Lib.hid (refPool_bad (w := w) (R := R) (a := 2) (by rw [HE.out]; simp [poolEnd, h0]))
        have hd : ((out.length : Int) == 0) = true := by simp [h0]
        go_wp2
        go_ret2
        exact HB.out _ hw
      · have hd : ((out.length : Int) == 0) = false := by simpa using h0
        by_cases h4 : 4 < out.length
        · have HB := Lib.hid (refPool_bad (w := w) (R := R) (a := 5) (by rw [HE.out]; unfold poolEnd; rw [if_neg (by simp), if_neg h0]; first | rw [if_pos h4] | rw [if_neg h4]))
          go_wp2
          go_ret2
          exact HB.out _ hw
        · have hfin : poolEnd R = (0, out) := by rw [HE.out]; unfold poolEnd; rw [if_neg (by simp), if_neg h0]; first | rw [if_pos h4] | rw [if_neg h4]
          have HF := Lib.hid hfin
          clear hfin
          go_wp2
          go_ret2
          exact refPool_good HF.out hw hown
end Go.Proofs.YtkkaejbdekdljaaDoor
