/- Walks: links.Pool. -/
import Derived.Test.YtkkaejbdekdljaaDoorMb
import Derived.Test.YtkkaejbdekdljaaDoorWh
import Derived.Test.YtkkaejbdekdljaaDoorLf
import Derived.RegionTactic
set_option linter.unusedVariables false
set_option linter.unusedSimpArgs false
namespace Go.Proofs.YtkkaejbdekdljaaDoor
open Go.RowKit Go.Maps

/-- A plain error of this number (0: none). -/
def PlainIs (v : Value) (a : Int) : Prop := (a = 0 ∧ v = .nilIface) ∨ (1 ≤ a ∧ a ≤ 24 ∧ Er v a none)
/-- What Pool answers. -/
def PoolPost (w : World) (R : Int × List Leg5) (e : Ending) (w' : World) : Prop :=
  ∃ v ev, e = .returned (.tuple #[v, ev]) ∧ PlainIs ev (poolEnd R).1 ∧ w'.ownsRow w.heap.size 84 5 v (poolEnd R).2.length (cellsL encLegs (poolEnd R).2) ∧ New w w'
theorem pool_bad {w : World} {R : Int × List Leg5} {a : Int} {ev : Value} (h : poolEnd R = (a, [])) (he : PlainIs ev a) : ∀ w', New w w' → PoolPost w R (.returned (.tuple #[.slice none 0 0, ev])) w' := fun w' hw =>
  ⟨_, _, rfl, by rw [h]; exact he, by rw [h]; exact own_nil _ _ _ _, hw⟩
theorem pool_good {w w' : World} {R : Int × List Leg5} {out : List Leg5} {v : Value} (h : poolEnd R = (0, out)) (hw : New w w') (hv : w'.ownsRow w.heap.size 84 5 v out.length (cellsL encLegs out)) : PoolPost w R (.returned (.tuple #[v, .nilIface])) w' :=
  ⟨_, _, rfl, by rw [h]; exact .inl ⟨rfl, rfl⟩, by rw [h]; exact hv, hw⟩
def placeOf (out : List Leg5) : Leg5 → Option Int := fun k => (lastIdx out k).map fun i => (i : Int)
theorem placeOf_snoc (out : List Leg5) (x : Leg5) : upd (placeOf out) (legKey x) (out.length : Int) = placeOf (out ++ [x]) := by
  funext k
  simp only [upd, placeOf, lastIdx_snoc]
  by_cases h : k = legKey x
  · rw [if_pos h, if_pos h.symm]; rfl
  · rw [if_neg h, if_neg (fun e => h e.symm)]
theorem placeOf_set {out : List Leg5} {i : Nat} {y z : Leg5} (h : out[i]? = some y) (hk : legKey z = legKey y) : placeOf (out.set i z) = placeOf out := by
  funext k
  simp only [placeOf, lastIdx_set h hk]

set_option maxRecDepth 100000 in
set_option maxHeartbeats 4000000 in
theorem linksPool_any (A : Option Addr) (n c : Nat) (vs : List Value) (ls : List (List Leg5)) (w : World) (hl : Nest encLegs 5 w A n vs ls) (hT : ls.flatten.length ≤ 3000) (hQ : ∀ (i k : Nat) (l : List Leg5) (x : Leg5), ls[i]? = some l → l[k]? = some x → LegWf x) :
    Calls Tryd.prog 21 #[.slice A n c] w (PoolPost w (poolRun [] ls.flatten)) := by
  have hn := hl.outer.le
  have HLEN := Lib.hid hl.len
  have HT := Lib.hid hT
  have HQ := Lib.hid hQ
  obtain ⟨R, hR⟩ : ∃ R, poolRun [] ls.flatten = R := ⟨_, rfl⟩
  rw [hR]
  have HR := Lib.hid hR
  clear hT hQ hR
  have hmm := @run_makeMap Tryd.prog
  go_enter Tryd.func21, Tryd.ntmps21
  go_wp2
  go_loopw [4, 15] (fun v i wr => ∃ (i' : Nat) (out : List Leg5), i' ≤ n ∧ i = .int .i64 (i' : Int) ∧ wr.ownsRow w.heap.size 84 5 v out.length (cellsL encLegs out) ∧ MapOf 84 legVal wr w.heap.size out.length (placeOf out) ∧ poolRun out (ls.drop i').flatten = R ∧ QtyOk out ∧ out.length + (ls.drop i').flatten.length ≤ 3000 ∧ New w wr) (fun _ i _ => n - (intOf i).toNat)
  case atStart => exact ⟨0, [], Nat.zero_le _, rfl, own_nil _ _ _ _, MapOf.made w _ _, HR.out, QtyOk.nil, by simpa using HT.out, (Mod.refl _ _).alloc _⟩
  case round =>
    obtain ⟨i, out, hi, rfl, hown, hmap, hrun, hqo, hlen, hw⟩ := hrel
    have HRUN := Lib.hid hrun
    have HQO := Lib.hid hqo
    have HLN := Lib.hid hlen
    have HM := Lib.hid hmap
    clear hrun hqo hlen hmap
    by_cases hlt : i < n
    · obtain ⟨b, off, RA, rc, l, rfl, hli, hci, hsl, hvv⟩ := (hl.new_ hw).at_ hlt
      have hll := hsl.le
      have hR0 : poolRun out (l.drop 0 ++ (ls.drop (i + 1)).flatten) = R := by rw [List.drop_zero, ← left_outer hli]; exact HRUN.out
      have hL0 : out.length + (l.drop 0 ++ (ls.drop (i + 1)).flatten).length ≤ 3000 := by rw [List.drop_zero, ← left_outer hli]; exact HLN.out
      have HR0 := Lib.hid hR0
      have HL0 := Lib.hid hL0
      have HLI := Lib.hid hli
      have HVV := Lib.hid hvv
      clear hR0 hL0 hli hvv
      obtain ⟨wo, rfl⟩ : ∃ wo : World, wo = wr := ⟨_, rfl⟩
      obtain ⟨out0, rfl⟩ : ∃ o, o = out := ⟨_, rfl⟩
      go_wp2
      go_loopw [4, 23] (fun v k wr => ∃ (k' : Nat) (out : List Leg5), k' ≤ l.length ∧ k = .int .i64 (k' : Int) ∧ wr.ownsRow w.heap.size 84 5 v out.length (cellsL encLegs out) ∧ MapOf 84 legVal wr w.heap.size out.length (placeOf out) ∧ poolRun out (l.drop k' ++ (ls.drop (i + 1)).flatten) = R ∧ QtyOk out ∧ out.length + (l.drop k' ++ (ls.drop (i + 1)).flatten).length ≤ 3000 ∧ New w wr) (fun _ k _ => l.length - (intOf k).toNat)
      case atStart => exact ⟨0, out0, Nat.zero_le _, rfl, hown, HM.out, HR0.out, HQO.out, HL0.out, hw⟩
      case round =>
        obtain ⟨k, out, hk, rfl, hown, hmap, hrun, hqo, hlen, hw2⟩ := hrel
        have HRUN := Lib.hid hrun
        have HQO := Lib.hid hqo
        have HLN := Lib.hid hlen
        have HM := Lib.hid hmap
        clear hrun hqo hlen hmap
        obtain ⟨b1, off1, RA1, rc1, l1, he1, hli1, _, hsl, hvv1⟩ := (hl.new_ hw2).at_ hlt
        rw [HLI.out] at hli1
        injection hli1 with hli1
        subst hli1
        rw [HVV.out] at hvv1
        injection hvv1 with hvv1
        injection hvv1 with q1 q2 q3
        subst q1 q3
        clear he1 q2
        by_cases hkl : k < l.length
        · obtain ⟨xb, xo, ⟨x0, x1, x2, x3, x4⟩, rfl, hx, hxc⟩ := hsl.elem encLegs_len (by decide) hkl
          have c0 := hxc 0 _ rfl
          have c1 := hxc 1 _ rfl
          have c2 := hxc 2 _ rfl
          have c3 := hxc 3 _ rfl
          have c4 := hxc 4 _ rfl
          simp only [Nat.add_zero] at c0
          have hwf := HQ.out i k l _ HLI.out hx
          have hxq := hwf.qty
          simp only [legQty] at hxq
          obtain ⟨kl, hkey⟩ := Tryd.keyOfLeg hwf.key
          have HX := Lib.hid hx
          have hr1 : poolRun out ((x0, x1, x2, x3, x4) :: (l.drop (k + 1) ++ (ls.drop (i + 1)).flatten)) = R := by
            have := HRUN.out
            rw [left_inner hx] at this
            exact this
          have hl1 : out.length + 1 + (l.drop (k + 1) ++ (ls.drop (i + 1)).flatten).length ≤ 3000 := by
            have := HLN.out
            rw [left_inner hx] at this
            simp at this ⊢
            omega
          have HR1 := Lib.hid hr1
          have HL1 := Lib.hid hl1
          clear hx hxc hr1 hl1 hwf
          by_cases hq1 : x3 < 1
          · have HB := Lib.hid (pool_bad (w := w) (R := R) (a := 16) (by rw [← HR1.out, poolRun_bad (by simpa [legQty] using hq1)]; rfl) (.inr ⟨by omega, by omega, .ref 16⟩))
            go_wp2
            go_ret2
            exact HB.out _ (hw2.alloc _)
          · obtain ⟨OA, oc, rfl⟩ := own_shape hown
            have holn : out.length ≤ 3000 := by have := HL1.out; omega
            cases hli : lastIdx out (legKey (x0, x1, x2, x3, x4)) with
            | none =>
              have HN := Lib.hid (show poolRun (out ++ [(x0, x1, x2, x3, x4)]) (l.drop (k + 1) ++ (ls.drop (i + 1)).flatten) = R by rw [← HR1.out, poolRun_new (by simpa [legQty] using hq1) hli])
              have HF := Lib.hid (show placeOf out (legKey (x0, x1, x2, x3, x4)) = none by simp [placeOf, hli])
              have HK := Lib.hid hkey
              clear hli hkey
              have hmlt := HM.out.lt
              have hmw := HM.out.new_ ((Mod.refl (fun _ => False) wr).alloc (.cells #[.int .i64 x0, .int .i64 x1, .int .i64 x2, .int .i64 0, .int .i64 x4] 84))
              have HMW := Lib.hid hmw
              have hbn := Blk.new wr 84 [.int .i64 x0, .int .i64 x1, .int .i64 x2, .int .i64 0, .int .i64 x4]
              have HBN := Lib.hid hbn
              clear hmw hbn
              go_wp2_with (first
                | (at_lookup; refine wpList_mapOf_none rfl _ _ 85 rfl Tryd.keyedLeg Tryd.underlying85 rfl HMW.out (legKey (x0, x1, x2, x3, x4)) rfl HK.out HF.out ?_)
                | (at_mapUpdate; refine wpList_mapOf_put legVal_inj rfl _ _ _ 85 rfl Tryd.keyedLeg Tryd.underlying85 rfl HMW.out (by unfold maxLen; omega) (legKey (x0, x1, x2, x3, x4)) rfl HK.out (out.length : Int) rfl (WalkArith.wf_i64 (by omega)) ?_; intro w1 hmap1 hgr1; have hb1 : Blk w1 wr.heap.size 84 [.int .i64 x0, .int .i64 x1, .int .i64 x2, .int .i64 0, .int .i64 x4] := HBN.out.kept (Mod.of_grown (S := (· = w.heap.size)) hgr1 (fun _ h => by injection h with h; exact h.symm)) (by omega); have HB1 := Lib.hid hb1; have HMAP1 := Lib.hid hmap1; have HGR1 := Lib.hid hgr1; have e0 := hb1.cell 0; have e1 := hb1.cell 1; have e2 := hb1.cell 2; have e3 := hb1.cell 3; have e4 := hb1.cell 4; simp only [List.getElem?_cons_zero, List.getElem?_cons_succ] at e0 e1 e2 e3 e4; have f3 := hb1.frozen 3; have hb1l := hb1.lt; have hown2 := own_mod (S := (· = wr.heap.size)) (own_other (hown.alloc (.cells #[.int .i64 x0, .int .i64 x1, .int .i64 x2, .int .i64 0, .int .i64 x4] 84)) hgr1 (.inr (HM.out.ne_own hown))) (mod_set w1 wr.heap.size 3 (.int .i64 x3)) (fun b hb h => by have := (hown.lt b hb).2; omega); have HOWN2 := Lib.hid hown2; clear hb1 hmap1 hgr1 hown2)
                | (at_builtin; refine wpList_app Tryd.sltLegs rfl (.tmp 48) (.tmp 50) rfl w.heap.size _ out.length _ rfl (HOWN2.out.alloc _) ⟨w1.heap.size, 0, none⟩ 1 1 [.int .i64 x0, .int .i64 x1, .int .i64 x2, .int .i64 x3, .int .i64 x4] rfl rfl ?c0 ?c1 ?c2 ?c3 ?_))
              case c1 => simp [Value.oneCell']
              case c2 => omega
              case c3 => have := hw2.size; omega
              intro v' w4 hown4 hg4 _
              have q1 : Mod (· = w.heap.size) (wr.alloc (.cells #[.int .i64 x0, .int .i64 x1, .int .i64 x2, .int .i64 0, .int .i64 x4] 84)) w1 := Mod.of_grown HGR1.out (fun _ h => by injection h with h; exact h.symm)
              have q2 : New w w1 := Mod.trans (hw2.alloc _) q1 (fun x hx h => by omega)
              have q3 : New w ((w1.setCell ⟨wr.heap.size, 3, none⟩ (.int .i64 x3)).alloc (.cells #[.int .i64 x0, .int .i64 x1, .int .i64 x2, .int .i64 x3, .int .i64 x4] 84)) := (q2.set_ (fun h => by have := hw2.size; simp only at h; omega) _).alloc _
              have q4 : New w w4 := New.grown q3 (HOWN2.out.alloc _) (Nat.le_refl _) hg4
              have m4 : MapOf 84 legVal w4 w.heap.size (out ++ [(x0, x1, x2, x3, x4)]).length (placeOf (out ++ [(x0, x1, x2, x3, x4)])) := by
                have h1 := HMAP1.out
                rw [placeOf_snoc] at h1
                have h2 := h1.mod (mod_set w1 wr.heap.size 3 (.int .i64 x3)) (by omega)
                have h3 := h2.new_ ((Mod.refl _ _).alloc (.cells #[.int .i64 x0, .int .i64 x1, .int .i64 x2, .int .i64 x3, .int .i64 x4] 84))
                rw [List.length_append]
                exact h3.kept hg4 (fun e => (h3.ne_own (HOWN2.out.alloc _)) e.symm)
              have HM4 := Lib.hid m4
              have HQ4 := Lib.hid q4
              clear q1 q2 q3 q4 m4 hg4
              go_wp2
              go_roundw
              case rel => exact ⟨k + 1, out ++ [(x0, x1, x2, x3, x4)], by omega, by go_num, by rw [cellsL_append, cellsL_one, List.length_append]; exact hown4, HM4.out, HN.out, HQO.out.snoc (by simp only [legQty]; omega) (by simp only [legQty]; omega), by simp; have := HL1.out; simp at this; omega, HQ4.out⟩
              case measure => simp [intOf]; omega
            | some z =>
              obtain ⟨⟨y0, y1, y2, y3, y4⟩, hzl, hy, hyk⟩ := lastIdx_at hli
              obtain ⟨g, rfl, hgB, hgl⟩ : ∃ g, OA = some ⟨g, 0, none⟩ ∧ w.heap.size ≤ g ∧ g < wr.heap.size := by
                obtain ⟨g, cap, hv, h1, h2⟩ := hown.form (by omega)
                injection hv with hv
                exact ⟨g, hv, h1, h2⟩
              have d3 := own_at encLegs_len hown hy 3 _ rfl
              have f3 := hown.frozenAt (z * 5 + 3)
              have hyq := HQO.out z _ hy
              simp only [legQty] at hyq
              have HY := Lib.hid hy
              have HZ := Lib.hid hli
              have HF := Lib.hid (show placeOf out (legKey (x0, x1, x2, x3, x4)) = some (z : Int) by simp [placeOf, hli])
              have HK := Lib.hid hkey
              have hmlt := HM.out.lt
              have HMW := Lib.hid (HM.out.new_ ((Mod.refl (fun _ => False) wr).alloc (.cells #[.int .i64 x0, .int .i64 x1, .int .i64 x2, .int .i64 0, .int .i64 x4] 84)))
              have hgm : g ≠ w.heap.size := fun e => HM.out.ne_own hown (by rw [← e]; rfl)
              clear hli hy hyk hkey
              by_cases hov : 9223372036854775807 - x3 < y3
              · have HB := Lib.hid (pool_bad (w := w) (R := R) (a := 9) (by rw [← HR1.out, poolRun_over (by simpa [legQty] using hq1) HZ.out HY.out (by simpa [legQty] using hov)]; rfl) (.inr ⟨by omega, by omega, .ref 9⟩))
                go_wp2_with (at_lookup; refine wpList_mapOf_some rfl _ _ 85 rfl Tryd.keyedLeg Tryd.underlying85 rfl HMW.out (legKey (x0, x1, x2, x3, x4)) rfl HK.out HF.out ?_)
                go_ret2
                exact HB.out _ (hw2.alloc _)
              · have HN := Lib.hid (show poolRun (out.set z (y0, y1, y2, y3 + x3, y4)) (l.drop (k + 1) ++ (ls.drop (i + 1)).flatten) = R by rw [← HR1.out, poolRun_add (by simpa [legQty] using hq1) HZ.out HY.out (by simpa [legQty] using hov)]; rfl)
                have HO2 := Lib.hid hown
                clear hown
                go_wp2_with (at_lookup; refine wpList_mapOf_some rfl _ _ 85 rfl Tryd.keyedLeg Tryd.underlying85 rfl HMW.out (legKey (x0, x1, x2, x3, x4)) rfl HK.out HF.out ?_)
                go_roundw
                case rel => exact ⟨k + 1, out.set z (y0, y1, y2, y3 + x3, y4), by omega, by go_num, by
                  have h1 := (HO2.out.stored (z * 5 + 3) (.int .i64 (y3 + x3))).1
                  rw [cellsL_set encLegs_len out z 3 _ (y0, y1, y2, y3 + x3, y4) HY.out (by decide) _ rfl] at h1
                  rw [List.length_set]
                  exact h1.alloc _, by
                  have h1 := HM.out.mod (mod_set wr g (z * 5 + 3) (.int .i64 (y3 + x3))) (by omega)
                  rw [List.length_set, placeOf_set HY.out (show legKey (y0, y1, y2, y3 + x3, y4) = legKey (y0, y1, y2, y3, y4) from rfl)]
                  exact h1.new_ ((Mod.refl _ _).alloc _), HN.out, HQO.out.set (by simp only [legQty]; omega) (by simp only [legQty]; omega), by rw [List.length_set]; have := HL1.out; omega, (hw2.set_ (fun h => by simp only at h; omega) _).alloc _⟩
                case measure => simp [intOf]; omega
        · obtain rfl : k = l.length := by omega
          have hrun2 : poolRun out (ls.drop (i + 1)).flatten = R := by have := HRUN.out; rwa [List.drop_length, List.nil_append] at this
          have hlen2 : out.length + (ls.drop (i + 1)).flatten.length ≤ 3000 := by have := HLN.out; rwa [List.drop_length, List.nil_append] at this
          have HR2 := Lib.hid hrun2
          have HL2 := Lib.hid hlen2
          clear hrun2 hlen2
          go_wp2
          go_roundw
          case rel => exact ⟨i + 1, out, by omega, by go_num, hown, HM.out, HR2.out, HQO.out, HL2.out, hw2⟩
          case measure => simp [intOf]; omega
    · obtain rfl : i = n := by omega
      obtain ⟨OA, oc, rfl⟩ := own_shape hown
      have hend : R = (0, out) := by
        rw [← HRUN.out, List.drop_of_length_le (by have := HLEN.out; omega)]; rfl
      have HE := Lib.hid hend
      have holn : out.length ≤ 3000 := by have := HLN.out; omega
      clear hend
      by_cases h0 : out.length = 0
      · have HB := Lib.hid (pool_bad (w := w) (R := R) (a := 2) (by rw [HE.out]; simp [poolEnd, h0]) (.inr ⟨by omega, by omega, .ref 2⟩))
        have hd : ((out.length : Int) == 0) = true := by simp [h0]
        go_wp2
        go_ret2
        exact HB.out _ hw
      · have hd : ((out.length : Int) == 0) = false := by simpa using h0
        by_cases h4 : 4 < out.length
        · have HB := Lib.hid (pool_bad (w := w) (R := R) (a := 5) (by rw [HE.out]; unfold poolEnd; rw [if_neg (by simp), if_neg h0]; rw [if_pos h4]) (.inr ⟨by omega, by omega, .ref 5⟩))
          go_wp2
          go_ret2
          exact HB.out _ hw
        · have hfin : poolEnd R = (0, out) := by rw [HE.out]; unfold poolEnd; rw [if_neg (by simp), if_neg h0]; rw [if_neg h4]
          have HF := Lib.hid hfin
          clear hfin
          go_wp2
          go_ret2
          exact pool_good HF.out hw hown
end Go.Proofs.YtkkaejbdekdljaaDoor
