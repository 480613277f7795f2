/- Words and walks, part 14 of 19. -/
import Derived.RegionTactic
import Derived.Test.YtkkaejbdekdljaaDoorQ3
import Derived.Test.YtkkaejbdekdljaaDoorQ4
import Derived.Test.YtkkaejbdekdljaaDoorQ10
import Derived.Test.YtkkaejbdekdljaaDoorQ12
import Derived.Test.YtkkaejbdekdljaaDoorQ13
/- Walks: links.Resolve of notices in which nothing is wrong. -/
set_option linter.unusedVariables false
set_option linter.unusedSimpArgs false
namespace Go.Proofs.YtkkaejbdekdljaaDoor
open Go.RowKit Go.Maps

def prioN (ls : List NoticeV) (i : Nat) : Int := (ls[i]?.map fun v => v.b.priority).getD 0
structure HeadsOf (ls : List NoticeV) (r : List Nat) : Prop where
  len : r.length = ls.length
  least : Least ls.length (withsOf ls) (at_ r)
def ordN (ls : List NoticeV) (r : List Nat) : List Nat := resOrd (at_ r) (tiesOf ls) (prioN ls) ls.length
def outN (ls : List NoticeV) (r : List Nat) : List (List Nat) := resOut (at_ r) (tiesOf ls) (prioN ls) ls.length
def rowsN (out : List (List Nat)) : List (Nat × List Value) := out.map fun l => (l.length, nats l)
/-- What links.Resolve answers of notices in which nothing is wrong. -/
def ResolvePost (ls : List NoticeV) (w : World) (e : Ending) (w' : World) : Prop :=
  New w w' ∧ ∃ r, HeadsOf ls r ∧
    (((ordN ls r).length = ls.length ∧ ∃ v vs, e = .returned (.tuple #[v, .nilIface]) ∧ w'.ownsRow w.heap.size 24 1 v (outN ls r).length vs ∧ RowsOf w' w.heap.size 3 1 vs (rowsN (outN ls r))) ∨
     ((ordN ls r).length ≠ ls.length ∧ e = .returned (.tuple #[.slice none 0 0, .iface 82 (.agg #[.int .i64 12])])))

theorem natsNums (l : List Nat) : nats l = nums (l.map fun x : Nat => (x : Int)) := by simp [nats, nums]
theorem nums_prio {ps : List Int} {k : Nat} (h : k < ps.length) : (nums ps)[k]? = some (.int .i64 (prioOf ps k)) := by
  simp [nums, prioOf, List.getD_eq_getElem?_getD, List.getElem?_eq_getElem h]
theorem prioOf_set {ps : List Int} {k j : Nat} {x : Int} (h : k < ps.length) : prioOf (ps.set k x) j = if j = k then x else prioOf ps j := by
  unfold prioOf
  by_cases e : j = k
  · subst e; simp [List.getD_eq_getElem?_getD, h]
  · rw [if_neg e]; simp [List.getD_eq_getElem?_getD, List.getElem?_set_ne (Ne.symm e)]
theorem maxOf_take (p : Nat → Int) (a : Int) {l : List Nat} {k : Nat} (h : k < l.length) : maxOf p a (l.take (k + 1)) = max (maxOf p a (l.take k)) (p (at_ l k)) := by
  have h1 : l[k]? = some (at_ l k) := by simp [at_, List.getD_eq_getElem?_getD, List.getElem?_eq_getElem h]
  rw [List.take_add_one, h1]
  exact maxOf_snoc _ _ _ _
theorem firsts_le (R : Nat → Nat) (n : Nat) : (firsts R n).length ≤ n := by
  have := List.length_filter_le (isHead R) (List.range n)
  simpa [firsts] using this
theorem prioN_at {ls : List NoticeV} {i : Nat} {v : NoticeV} (h : ls[i]? = some v) : prioN ls i = v.b.priority := by simp [prioN, h]

set_option maxRecDepth 100000 in
set_option maxHeartbeats 4000000 in
theorem resolve_ok (A : Option Addr) (n c : Nat) (ls : List NoticeV) (w : World) (ha : Notices w A n ls) (hL : ∀ (i : Nat) (v : NoticeV), ls[i]? = some v → v.links.length ≤ 9223372036854775807) (hK : ∀ (i : Nat) (v : NoticeV), ls[i]? = some v → NoticeOk v) (hT : totN ls ≤ 3000)
    (hb : (ls.any fun v => decide (16 < v.links.length)) = false) (htw : twiceFrom ls ls 0 = none) (hnb : noticesBad ls ls 0 = none) :
    Calls Tryd.prog 28 #[.slice A n c] w (ResolvePost ls w) := by
  have hnl := ha.len
  subst hnl
  have hn : ls.length ≤ 3000 := Nat.le_trans (totN_length ls) hT
  have HPL := Lib.hid (places_any A ls.length c ls w ha hL hK (by omega) hb)
  rw [htw] at HPL
  have HTI := Lib.hid (fun b0 W hW hm => tied_any A ls.length c b0 ls.length ls W hW hm hK hT)
  rw [hnb] at HTI
  have hwl := Nat.le_trans (withsOf_le ls) hT
  have htl := Nat.le_trans (tiesOf_le ls) hT
  have HWI := Lib.hid (withsOf_in ls)
  have HTN := Lib.hid (tiesOf_in ls)
  clear hL hK hT hb htw hnb
  obtain ⟨n, hnn⟩ : ∃ n, ls.length = n := ⟨_, rfl⟩
  have HN := Lib.hid hnn
  rw [hnn] at hn ha HPL HTI HWI HTN
  have hmm := @run_makeMap Tryd.prog
  rw [hnn]
  clear hnn
  go_enter Tryd.func28, Tryd.ntmps28
  go_wp2_with (first
    | (go_at_call 58; refine HPL.out.mono ?_; rintro e w1 ⟨hw1, b0, rfl, hmap⟩)
    | (go_at_call 59; refine (HTI.out b0 _ (ha.new_ hw1) (hmap.mono (by have := HN.out; omega))).mono ?_; rintro e w2 ⟨hw2, va, vb, rfl, hrows⟩; have hva : w2.ownsRow w1.heap.size 67 2 va (withsOf ls).length (cellsL encTwos (withsOf ls)) := hrows.own 0 va _ rfl rfl; have hvb : w2.ownsRow w1.heap.size 67 2 vb (tiesOf ls).length (cellsL encTwos (tiesOf ls)) := hrows.own 1 vb _ rfl rfl; obtain ⟨WA, wc, rfl⟩ := own_shape hva; obtain ⟨TA, tc, rfl⟩ := own_shape hvb; clear hrows)
    | (go_at_call 39; refine (newForest_any n _ (by omega)).mono ?_; rintro e w3 ⟨g, rfl, hg, hbg, hw3⟩))
  have hwa := own_sl hva
  have hw12 := New.trans hw1 hw2
  have HVB := Lib.hid hvb
  have HW12 := Lib.hid hw12
  have hs1 := hw1.size
  clear hmap hva hvb HPL HTI hw1 hw2 hw12
  go_loopw [52] (fun i wr => ∃ (k : Nat) (f : List Nat), k ≤ (withsOf ls).length ∧ i = .int .i64 (k : Int) ∧ f.length = n ∧ Tree n ((withsOf ls).take k) (at_ f) ∧ Blk wr g 3 (nats f) ∧ New w2 wr) (fun i _ => (withsOf ls).length - (intOf i).toNat)
  case atStart => exact ⟨0, List.range n, Nat.zero_le _, rfl, by simp, by simp; exact Tree.start _ _ fun i hi => by simp [at_, List.getD_eq_getElem?_getD, hi], hbg, hw3⟩
  case round =>
    obtain ⟨k, f, hk, rfl, hf, ht, hbg', hw⟩ := hrel
    have HF := Lib.hid hf
    have HT := Lib.hid ht
    clear hf ht
    by_cases hlt : k < (withsOf ls).length
    · obtain ⟨b, off, p, rfl, hp, hc0, hc1⟩ := (hwa.new_ hw).two hlt
      have hpm : p ∈ withsOf ls := List.mem_of_getElem? hp
      have hpin := HWI.out p hpm
      have HP := Lib.hid hp
      obtain ⟨x, y⟩ := p
      obtain ⟨x, rfl⟩ := Int.eq_ofNat_of_zero_le hpin.1
      obtain ⟨y, rfl⟩ := Int.eq_ofNat_of_zero_le hpin.2.2.1
      have hx : x < n := by have := hpin.2.1; simpa using this
      have hy : y < n := by have := hpin.2.2.2; simpa using this
      clear hp hpm hpin
      go_wp2_with (go_at_call 40; refine (join_any g n n x y f _ (hbg'.alloc _) HF.out HT.out.le hx hy (by omega) (Nat.le_refl _)).mono ?_; rintro e w4 ⟨rfl, f', hf', hle', hrt', hb', hw4⟩)
      go_roundw
      case rel => exact ⟨k + 1, f', by omega, by go_num, hf', by
        rw [List.take_add_one, HP.out]
        refine Tree.snoc HT.out (fun q hq => ?_) ⟨by simpa using hx, by simpa using hy⟩ (by simpa using hrt') hle'
        have := HWI.out q (List.mem_of_mem_take hq)
        omega, hb', Mod.trans (hw.alloc _) hw4 (fun i hi hs => by omega)⟩
      case measure => simp [intOf]; omega
    · have ht2 : Tree n (withsOf ls) (at_ f) := by have := HT.out; rwa [List.take_of_length_le (by omega)] at this
      have HT2 := Lib.hid ht2
      clear ht2
      go_wp2_with (go_at_call 41; refine (roots_any g n n f _ hbg' HF.out HT2.out.le (by omega) (Nat.le_refl _)).mono ?_; rintro e w5 ⟨h, r, rfl, hh, hbr, hr, hrr, hw5⟩)
      have hl0 : Least n (withsOf ls) (at_ r) := by
        have := HT2.out.least
        exact ⟨fun i hi => by rw [hrr i hi]; exact this.le i hi, fun q hq => by
              have hq2 := HWI.out q hq
              rw [hrr _ (by omega), hrr _ (by omega)]; exact this.pair q hq, fun c hc i hi => by rw [hrr i hi]; exact this.any c hc i hi⟩
      have HHO := Lib.hid (show HeadsOf ls r from ⟨by rw [HN.out]; exact hr, by rw [HN.out]; exact hl0⟩)
      have HRR := Lib.hid (fun i hi => hl0.any (at_ r) hl0.pair i hi)
      have HRL := Lib.hid hl0.le
      have hw25 : New w2 w5 := Mod.trans hw hw5 (fun i hi hs => by omega)
      have HVB5 := Lib.hid (own_new HVB.out hw25)
      have HA5 := Lib.hid ((ha.new_ HW12.out).new_ hw25)
      have HW5 := Lib.hid (New.trans HW12.out hw25)
      have hh5 := hbr.lt
      have HR := Lib.hid hr
      clear hl0 hrr hw5 hw25 hbg hbg' hwa HF HT HT2 HVB HW12 hw hw3 hr
      obtain ⟨wo, rfl⟩ : ∃ wo : World, wo = w5 := ⟨_, rfl⟩
      go_loopw [12, 69] (fun fv i wr => ∃ (k : Nat) (vs : List Value), k ≤ n ∧ i = .int .i64 (k : Int) ∧ Grp wr wo.heap.size wo.heap.size (wo.heap.size + 1) n k k (at_ r) fv vs ∧ New wo wr) (fun _ i _ => n - (intOf i).toNat)
      case atStart => exact ⟨0, _, Nat.zero_le _, rfl, Grp.start wo (at_ r), ((Mod.refl _ _).alloc _).alloc _⟩
      case round =>
        obtain ⟨k, vs, hk, rfl, hgrp, hw⟩ := hrel
        have HG := Lib.hid hgrp
        clear hgrp
        by_cases hlt : k < n
        · have hcr := (hbr.new_ hw).nat (k := k) (by have := HR.out; omega)
          have hrk := HRL.out k hlt
          have HKEY := Lib.hid (Tryd.keyOfNat (x := k) (by omega))
          cases hhd : isHead (at_ r) k with
          | true =>
            --B1
            have hek : at_ r k = k := by simpa [isHead] using hhd
            rw [hek] at hcr hrk
            have HE := Lib.hid hek
            have HHD := Lib.hid hhd
            have hd : ((k : Int) == (k : Int)) = true := by simp
            have hfl : (firsts (at_ r) k).length ≤ n := by rw [firsts_length]; have := num_le (hd := isHead (at_ r)) (Nat.zero_le k); have h2 := num_both (isHead (at_ r)) k; omega
            obtain ⟨FA, fc, rfl⟩ := own_shape HG.out.heads
            have HKX := HKEY
            clear hek hhd
            go_wp2_with (first | (at_mapUpdate; refine wpList_mapD_put natVal_inj rfl _ _ _ 105 rfl Tryd.keyedInt Tryd.underlying105 rfl HG.out.mn (by unfold maxLen; omega) k rfl HKEY.out (.int .i64 ((firsts (at_ r) k).length : Int)) rfl ?_; intro w6 hm6 hg6; have HM6 := Lib.hid hm6; have HN6 := Lib.hid (HG.out.number hg6); have hz6 : New wo w6 := Mod.trans hw (Mod.of_grown (S := (· = wo.heap.size + 1)) hg6 (fun _ h => by injection h with h; exact h.symm)) (fun x hx h => by omega); clear hm6 hg6) | (at_builtin; go_must (refine wpList_app Tryd.slt24 rfl (.tmp 81) (.tmp 83) rfl wo.heap.size _ (firsts (at_ r) k).length (nats (firsts (at_ r) k)) rfl ((HN6.out.1.own 0 _ _ rfl rfl).alloc _) ⟨w6.heap.size, 0, none⟩ 1 1 [.int .i64 (k : Int)] rfl rfl (cells_new _ _ _) ?c1 ?c2 ?c3 ?_)))
            case c1 => simp [Value.oneCell']
            case c2 => omega
            case c3 => have := hz6.size; first | omega | (simp; omega)
            intro v7 w7 hown7 hg7 hbl7
            have hz7 : New wo w7 := New.grown (hz6.alloc _) ((HN6.out.1.own 0 _ _ rfl rfl).alloc _) (Nat.le_refl _) hg7
            have HG7 := Lib.hid (Grp.head (HN6.out.1.new_ ((Mod.refl (fun _ => False) w6).alloc (.cells #[.int .i64 (k : Int)] 3))) (HN6.out.2.new_ ((Mod.refl (fun _ => False) w6).alloc (.cells #[.int .i64 (k : Int)] 3))) (HM6.out.new_ ((Mod.refl (fun _ => False) w6).alloc (.cells #[.int .i64 (k : Int)] 3))) HG.out.ne HHD.out hg7 hown7 (by simpa using hbl7))
            clear hown7 hg7 hbl7
            have HX := Lib.hid (HG7.out.group (x := k) (by omega))
            go_wp2_with (first
              | (at_lookup; refine wpList_mapD_look rfl _ _ 104 rfl Tryd.keyedInt Tryd.underlying104 (Tryd.zeroSl _) rfl HG7.out.mg k rfl HKX.out (vs.getD k nilS) rfl ?_)
              | (at_builtin; refine wpList_app Tryd.slt24 rfl (.tmp 89) (.tmp 91) rfl wo.heap.size _ (mem (at_ r) k k).length (nats (mem (at_ r) k k)) rfl (HX.out.alloc _) ⟨w7.heap.size, 0, none⟩ 1 1 [.int .i64 (k : Int)] rfl rfl (cells_new _ _ _) ?c1 ?c2 ?c3 ?_))
            case c1 => simp [Value.oneCell']
            case c2 => have := mem_length_le (at_ r) k k; omega
            case c3 => have := hz7.size; first | omega | (simp; omega)
            intro v8 w8 hown8 hg8 hbl8
            have hz8 : New wo w8 := New.grown (hz7.alloc _) (HX.out.alloc _) (Nat.le_refl _) hg8
            have HO8 := Lib.hid hown8
            have HG8 := Lib.hid hg8
            have HB8 := Lib.hid hbl8
            have hmg8 := (HG7.out.new_ ((Mod.refl (fun _ => False) w7).alloc (.cells #[.int .i64 (k : Int)] 3))).mg.kept hg8 (fun e => (HG7.out.new_ ((Mod.refl (fun _ => False) w7).alloc (.cells #[.int .i64 (k : Int)] 3))).mg.ne_own (HX.out.alloc _) e.symm)
            have HM8 := Lib.hid hmg8
            clear hown8 hg8 hbl8 hmg8
            go_wp2_with (at_mapUpdate; refine wpList_mapD_put natVal_inj rfl _ _ _ 104 rfl Tryd.keyedInt Tryd.underlying104 rfl HM8.out (by unfold maxLen; omega) k rfl HKX.out v8 rfl ?_; intro w9 hm9 hg9; have HM9 := Lib.hid hm9; have HG9 := Lib.hid hg9; have hz9 : New wo w9 := Mod.trans hz8 (Mod.of_grown (S := (· = wo.heap.size)) hg9 (fun _ h => by injection h with h; exact h.symm)) (fun x hx h => by omega); clear hm9 hg9)
            go_roundw
            case rel => exact ⟨k + 1, vs.set (at_ r k) v8, by omega, by go_num, by
              have h1 := HG7.out.new_ ((Mod.refl (fun _ => False) w7).alloc (.cells #[.int .i64 (k : Int)] 3))
              exact Grp.thing h1 (Nat.lt_of_le_of_lt (HRL.out k (by omega)) (by omega)) (by rw [HE.out]; exact HG8.out) (by rw [HE.out]; exact HO8.out) (by rw [HE.out]; simpa using HB8.out) (by rw [HE.out]; exact HM9.out) HG9.out, hz9⟩
            case measure => simp [intOf]; omega
            --E1
          | false =>
            --B2
            have hd : ((at_ r k : Int) == (k : Int)) = false := by
              have : at_ r k ≠ k := by simpa [isHead] using hhd
              simp; omega
            have HE := Lib.hid (show at_ r k = at_ r k from rfl)
            have HG7 := Lib.hid (HG.out.skip hhd)
            have HKX := Lib.hid (Tryd.keyOfNat (x := at_ r k) (by omega))
            clear hhd
            have HX := Lib.hid (HG7.out.group (x := (at_ r k)) (by omega))
            go_wp2_with (first
              | (at_lookup; refine wpList_mapD_look rfl _ _ 104 rfl Tryd.keyedInt Tryd.underlying104 (Tryd.zeroSl _) rfl HG7.out.mg (at_ r k) rfl HKX.out (vs.getD (at_ r k) nilS) rfl ?_)
              | (at_builtin; refine wpList_app Tryd.slt24 rfl (.tmp 89) (.tmp 91) rfl wo.heap.size _ (mem (at_ r) k (at_ r k)).length (nats (mem (at_ r) k (at_ r k))) rfl (HX.out.alloc _) ⟨wr.heap.size, 0, none⟩ 1 1 [.int .i64 (k : Int)] rfl rfl (cells_new _ _ _) ?c1 ?c2 ?c3 ?_))
            case c1 => simp [Value.oneCell']
            case c2 => have := mem_length_le (at_ r) k (at_ r k); omega
            case c3 => have := hw.size; first | omega | (simp; omega)
            intro v8 w8 hown8 hg8 hbl8
            have hz8 : New wo w8 := New.grown (hw.alloc _) (HX.out.alloc _) (Nat.le_refl _) hg8
            have HO8 := Lib.hid hown8
            have HG8 := Lib.hid hg8
            have HB8 := Lib.hid hbl8
            have hmg8 := (HG7.out.new_ ((Mod.refl (fun _ => False) wr).alloc (.cells #[.int .i64 (k : Int)] 3))).mg.kept hg8 (fun e => (HG7.out.new_ ((Mod.refl (fun _ => False) wr).alloc (.cells #[.int .i64 (k : Int)] 3))).mg.ne_own (HX.out.alloc _) e.symm)
            have HM8 := Lib.hid hmg8
            clear hown8 hg8 hbl8 hmg8
            go_wp2_with (at_mapUpdate; refine wpList_mapD_put natVal_inj rfl _ _ _ 104 rfl Tryd.keyedInt Tryd.underlying104 rfl HM8.out (by unfold maxLen; omega) (at_ r k) rfl HKX.out v8 rfl ?_; intro w9 hm9 hg9; have HM9 := Lib.hid hm9; have HG9 := Lib.hid hg9; have hz9 : New wo w9 := Mod.trans hz8 (Mod.of_grown (S := (· = wo.heap.size)) hg9 (fun _ h => by injection h with h; exact h.symm)) (fun x hx h => by omega); clear hm9 hg9)
            go_roundw
            case rel => exact ⟨k + 1, vs.set (at_ r k) v8, by omega, by go_num, by
              have h1 := HG7.out.new_ ((Mod.refl (fun _ => False) wr).alloc (.cells #[.int .i64 (k : Int)] 3))
              exact Grp.thing h1 (Nat.lt_of_le_of_lt (HRL.out k (by omega)) (by omega)) HG8.out HO8.out (by simpa using HB8.out) HM9.out HG9.out, hz9⟩
            case measure => simp [intOf]; omega
            --E2
        · obtain rfl : n = k := by omega
          --B3
          obtain ⟨FA, fc, rfl⟩ := own_shape HG.out.heads
          obtain ⟨wq, rfl⟩ : ∃ wq : World, wq = wr := ⟨_, rfl⟩
          have hmF := firsts_le (at_ r) n
          obtain ⟨mF, hmFe⟩ : ∃ mF, (firsts (at_ r) n).length = mF := ⟨_, rfl⟩
          have HMF := Lib.hid hmFe
          rw [hmFe] at hmF
          have hmk := run_mk_ints Tryd.slt24 (by kernel_rfl) mF (by omega)
          have hm1 := HG.out.mg.lt
          have hm2 := HG.out.mn.lt
          rw [hmFe]
          clear hmFe
          go_wp2
          go_loopw [99] (fun a wx => ∃ (k : Nat) (ps : List Int), k ≤ mF ∧ a = .int .i64 (k : Int) ∧ ps.length = mF ∧ (∀ j, j < k → prioOf ps j = prioH (at_ r) n (prioN ls) (at_ (firsts (at_ r) n) j)) ∧ Blk wx wq.heap.size 3 (nums ps) ∧ New wq wx) (fun a _ => mF - (intOf a).toNat)
          case atStart => exact ⟨0, List.replicate mF 0, Nat.zero_le _, rfl, by simp, fun j hj => by omega, by rw [show nums (List.replicate mF 0) = nats (List.replicate mF 0) from by simp [nats, nums]]; exact Blk.new wq 3 (nats (List.replicate mF 0)), (Mod.refl _ _).alloc _⟩
          case round =>
            obtain ⟨k, ps, hk, rfl, hps, hdone, hbp, hwx⟩ := hrel
            have HPS := Lib.hid hps
            have HD := Lib.hid hdone
            have HBP := Lib.hid hbp
            clear hps hdone hbp
            have hgx := HG.out.new_ hwx
            have HGX := Lib.hid hgx
            clear hgx
            by_cases hlt : k < mF
            · have hown := HGX.out.heads
              rw [HMF.out] at hown
              obtain ⟨gF, rfl, hgF, hgF2⟩ := own_form hown (by omega)
              have hcF := own_nat hown hlt
              have hfh := firsts_head (R := at_ r) (n := n) (k := k) (by rw [← firsts_length, HMF.out]; exact hlt)
              obtain ⟨hd, hhd⟩ : ∃ hd, at_ (firsts (at_ r) n) k = hd := ⟨_, rfl⟩
              rw [hhd] at hcF hfh
              have HHD := Lib.hid hhd
              obtain ⟨hdn, hdh⟩ := hfh
              obtain ⟨b, off, v, rfl, hv, hc⟩ := (HA5.out.new_ (New.trans hw hwx)).sl.elem encNotice_len (by decide) hdn
              have c25 := hc 25 _ rfl
              have HV := Lib.hid hv
              have hbk := HBP.out.cell k
              rw [nums_prio (by rw [HPS.out]; exact hlt)] at hbk
              have hbf := HBP.out.frozen k
              have hpl := HBP.out.lt
              obtain ⟨GA, gc, hgv⟩ := own_shape (HGX.out.group hdn)
              have hgo := HGX.out.group hdn
              rw [hgv] at hgo
              have HGO := Lib.hid hgo
              have HGV := Lib.hid hgv
              have HKD := Lib.hid (Tryd.keyOfNat (x := hd) (by omega))
              have hml := mem_length_le (at_ r) n hd
              obtain ⟨len, hlen⟩ : ∃ len, (mem (at_ r) n hd).length = len := ⟨_, rfl⟩
              have HLEN := Lib.hid hlen
              have HM2 := Lib.hid (HGX.out.mg.mod (mod_set wr wq.heap.size k (.int .i64 v.b.priority)) (by omega))
              have HBP2 := Lib.hid (HBP.out.set_ k (.int .i64 v.b.priority))
              rw [hlen] at hml HGO HGV
              clear hv hc hhd hgv hgo hlen hdh hown
              go_wp2_with (at_lookup; refine wpList_mapD_look rfl _ _ 104 rfl Tryd.keyedInt Tryd.underlying104 (Tryd.zeroSl _) rfl HM2.out hd rfl HKD.out (.slice GA len gc) HGV.out ?_)
              obtain ⟨wy, hwy⟩ : ∃ wy : World, wy = wr.setCell ⟨wq.heap.size, k, none⟩ (.int .i64 v.b.priority) := ⟨_, rfl⟩
              have hzy : New wq wy := by rw [hwy]; exact hwx.set_ (fun h => by simp only at h; omega) _
              have HBY := Lib.hid (show Blk wy wq.heap.size 3 (nums (ps.set k v.b.priority)) by rw [hwy, ← nums_set]; exact HBP2.out)
              rw [← hwy]
              clear hwy
              go_loopw [116] (fun j wz => ∃ (k' : Nat) (ps' : List Int), k' ≤ len ∧ j = .int .i64 (k' : Int) ∧ ps'.length = mF ∧ prioOf ps' k = maxOf (prioN ls) (prioN ls hd) ((mem (at_ r) n hd).take k') ∧ (∀ j, j < k → prioOf ps' j = prioH (at_ r) n (prioN ls) (at_ (firsts (at_ r) n) j)) ∧ Blk wz wq.heap.size 3 (nums ps') ∧ New wq wz) (fun j _ => len - (intOf j).toNat)
              case atStart => exact ⟨0, ps.set k v.b.priority, Nat.zero_le _, rfl, by simp; exact HPS.out, by rw [prioOf_set (by rw [HPS.out]; exact hlt), if_pos rfl, prioN_at HV.out]; rfl, fun j hj => by rw [prioOf_set (by rw [HPS.out]; exact hlt), if_neg (by omega)]; exact HD.out j hj, HBY.out, hzy⟩
              case round =>
                obtain ⟨k', ps', hk', rfl, hps', hmax, hdone', hbz, hwz⟩ := hrel
                have HPS2 := Lib.hid hps'
                have HMAX := Lib.hid hmax
                have HDN := Lib.hid hdone'
                have HBZ := Lib.hid hbz
                clear hps' hmax hdone' hbz
                by_cases hlt' : k' < len
                · have hgo := HGX.out.group hdn
                  have hgz := (HG.out.new_ hwz).group hdn
                  have e0 : vs.getD hd nilS = .slice GA len gc := HGV.out
                  rw [e0, HLEN.out] at hgz
                  obtain ⟨gG, rfl, hgG, hgG2⟩ := own_form hgz (by omega)
                  have hcG := own_nat hgz hlt'
                  have hxm : at_ (mem (at_ r) n hd) k' < n := by
                    have h1 : k' < (mem (at_ r) n hd).length := by rw [HLEN.out]; exact hlt'
                    have h2 : at_ (mem (at_ r) n hd) k' = (mem (at_ r) n hd)[k'] := by simp [at_, List.getD_eq_getElem?_getD, List.getElem?_eq_getElem h1]
                    rw [h2]; exact mem_lt (List.getElem_mem h1)
                  obtain ⟨x, hx⟩ : ∃ x, at_ (mem (at_ r) n hd) k' = x := ⟨_, rfl⟩
                  have HX := Lib.hid hx
                  rw [hx] at hcG hxm
                  obtain ⟨b2, off2, v2, he2, hv2, hc2⟩ := (HA5.out.new_ (New.trans hw hwz)).sl.elem encNotice_len (by decide) hxm
                  injection he2 with he2
                  injection he2 with he2 he3
                  subst he2 he3
                  have d25 := hc2 25 _ rfl
                  have HV2 := Lib.hid hv2
                  have hzk := HBZ.out.cell k
                  rw [nums_prio (by rw [HPS2.out]; exact hlt)] at hzk
                  have hzf := HBZ.out.frozen k
                  have hn25 : off + x * 27 + 25 = off + x * 27 + 25 := rfl
                  clear hx hgz hgo hc2 hv2 e0
                  go_wp2
                  go_region
                  all_goals
                    go_wp2
                    go_roundw
                    case rel => exact ⟨k' + 1, ps'.set k (max (prioOf ps' k) v2.b.priority), by omega, by go_num, by simp; exact HPS2.out, by rw [prioOf_set (by rw [HPS2.out]; exact hlt), if_pos rfl, maxOf_take _ _ (by rw [HLEN.out]; exact hlt'), HMAX.out, HX.out, prioN_at HV2.out], fun j hj => by rw [prioOf_set (by rw [HPS2.out]; exact hlt), if_neg (by omega)]; exact HDN.out j hj, by
                      have := HBZ.out.set_ k (.int .i64 (max (prioOf ps' k) v2.b.priority))
                      rwa [nums_set] at this, (hwz.set_ (fun h => by simp only at h; omega) _).drewN _⟩
                    case measure => simp [intOf]; omega
                · obtain rfl : len = k' := by omega
                  go_wp2
                  go_roundw
                  case rel => exact ⟨k + 1, ps', by omega, by go_num, HPS2.out, fun j hj => by
                    by_cases e : j = k
                    · subst e
                      rw [HMAX.out, HHD.out, List.take_of_length_le (by rw [HLEN.out]; exact Nat.le_refl _)]
                      rfl
                    · exact HDN.out j (by omega), HBZ.out, hwz⟩
                  case measure => simp [intOf]; omega
            · obtain rfl : mF = k := by omega
              --C3
              have HMN : Hid (mF = num (isHead (at_ r)) n) := Lib.hid (by rw [← HMF.out, firsts_length])
              obtain ⟨wz, rfl⟩ : ∃ wz : World, wz = wr := ⟨_, rfl⟩
              have hstart := Lib.hid (show Res5 w wz wo.heap.size w1.heap.size n h wq.heap.size r (.slice FA mF fc) vs ps (.slice TA (tiesOf ls).length tc) (tiesOf ls) 0 from ⟨(by have h0 := HGX.out; rw [HMF.out] at h0; exact h0), (hbr.new_ hw).new_ hwx, HBP.out, by rw [List.take_zero, List.nil_append, List.drop_zero]; exact own_new (own_new HVB5.out hw) hwx, New.trans (New.trans HW5.out hw) hwx⟩)
              have HDD := Lib.hid (fun j (hj : j < num (isHead (at_ r)) n) => HD.out j (by rw [HMN.out]; exact hj))
              have HPS3 := Lib.hid HPS.out
              clear HGX HBP HD HPS
              go_wp2
              go_loopw [137] (fun i wx => ∃ k : Nat, k ≤ (tiesOf ls).length ∧ i = .int .i64 (k : Int) ∧ Res5 w wx wo.heap.size w1.heap.size n h wq.heap.size r (.slice FA mF fc) vs ps (.slice TA (tiesOf ls).length tc) (tiesOf ls) k) (fun i _ => (tiesOf ls).length - (intOf i).toNat)
              case atStart => exact ⟨0, Nat.zero_le _, rfl, hstart.out⟩
              case round =>
                clear hstart
                obtain ⟨k, hk, rfl, hres⟩ := hrel
                have HRES := Lib.hid hres
                clear hres
                by_cases hlt : k < (tiesOf ls).length
                · obtain ⟨gT, rfl, hgT, hgT2⟩ := own_form HRES.out.ties (by omega)
                  obtain ⟨q, hq⟩ : ∃ q, (tiesOf ls)[k]? = some q := ⟨_, List.getElem?_eq_getElem hlt⟩
                  have hqin := HTN.out q (List.mem_of_getElem? hq)
                  have HQ := Lib.hid hq
                  obtain ⟨x, y⟩ := q
                  obtain ⟨x, rfl⟩ := Int.eq_ofNat_of_zero_le hqin.1
                  obtain ⟨y, rfl⟩ := Int.eq_ofNat_of_zero_le hqin.2.2.1
                  have hxn : x < n := by have := hqin.2.1; simpa using this
                  have hyn : y < n := by have := hqin.2.2.2; simpa using this
                  have hoc := own_at encTwos_len HRES.out.ties (mixed_at (numPairs_length (at_ r) (tiesOf ls)) hq)
                  have d0 : wr.cell? ⟨gT, k * 2, none⟩ = some (.int .i64 (x : Int)) := hoc 0 _ rfl
                  have d1 : wr.cell? ⟨gT, k * 2 + 1, none⟩ = some (.int .i64 (y : Int)) := hoc 1 _ rfl
                  have f0 := HRES.out.ties.frozenAt (k * 2)
                  have f1 := HRES.out.ties.frozenAt (k * 2 + 1)
                  have hcx := HRES.out.heads.nat (k := x) (by rw [HR.out]; exact hxn)
                  have hcy := HRES.out.heads.nat (k := y) (by rw [HR.out]; exact hyn)
                  have hhl := HRES.out.heads.lt
                  have hrx := HRL.out x hxn
                  have hry := HRL.out y hyn
                  have hlx := fun o => ((HRES.out.grp.new_ (((Mod.refl (fun _ => False) wr).alloc o).drew)).mn.run (t := 105) Tryd.keyedInt Tryd.underlying105 (Tryd.zeroInt _) (at_ r x) (Tryd.keyOfNat (by omega)))
                  have hly := fun o => ((HRES.out.grp.new_ (((Mod.refl (fun _ => False) wr).alloc o).drew)).mn.run (t := 105) Tryd.keyedInt Tryd.underlying105 (Tryd.zeroInt _) (at_ r y) (Tryd.keyOfNat (by omega)))
                  have enx : numAt (at_ r) n (at_ r x) = .int .i64 (num (isHead (at_ r)) (at_ r x) : Int) := by
                    unfold numAt; rw [if_pos ⟨by simp [isHead, HRR.out x hxn], by omega⟩]
                  have eny : numAt (at_ r) n (at_ r y) = .int .i64 (num (isHead (at_ r)) (at_ r y) : Int) := by
                    unfold numAt; rw [if_pos ⟨by simp [isHead, HRR.out y hyn], by omega⟩]
                  rw [enx] at hlx
                  rw [eny] at hly
                  unfold natVal at hlx hly
                  have hgh : gT ≠ h := fun e => own_not_blk HRES.out.ties HRES.out.heads (by decide) (by rw [e]; rfl)
                  have HN2 := Lib.hid (numPairs_at (R := at_ r) hq)
                  clear hoc hqin hq enx eny
                  go_wp2
                  go_region
                  all_goals
                    go_wp2
                    go_roundw
                    case rel => exact ⟨k + 1, by omega, by go_num, (HRES.out.step hs1 HQ.out HN2.out).new_ (((Mod.refl _ _).alloc _).drewN _)⟩
                    case measure => simp [intOf]; omega
                · obtain rfl : k = (tiesOf ls).length := by omega
                  --C4
                  have hties : wr.ownsRow w1.heap.size 67 2 (.slice TA (tiesOf ls).length tc) (tiesOf ls).length (cellsL encTwos (numPairs (at_ r) (tiesOf ls))) := by
                    have h0 := HRES.out.ties
                    rwa [List.drop_length, List.append_nil, List.take_of_length_le (by rw [numPairs_length]; exact Nat.le_refl _)] at h0
                  have hsl := own_sl hties
                  have hsp : Sl wr (some ⟨wq.heap.size, 0, none⟩) mF 1 (nums ps) := Sl.ofBlk HRES.out.prio (by simp [nums]; exact HPS3.out) (by omega)
                  have hin := numPairs_in (n := n) HRR.out HRL.out HTN.out
                  rw [← HMN.out] at hin
                  have hrh := resolve_heads (R := at_ r) (n := n) (T := tiesOf ls) (p := prioN ls) (prio' := prioOf ps) HRR.out (fun q hq => by have := HTN.out q hq; omega) HDD.out
                  rw [← HMN.out] at hrh
                  have hord := order_any mF TA (some ⟨wq.heap.size, 0, none⟩) (tiesOf ls).length tc mF mF (numPairs (at_ r) (tiesOf ls)) ps wr (by omega) hsl hin hsp (by omega)
                  obtain ⟨OL, hOL⟩ : ∃ OL, ordered (numPairs (at_ r) (tiesOf ls)) (prioOf ps) mF = OL := ⟨_, rfl⟩
                  have hst := ordered_stand (numPairs (at_ r) (tiesOf ls)) (prioOf ps) mF
                  obtain ⟨hmap, hdec⟩ := hrh
                  have hOL' : ordered (numEdges (isHead (at_ r)) (headEdges (at_ r) (tiesOf ls))) (prioOf ps) mF = OL := hOL
                  rw [hOL'] at hmap hdec
                  rw [hOL] at hst
                  have HST := Lib.hid hst
                  have HMAP := Lib.hid (show OL.map (fun k => mem (at_ r) n (at_ (firsts (at_ r) n) k)) = outN ls r by rw [hmap]; unfold outN; rw [HN.out])
                  obtain ⟨full, hfull⟩ : ∃ full, decide ((ordN ls r).length = n) = full := ⟨_, rfl⟩
                  have HFU := Lib.hid hfull
                  have hdec2 : decide (OL.length = mF) = full := by rw [hdec, ← hfull]; unfold ordN; rw [HN.out]
                  have hord2 : Calls Tryd.prog 47 #[.int .i64 (mF : Int), .slice TA (tiesOf ls).length tc, .slice (some ⟨wq.heap.size, 0, none⟩) mF mF] wr fun e w' => ∃ ov, e = .returned (.tuple #[ov, .bool full]) ∧ w'.ownsRow wr.heap.size 3 1 ov OL.length (nats OL) ∧ New wr w' := by
                    refine hord.mono ?_
                    rintro e w' ⟨ov, b, rfl, hb, hov, hw'⟩
                    rw [hOL] at hb hov
                    rw [hdec2] at hb
                    exact ⟨ov, by rw [hb], hov, hw'⟩
                  have HORD := Lib.hid hord2
                  have hOLl := stand_length hst
                  clear hord hord2 hmap hdec hdec2 hfull hOL hOL' hst hin hsp hsl hties
                  have hwn := HRES.out.new
                  cases full with
                  | false =>
                    go_wp2_with (go_at_call 47; refine HORD.out.mono ?_; rintro e w6 ⟨ov, rfl, hov, hw6⟩)
                    go_ret2
                    exact ⟨New.trans hwn hw6, r, HHO.out, .inr ⟨by rw [HN.out]; simpa using HFU.out, rfl⟩⟩
                  | true =>
                    go_wp2_with (go_at_call 47; refine HORD.out.mono ?_; rintro e w6 ⟨ov, rfl, hov, hw6⟩; obtain ⟨OA, oc, rfl⟩ := own_shape hov)
                    have HG6 := Lib.hid (HRES.out.grp.new_ hw6)
                    have HW6 := Lib.hid (New.trans hwn hw6)
                    have HOV := Lib.hid hov
                    have hn6 := (New.trans hwn hw6).size
                    have hwo6 : w.heap.size ≤ wo.heap.size := HW5.out.size
                    clear hov hw6 hwn
                    go_loopw [26, 175] (fun v i wy => ∃ (k : Nat) (us : List Value), k ≤ OL.length ∧ i = .int .i64 (k : Int) ∧ us = (OL.take k).map (fun x => vs.getD (at_ (firsts (at_ r) n) x) nilS) ∧ wy.ownsRow w6.heap.size 24 1 v k us ∧ New w6 wy) (fun _ i _ => OL.length - (intOf i).toNat)
                    case atStart => exact ⟨0, [], Nat.zero_le _, rfl, rfl, own_nil _ _ _ _, Mod.refl _ _⟩
                    case round =>
                      obtain ⟨k, us, hk, rfl, hus, hown, hwy⟩ := hrel
                      have HUS := Lib.hid hus
                      clear hus
                      by_cases hlt : k < OL.length
                      · have hov := own_new HOV.out hwy
                        obtain ⟨gO, rfl, hgO, hgO2⟩ := own_form hov (by omega)
                        have hcO := own_nat hov hlt
                        have hxm : at_ OL k < mF := by
                          have h2 : at_ OL k = OL[k] := by simp [at_, List.getD_eq_getElem?_getD, List.getElem?_eq_getElem hlt]
                          rw [h2]; exact HST.out.lt _ (List.getElem_mem hlt)
                        obtain ⟨x, hx⟩ : ∃ x, at_ OL k = x := ⟨_, rfl⟩
                        rw [hx] at hcO hxm
                        have HX := Lib.hid hx
                        have hgy := HG6.out.new_ hwy
                        have hfo := hgy.heads
                        have hfo' : wr.ownsRow wo.heap.size 3 1 (.slice FA mF fc) mF (nats (firsts (at_ r) n)) := by rw [HMF.out] at hfo; exact hfo
                        obtain ⟨gF, rfl, hgF, hgF2⟩ := own_form hfo' (by omega)
                        have hcF := own_nat hfo' hxm
                        have hfh := (firsts_head (R := at_ r) (n := n) (k := x) (by rw [← HMN.out]; exact hxm)).1
                        obtain ⟨hd, hhd⟩ : ∃ hd, at_ (firsts (at_ r) n) x = hd := ⟨_, rfl⟩
                        rw [hhd] at hcF hfh
                        have HHD := Lib.hid hhd
                        obtain ⟨GA, gc, hgv⟩ := own_shape (hgy.group hfh)
                        have HGV := Lib.hid hgv
                        have HGY := Lib.hid hgy
                        have HKD := Lib.hid (Tryd.keyOfNat (x := hd) (by omega))
                        clear hov hx hgy hfo hfo' hhd hgv
                        go_wp2_with (first
                          | (at_lookup; refine wpList_mapD_look rfl _ _ 104 rfl Tryd.keyedInt Tryd.underlying104 (Tryd.zeroSl _) rfl HGY.out.mg hd rfl HKD.out (.slice GA (mem (at_ r) n hd).length gc) HGV.out ?_)
                          | (at_builtin; refine wpList_app Tryd.slt35 rfl (.tmp 179) (.tmp 186) rfl w6.heap.size _ k us rfl (hown.alloc _) ⟨wr.heap.size, 0, none⟩ 1 1 [.slice GA (mem (at_ r) n hd).length gc] rfl rfl (cells_new _ _ _) ?c1 ?c2 ?c3 ?_))
                        case c1 => simp [Value.oneCell']
                        case c2 => omega
                        case c3 => have := hwy.size; first | omega | (simp; omega)
                        intro v8 w8 hown8 hg8 hbl8
                        have hz8 : New w6 w8 := New.grown (hwy.alloc _) (hown.alloc _) (Nat.le_refl _) hg8
                        clear hg8 hbl8
                        go_wp2
                        go_roundw
                        case rel => exact ⟨k + 1, us ++ [.slice GA (mem (at_ r) n hd).length gc], by omega, by go_num, by
                          rw [HUS.out, List.take_add_one, List.getElem?_eq_getElem hlt, List.map_append]
                          have h2 : OL[k] = x := by rw [← HX.out]; simp [at_, List.getD_eq_getElem?_getD, List.getElem?_eq_getElem hlt]
                          simp only [Option.toList_some, List.map_cons, List.map_nil, h2, HHD.out]
                          rw [HGV.out], hown8, hz8⟩
                        case measure => simp [intOf]; omega
                      · obtain rfl : k = OL.length := by omega
                        obtain ⟨VA, vc, rfl⟩ := own_shape hown
                        go_wp2
                        go_ret2
                        have hus2 := HUS.out
                        rw [List.take_length] at hus2
                        refine ⟨New.trans HW6.out hwy, r, HHO.out, .inl ⟨by rw [HN.out]; simpa using HFU.out, _, us, rfl, ?_, ?_⟩⟩
                        · have hl : (outN ls r).length = OL.length := by rw [← HMAP.out, List.length_map]
                          rw [hl]
                          exact own_mono hown hn6
                        · have hp := (HG6.out.new_ hwy).pick hwo6 (OL.map (at_ (firsts (at_ r) n))) (fun x hx => by
                            obtain ⟨y, hy, rfl⟩ := List.mem_map.1 hx
                            exact (firsts_head (R := at_ r) (n := n) (k := y) (by rw [← HMN.out]; exact HST.out.lt y hy)).1) (picked_nodup (fun x hx => by rw [HMF.out]; exact HST.out.lt x hx) HST.out.nodup)
                          rw [List.map_map, List.map_map] at hp
                          have e1 : us = OL.map ((fun x => vs.getD x nilS) ∘ at_ (firsts (at_ r) n)) := hus2
                          have e2 : rowsN (outN ls r) = OL.map ((fun x => ((mem (at_ r) n x).length, nats (mem (at_ r) n x))) ∘ at_ (firsts (at_ r) n)) := by
                            rw [← HMAP.out]; unfold rowsN; rw [List.map_map]; rfl
                          rw [e1, e2]
                          exact hp
                  --D4
              --D3
          --E3
end Go.Proofs.YtkkaejbdekdljaaDoor
/- Walks: links.Resolve, whole. -/
set_option linter.unusedVariables false
set_option linter.unusedSimpArgs false
namespace Go.Proofs.YtkkaejbdekdljaaDoor
open Go.RowKit Go.Maps

/-- The error of Resolve: its number, Line, At. -/
def resErr (ls : List NoticeV) (r : List Nat) : Int × Nat × Nat := if (wrongOf ls).1 ≠ 0 then wrongOf ls else if (ordN ls r).length = ls.length then (0, 0, 0) else (12, 0, 0)
def resLists (ls : List NoticeV) (r : List Nat) : List (List Nat) := if (resErr ls r).1 = 0 then outN ls r else []
/-- What links.Resolve answers. -/
def ResPost (ls : List NoticeV) (w : World) (e : Ending) (w' : World) : Prop :=
  New w w' ∧ ∃ r v ev vs, ((wrongOf ls).1 = 0 → HeadsOf ls r) ∧ e = .returned (.tuple #[v, ev]) ∧ ErrIs ev (resErr ls r).1 ((resErr ls r).2.1 : Int) ((resErr ls r).2.2 : Int) ∧
    w'.ownsRow w.heap.size 24 1 v (resLists ls r).length vs ∧ RowsOf w' w.heap.size 3 1 vs (rowsN (resLists ls r))
theorem res_bad {ls : List NoticeV} {w : World} {no : Int} {i k : Nat} {ev : Value} (h : wrongOf ls = (no, i, k)) (h0 : no ≠ 0) (he : ErrIs ev no (i : Int) (k : Int)) : ∀ w', New w w' → ResPost ls w (.returned (.tuple #[.slice none 0 0, ev])) w' := fun w' hw => by
  have h1 : ∀ r, resErr ls r = (no, i, k) := fun r => by unfold resErr; rw [if_pos (by rw [h]; exact h0), h]
  have h2 : ∀ r, resLists ls r = [] := fun r => by unfold resLists; rw [if_neg (by rw [h1]; exact h0)]
  refine ⟨hw, [], _, _, [], fun h3 => absurd h3 (by rw [h]; exact h0), rfl, by rw [h1]; exact he, by rw [h2]; exact own_nil _ _ _ _, by rw [h2]; exact RowsOf.nil _ _ _ _ 0⟩
theorem linksBad_kind {ls : List NoticeV} : ∀ {l : List (Int × ByteArray)} {k : Nat} {x : Int × Nat}, linksBad ls l k = some x → x.1 = 24 ∨ x.1 = 10
  | [], _, _, h => by simp [linksBad] at h
  | y :: l, k, x, h => by
    unfold linksBad at h
    split at h
    · injection h with h
      subst h
      unfold linkBad at *
      split
      · exact .inl rfl
      · split
        · exact .inr rfl
        · simp_all
    · exact linksBad_kind h
theorem noticesBad_kind {all : List NoticeV} : ∀ {ls : List NoticeV} {i : Nat} {x : Int × Nat × Nat}, noticesBad all ls i = some x → x.1 = 24 ∨ x.1 = 10
  | [], _, _, h => by simp [noticesBad] at h
  | v :: l, i, x, h => by
    unfold noticesBad at h
    split at h
    · rename_i e k hb
      injection h with h
      subst h
      exact linksBad_kind hb
    · exact noticesBad_kind h

set_option maxRecDepth 100000 in
set_option maxHeartbeats 1000000 in
theorem linksResolve_any (A : Option Addr) (n c : Nat) (ls : List NoticeV) (w : World) (ha : Notices w A n ls) (hL : ∀ (i : Nat) (v : NoticeV), ls[i]? = some v → v.links.length ≤ 9223372036854775807) (hK : ∀ (i : Nat) (v : NoticeV), ls[i]? = some v → NoticeOk v) (hT : totN ls ≤ 3000) :
    Calls Tryd.prog 28 #[.slice A n c] w (ResPost ls w) := by
  have hnl := ha.len
  have hn : n ≤ 3000 := by have := totN_length ls; omega
  cases hb : (ls.any fun v => decide (16 < v.links.length)) with
  | true =>
    have hw5 : wrongOf ls = (5, 0, 0) := by unfold wrongOf; rw [if_neg (by omega), if_pos hb]
    have HH := Lib.hid (res_bad (w := w) (ev := .iface 82 (.agg #[.int .i64 5])) hw5 (by decide) (.inr ⟨by decide, by decide, .ref 5⟩))
    have HPL := Lib.hid (places_bad A n c ls w ha hL (.inr hb))
    clear hb hw5 hL hK hT
    go_enter Tryd.func28, Tryd.ntmps28
    go_wp2_with (go_at_call 58; refine HPL.out.mono ?_; rintro e w1 ⟨rfl, hw1⟩)
    go_ret2
    exact HH.out _ hw1
  | false =>
    cases htw : twiceFrom ls ls 0 with
    | some i =>
      have hw5 : wrongOf ls = (11, 0, i) := by unfold wrongOf; rw [if_neg (by omega), if_neg (by rw [hb]; simp), htw]
      have HH := Lib.hid (res_bad (w := w) (ev := .iface 88 (.agg #[.int .i64 11, .int .i64 0, .int .i64 (i : Int)])) hw5 (by decide) (.inr ⟨by decide, by decide, .fault 11 0 i⟩))
      have HPL := Lib.hid (places_any A n c ls w ha hL hK (by omega) hb)
      rw [htw] at HPL
      clear hb hw5 hL hK hT htw
      go_enter Tryd.func28, Tryd.ntmps28
      go_wp2_with (go_at_call 58; refine HPL.out.mono ?_; rintro e w1 ⟨hw1, rfl⟩)
      go_ret2
      exact HH.out _ hw1
    | none =>
      cases hnb : noticesBad ls ls 0 with
      | some x =>
        obtain ⟨no, i, k⟩ := x
        have hw5 : wrongOf ls = (no, i, k) := by unfold wrongOf; rw [if_neg (by omega), if_neg (by rw [hb]; simp), htw, hnb]
        have hk := noticesBad_kind hnb
        have he : no ≠ 0 ∧ ErrIs (.iface 88 (.agg #[.int .i64 no, .int .i64 (i : Int), .int .i64 (k : Int)])) no (i : Int) (k : Int) := by
          rcases hk with h | h
          all_goals
            simp only at h
            subst h
            exact ⟨by decide, .inr ⟨by decide, by decide, .fault _ i k⟩⟩
        have HH := Lib.hid (res_bad (w := w) hw5 he.1 he.2)
        have HPL := Lib.hid (places_any A n c ls w ha hL hK (by omega) hb)
        rw [htw] at HPL
        have HTI := Lib.hid (fun b0 W hW hm => tied_any A n c b0 ls.length ls W hW hm hK hT)
        rw [hnb] at HTI
        clear hb hw5 hL hK hT htw hnb hk he
        go_enter Tryd.func28, Tryd.ntmps28
        go_wp2_with (first
          | (go_at_call 58; refine HPL.out.mono ?_; rintro e w1 ⟨hw1, b0, rfl, hmap⟩)
          | (go_at_call 59; refine (HTI.out b0 _ (ha.new_ hw1) hmap).mono ?_; rintro e w2 ⟨hw2, rfl⟩))
        go_ret2
        exact HH.out _ (New.trans hw1 hw2)
      | none =>
        refine (resolve_ok A n c ls w ha hL hK hT hb htw hnb).mono ?_
        have hw5 : wrongOf ls = (0, 0, 0) := by unfold wrongOf; rw [if_neg (by omega), if_neg (by rw [hb]; simp), htw, hnb]
        rintro e w' ⟨hw, r, hr, ⟨hfull, v, vs, rfl, hv, hvs⟩ | ⟨hfull, rfl⟩⟩
        · have h1 : resErr ls r = (0, 0, 0) := by unfold resErr; rw [if_neg (by rw [hw5]; simp), if_pos hfull]
          have h2 : resLists ls r = outN ls r := by unfold resLists; rw [if_pos (by rw [h1])]
          exact ⟨hw, r, v, _, vs, fun _ => hr, rfl, by rw [h1]; exact .inl ⟨rfl, rfl⟩, by rw [h2]; exact hv, by rw [h2]; exact hvs⟩
        · have h1 : resErr ls r = (12, 0, 0) := by unfold resErr; rw [if_neg (by rw [hw5]; simp), if_neg hfull]
          have h2 : resLists ls r = [] := by unfold resLists; rw [if_neg (by rw [h1]; decide)]
          exact ⟨hw, r, _, _, [], fun _ => hr, rfl, by rw [h1]; exact .inr ⟨by decide, by decide, .ref 12⟩, by rw [h2]; exact own_nil _ _ _ _, by rw [h2]; exact RowsOf.nil _ _ _ _ 0⟩
/-- The answers are one, whatever the roots are called. -/
theorem res_unique {ls : List NoticeV} {r r' : List Nat} (h : (wrongOf ls).1 = 0 → HeadsOf ls r) (h' : (wrongOf ls).1 = 0 → HeadsOf ls r') : resErr ls r = resErr ls r' ∧ resLists ls r = resLists ls r' := by
  by_cases h0 : (wrongOf ls).1 = 0
  · have a := h h0
    have b := h' h0
    have e : r = r' := list_of_at (a.len.trans b.len.symm) fun i hi => a.least.unique b.least i (by rw [← a.len]; exact hi)
    subst e
    exact ⟨rfl, rfl⟩
  · have e : ∀ r, resErr ls r = wrongOf ls := fun r => by unfold resErr; rw [if_pos h0]
    have e2 : ∀ r, resLists ls r = [] := fun r => by unfold resLists; rw [e, if_neg h0]
    rw [e, e, e2, e2]; exact ⟨rfl, rfl⟩
end Go.Proofs.YtkkaejbdekdljaaDoor
