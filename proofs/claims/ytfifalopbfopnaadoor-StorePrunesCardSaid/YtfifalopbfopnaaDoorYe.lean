/- The law: StorePrunes. -/
import Derived.Test.YtfifalopbfopnaaDoorYd
import Derived.Deep.RegionHeld3
import Derived.IntWalk
import Derived.Laws.StructEq
set_option linter.unusedVariables false
set_option linter.unusedSimpArgs false
namespace Go.Proofs.YtfifalopbfopnaaDoor
open Go.RowKit

def runC (cs : List CallV) : StS := cs.foldl after stNew
theorem runC_snoc (cs : List CallV) (c : CallV) : runC (cs ++ [c]) = after (runC cs) c := by unfold runC; rw [List.foldl_append]; rfl
theorem take_snoc {α : Type} {l : List α} {i : Nat} {x : α} (h : l[i]? = some x) : l.take (i + 1) = l.take i ++ [x] := by
  rw [List.take_add_one, h]; rfl
theorem ran_take (cs : List CallV) : ∀ i, i ≤ cs.length → Ran (cs.take i) (runC (cs.take i))
  | 0, _ => by rw [List.take_zero]; exact Ran.nil
  | i + 1, h => by
    have e : cs[i]? = some (cs[i]'(by omega)) := List.getElem?_eq_getElem _
    rw [take_snoc e, runC_snoc]
    exact (ran_take cs i (by omega)).step _
def prunedC (t : StS) (n : Int) (ks : List Key2) : StS := ks.foldl (fun s k => stPrune s k n) t
theorem prunedC_snoc (t : StS) (n : Int) (ks : List Key2) (k : Key2) : prunedC t n (ks ++ [k]) = stPrune (prunedC t n ks) k n := by unfold prunedC; rw [List.foldl_append]; rfl
theorem pruned_take {t : StS} (ht : t.ok) (n : Int) (ks : List Key2) : ∀ i, i ≤ ks.length → Pruned t n (ks.take i) (prunedC t n (ks.take i))
  | 0, _ => by rw [List.take_zero]; exact Pruned.nil ht n
  | i + 1, h => by
    have e : ks[i]? = some (ks[i]'(by omega)) := List.getElem?_eq_getElem _
    rw [take_snoc e, prunedC_snoc]
    exact (pruned_take ht n ks i (by omega)).step ht _
def sumA (cs : List CallV) (o : Int) (ks : List Key2) : Nat := (ks.map fun k => putsN cs k o).sum
theorem sumA_snoc (cs : List CallV) (o : Int) (ks : List Key2) (k : Key2) : sumA cs o (ks ++ [k]) = sumA cs o ks + putsN cs k o := by simp [sumA]
theorem sumA_le {cs : List CallV} {N : Nat} (hN : cs.length ≤ N) (o : Int) (ks : List Key2) : sumA cs o ks ≤ ks.length * N := sum_le _ N ks (fun k _ => Nat.le_trans (putsN_le cs k o) hN)

theorem Sl.elem_at {α : Type} {enc : α → List Value} {sz : Nat} {w : World} {b off n : Nat} {l : List α} (hs : ∀ p, (enc p).length = sz) (hz : 0 < sz) (h : Sl w (some ⟨b, off, none⟩) n sz (cellsL enc l)) {k : Nat} (hk : k < n) {x : α} (hx : l[k]? = some x) :
    ∀ (j : Nat) u, (enc x)[j]? = some u → w.cell? ⟨b, off + k * sz + j, none⟩ = some u := by
  obtain ⟨b', o', c', e, hc', hcc'⟩ := h.elem hs hz hk
  injection e with e
  injection e with e1 e2
  subst e1 e2
  rw [hx] at hc'
  injection hc' with hc'
  subst hc'
  exact hcc'

set_option maxRecDepth 100000 in
set_option maxHeartbeats 2000000 in
theorem storePrunesLaw_any (A : Option Addr) (n cap : Nat) (cs : List CallV) (x : Int) (w : World) (hs : Sl w A n 6 (cellsL encCall cs)) (hok : ∀ c ∈ cs, CallOk c) (hg : ErrVar w) :
    Calls Tryd.prog 3 #[.slice A n cap, .int .i64 x] w fun e w' => e = .returned (.bool true) ∧ New w w' := by
  have hn := hs.le
  have HSL := Lib.hid hs
  have HOK := Lib.hid hok
  have HG := Lib.hid hg
  have HLEN := Lib.hid (hs.length encCall_len (by decide))
  clear hs hok hg
  by_cases hbig : 500 < n
  · go_enter Tryd.func3, Tryd.ntmps3
    go_wp2_with (go_at_call 4; refine (works_any _ HG.out).mono ?_; rintro e w1 ⟨rfl, hw1⟩)
    go_ret
    exact ⟨rfl, hw1⟩
  have hbg : decide (500 < (n : Int)) = false := by simp; omega
  go_enter Tryd.func3, Tryd.ntmps3
  go_wp2_with fail
  refine (storeNew_any 5 _).mono ?_
  rintro e w1 ⟨L0, rfl, hb0, hst0, hw1, hf0⟩
  go_wp2_with fail
  refine (storeNew_any 5 _).mono ?_
  rintro e w2 ⟨L1, rfl, hb1, hst1, hw2, hf1⟩
  have hduo := Duo.start hst0 hw1 hf0 hst1 hw2 hf1
  have HN2 := Lib.hid hduo.new0
  obtain ⟨p, hp⟩ : ∃ p, L0.s = p := ⟨_, rfl⟩
  obtain ⟨q, hq⟩ : ∃ q, L1.s = q := ⟨_, rfl⟩
  rw [hp, hq] at hduo
  rw [hp, hq]
  have HD := Lib.hid hduo
  clear hduo hst0 hw1 hf0 hst1 hw2 hf1 hp hq hb0 hb1
  go_wp2_with fail
  refine (works_any _ (HG.out.new_ HN2.out)).mono ?_
  rintro e w3 ⟨rfl, hw3⟩
  have HD3 := Lib.hid (HD.out.new_ hw3)
  clear HD HN2 hw3
  go_wp2
  go_loopw [7] (fun i wr => ∃ i' : Nat, i' ≤ n ∧ i = .int .i64 (i' : Int) ∧ Duo w p q (runC (cs.take i')) (runC (cs.take i')) (2 * i') (.slice none 0 0) [] wr) (fun i _ => n - (intOf i).toNat)
  case atStart => exact ⟨0, Nat.zero_le _, rfl, HD3.out⟩
  case round =>
    obtain ⟨i, hi, rfl, hd⟩ := hrel
    have HD := Lib.hid hd
    have hnr := hd.new0
    clear hd
    by_cases hlt : i < n
    · obtain ⟨cb, off, c, rfl, hc, hcc⟩ := HSL.out.elem encCall_len (by decide) hlt
      have HCC := Lib.hid (fun W (hW : New w W) (j : Nat) u (hu : (encCall c)[j]? = some u) => hW.cell (hcc j u hu) (fun h => h))
      have hcok := HOK.out c (List.mem_of_getElem? hc)
      have HCOK := Lib.hid hcok
      have k0 := HCC.out wr hnr 0 _ rfl
      have k1 := HCC.out wr hnr 1 _ rfl
      have k2 := HCC.out wr hnr 2 _ rfl
      have k3 := HCC.out wr hnr 3 _ rfl
      have k4 := HCC.out wr hnr 4 _ rfl
      have k5 := HCC.out wr hnr 5 _ rfl
      simp only [Nat.add_zero] at k0
      have HC := Lib.hid hc
      have HT := Lib.hid (show runC (cs.take (i + 1)) = after (runC (cs.take i)) c from by rw [take_snoc hc, runC_snoc])
      clear hc hcok hcc
      by_cases hkind : c.kind = 3
      · have hne : ((c.kind : Int) != 3) = false := by simpa using hkind
        have hsame : after (runC (cs.take i)) c = runC (cs.take i) := by unfold after; rw [hkind]; rfl
        have HSAME := Lib.hid hsame
        clear hkind hsame
        go_wp2
        go_roundw
        case rel =>
          refine ⟨i + 1, by omega, by go_num, ?_⟩
          rw [HT.out, HSAME.out]
          exact HD.out.mono (by omega) (by omega)
        case measure => simp [intOf]; omega
      · have hne : ((c.kind : Int) != 3) = true := by simpa using hkind
        have HASK := Lib.hid (fun W s t N (hd : Duo w p q s t N (.slice none 0 0) [] W) hN => hd.ask_call HCOK.out hN HG.out)
        clear hkind
        go_wp2_with fail
        refine (HASK.out _ _ _ _ HD.out (by omega)).mono ?_
        rintro e w4 ⟨⟨v4, rfl⟩, hd4⟩
        have h4n := hd4.new0
        have k0' := HCC.out w4 h4n 0 _ rfl
        have k1' := HCC.out w4 h4n 1 _ rfl
        have k2' := HCC.out w4 h4n 2 _ rfl
        have k3' := HCC.out w4 h4n 3 _ rfl
        have k4' := HCC.out w4 h4n 4 _ rfl
        have k5' := HCC.out w4 h4n 5 _ rfl
        simp only [Nat.add_zero] at k0'
        have HD4 := Lib.hid hd4.swap
        have HASKB := Lib.hid (fun W s t N (hd : Duo w q p s t N (.slice none 0 0) [] W) hN => hd.ask_call HCOK.out hN HG.out)
        clear hd4 k0 k1 k2 k3 k4 k5 h4n HASK
        go_wp2_with fail
        refine (HASKB.out _ _ _ _ HD4.out (by omega)).mono ?_
        rintro e w5 ⟨⟨v5, rfl⟩, hd5⟩
        have HD5 := Lib.hid hd5.swap
        clear hd5
        go_wp2
        go_roundw
        case rel => exact ⟨i + 1, by omega, by go_num, by rw [HT.out]; exact HD5.out.mono (by omega) (by omega)⟩
        case measure => simp [intOf]; omega
    · obtain rfl : i = n := by omega
      have htk : cs.take i = cs := by rw [← HLEN.out]; exact List.take_length
      have hran : Ran cs (runC cs) := by have := ran_take cs i (by rw [HLEN.out]; exact Nat.le_refl _); rwa [htk] at this
      rw [htk] at HD
      obtain ⟨t, ht⟩ : ∃ t, runC cs = t := ⟨_, rfl⟩
      rw [ht] at hran HD
      have HRAN := Lib.hid hran
      have HOKT := Lib.hid hran.ok
      have hcnt := HD.out.count
      have hlo := oldest_le t x
      obtain ⟨o, ho⟩ : ∃ o, stOldest t x = o := ⟨_, rfl⟩
      have HO := Lib.hid ho
      have HOA := Lib.hid (HD.out.oldest_call x)
      rw [ho] at HOA hlo
      have hne1 : ((o : Int) != (o : Int)) = false := by simp
      have HWF := Lib.hid (keys_wf hran HOK.out)
      clear hran ht htk ho hlt hi
      go_wp2_with fail
      refine HOA.out.mono ?_
      rintro e w4 ⟨rfl, hw4⟩
      have HD4 := Lib.hid (HD.out.new_ hw4)
      have HOB := Lib.hid (HD4.out.swap.oldest_call x)
      rw [HO.out] at HOB
      clear hw4
      go_wp2_with fail
      refine HOB.out.mono ?_
      rintro e w5 ⟨rfl, hw5⟩
      have HD5 := Lib.hid (HD4.out.new_ hw5)
      have HK5 := Lib.hid HD5.out.swap.keys_call
      obtain ⟨ks, hks⟩ : ∃ ks, keysOf t.rows = ks := ⟨_, rfl⟩
      have HKS := Lib.hid hks
      rw [hks] at HK5 hcnt HWF
      clear hw5 hks HD4 HOA HOB HD
      go_wp2_with fail
      refine HK5.out.mono ?_
      rintro e w6 ⟨kv, rfl, hk6, hw6⟩
      obtain ⟨KA, kc, rfl⟩ := own_shape hk6
      have HD6 := Lib.hid (HD5.out.keys hk6 hw6)
      obtain ⟨nk, hnk⟩ : ∃ nk, ks.length = nk := ⟨_, rfl⟩
      have HNK := Lib.hid hnk
      rw [hnk] at HD6 hcnt ⊢
      have hnk2 := hcnt.1
      clear hk6 hw6 hnk hcnt HK5 HD5
      go_wp2
      go_loopw [10] (fun j wr => ∃ j' : Nat, j' ≤ nk ∧ j = .int .i64 (j' : Int) ∧ Duo w p q (prunedC t x (ks.take j')) t (2 * i) (.slice KA nk kc) ks wr) (fun j _ => nk - (intOf j).toNat)
      case atStart => exact ⟨0, Nat.zero_le _, rfl, by rw [List.take_zero]; exact HD6.out⟩
      case round =>
        obtain ⟨j, hj, rfl, hd⟩ := hrel
        have HD := Lib.hid hd
        have hrow := hd.row
        have hsl : Sl wr KA nk 2 (cellsL encKey ks) := own_sl (by rw [← HNK.out] at *; exact hrow)
        clear hd hrow
        by_cases hjl : j < nk
        · obtain ⟨b1, o1, ⟨y1, y2⟩, rfl, hy, hyc⟩ := hsl.elem encKey_len (by decide) hjl
          have c0 := hyc 0 _ rfl
          have c1 := hyc 1 _ rfl
          simp only [Nat.add_zero] at c0
          have hwf := HWF.out _ (List.mem_of_getElem? hy)
          have HPR := Lib.hid (HD.out.prune_call hwf x (by omega))
          have HT := Lib.hid (show prunedC t x (ks.take (j + 1)) = stPrune (prunedC t x (ks.take j)) (y1, y2) x from by rw [take_snoc hy, prunedC_snoc])
          obtain ⟨gn, hgn⟩ : ∃ gn : Nat, goneV (rowOf (prunedC t x (ks.take j)).rows (y1, y2)) (stOldest (prunedC t x (ks.take j)) x) = gn := ⟨_, rfl⟩
          rw [hgn] at HPR
          clear hy hyc hwf hgn hsl
          go_wp2_with fail
          refine HPR.out.mono ?_
          rintro e w7 ⟨rfl, hd7⟩
          have HD7 := Lib.hid hd7
          clear hd7
          go_wp2
          go_roundw
          case rel => exact ⟨j + 1, by omega, by go_num, by rw [HT.out]; exact HD7.out⟩
          case measure => simp [intOf]; omega
        · obtain rfl : j = nk := by omega
          have hpr := pruned_take HOKT.out x ks j (by rw [HNK.out]; exact Nat.le_refl _)
          have htk : ks.take j = ks := by rw [← HNK.out]; exact List.take_length
          rw [htk] at HD hpr
          have HPR := Lib.hid (show Pruned t x (keysOf t.rows) (prunedC t x ks) from by rw [HKS.out]; exact hpr)
          obtain ⟨s, hse⟩ : ∃ s, prunedC t x ks = s := ⟨_, rfl⟩
          rw [hse] at HD HPR
          clear hpr htk hse hsl hj hjl
          go_wp2
          go_loopw [11, 12] (fun a v wr => ∃ m : Nat, m ≤ j ∧ v = .int .i64 (m : Int) ∧ a = .int .i64 (sumA cs o (ks.take m) : Int) ∧ Duo w p q s t (2 * i) (.slice KA j kc) ks wr) (fun _ v _ => j - (intOf v).toNat)
          case atStart => exact ⟨0, Nat.zero_le _, rfl, rfl, HD.out⟩
          case round =>
            obtain ⟨m, hm, rfl, rfl, hd⟩ := hrel
            have HD := Lib.hid hd
            have hnr := hd.new0
            have hrow := hd.row
            have hsl : Sl wr KA j 2 (cellsL encKey ks) := own_sl (by rw [← HNK.out] at *; exact hrow)
            have HSK := Lib.hid hsl
            clear hd hrow
            by_cases hmj : m < j
            · obtain ⟨b1, o1, ⟨y1, y2⟩, rfl, hy, hyc⟩ := hsl.elem encKey_len (by decide) hmj
              have HYC := Lib.hid (fun W (hW : New wr W) (j : Nat) u (hu : (encKey (y1, y2))[j]? = some u) => hW.cell (hyc j u hu) (fun h => h))
              have c0 := hyc 0 _ rfl
              have c1 := hyc 1 _ rfl
              simp only [Nat.add_zero] at c0
              have hwf := HWF.out _ (List.mem_of_getElem? hy)
              have hmem : (y1, y2) ∈ keysOf t.rows := by rw [HKS.out]; exact List.mem_of_getElem? hy
              have HA := Lib.hid (HD.out.last_call hwf)
              have HTRUE := end_true HOKT.out hmem
              have HEND := HPR.out.end_ HOKT.out (y1, y2)
              have HT := Lib.hid (show sumA cs o (ks.take (m + 1)) = sumA cs o (ks.take m) + putsN cs (y1, y2) o from by rw [take_snoc hy, sumA_snoc])
              have hbound : sumA cs o (ks.take m) ≤ m * 500 := by
                have h1 := sumA_le (cs := cs) (N := 500) (by rw [HLEN.out]; omega) o (ks.take m)
                rw [List.length_take] at h1
                exact Nat.le_trans h1 (Nat.mul_le_mul_right _ (Nat.min_le_left _ _))
              have hag := HPR.out.again HOKT.out (y1, y2)
              have HB := Lib.hid (fun W (hW : New wr W) => (HD.out.new_ hW).swap.last_call hwf)
              have HC := Lib.hid (fun W (hW : New wr W) => (HD.out.new_ hW).prune_call hwf x (by omega))
              rw [hag.1, hag.2] at HC
              obtain ⟨⟨ev, en, eok⟩, hev⟩ : ∃ z, endV (rowOf t.rows (y1, y2)) = z := ⟨_, rfl⟩
              rw [hev] at HEND HTRUE
              unfold ansL at HA HB
              rw [HEND] at HA
              rw [hev] at HB
              dsimp only at HA HB HTRUE
              subst HTRUE
              obtain ⟨acc, hacc⟩ : ∃ acc, sumA cs o (ks.take m) = acc := ⟨_, rfl⟩
              rw [hacc] at HT hbound ⊢
              have z5 : ((en : Int) != (en : Int)) = false := by simp
              have HY := Lib.hid hy
              clear hy hyc hwf hmem HEND hag hev hsl hacc
              go_wp2_with fail
              refine HA.out.mono ?_
              rintro e w7 ⟨rfl, hw7⟩
              have d0 := HYC.out w7 hw7 0 _ rfl
              have d1 := HYC.out w7 hw7 1 _ rfl
              simp only [Nat.add_zero] at d0
              clear c0 c1
              go_wp2_with fail
              refine (HB.out w7 hw7).mono ?_
              rintro e w8 ⟨rfl, hw8⟩
              have hw78 := New.trans hw7 hw8
              have c0 := HYC.out w8 hw78 0 _ rfl
              have c1 := HYC.out w8 hw78 1 _ rfl
              simp only [Nat.add_zero] at c0
              clear d0 d1
              go_wp2_with fail
              refine (HC.out w8 hw78).mono ?_
              rintro e w9 ⟨rfl, hd9⟩
              have HD9 := Lib.hid hd9
              have hn9 := hd9.new0
              have HSK9 := Lib.hid (show Sl w9 (some ⟨b1, o1, none⟩) j 2 (cellsL encKey ks) from own_sl (by have hrow := hd9.row; rw [← HNK.out] at *; exact hrow))
              clear hd9 c0 c1
              go_wp2
              go_loopw [11, 19] (fun a v wr => ∃ k : Nat, k ≤ i ∧ v = .int .i64 (k : Int) ∧ a = .int .i64 ((acc + putsN (cs.take k) (y1, y2) o : Nat) : Int) ∧ New w9 wr) (fun _ v _ => i - (intOf v).toNat)
              case atStart => exact ⟨0, Nat.zero_le _, rfl, rfl, Mod.refl _ _⟩
              case round =>
                obtain ⟨k, hk, rfl, rfl, hwk⟩ := hrel
                rename_i wr9 _
                by_cases hki : k < i
                · obtain ⟨cb, off, c, rfl, hc, hcc⟩ := (HSL.out.new_ (New.trans hn9 hwk)).elem encCall_len (by decide) hki
                  obtain ⟨on, kind, ⟨x1, x2⟩, cn, cv⟩ := c
                  have k1 := hcc 1 _ rfl
                  have k2 := hcc 2 _ rfl
                  have k3 := hcc 3 _ rfl
                  have k4 := hcc 4 _ rfl
                  dsimp only at k1 k2 k3 k4
                  have hcy := (HSK9.out.new_ hwk).elem_at encKey_len (by decide) hmj HY.out
                  have c0 := hcy 0 _ rfl
                  have c1 := hcy 1 _ rfl
                  simp only [Nat.add_zero] at c0
                  have hput : putsN (cs.take (k + 1)) (y1, y2) o = putsN (cs.take k) (y1, y2) o + if kind = 0 ∧ (x1, x2) = (y1, y2) ∧ o < cn then 1 else 0 := by rw [take_snoc hc, putsN_snoc]
                  have hpl : putsN (cs.take k) (y1, y2) o ≤ 500 := by
                    have h1 := putsN_le (cs.take k) (y1, y2) o
                    rw [List.length_take] at h1
                    omega
                  obtain ⟨pk, hpk⟩ : ∃ pk, putsN (cs.take k) (y1, y2) o = pk := ⟨_, rfl⟩
                  rw [hpk] at hput hpl ⊢
                  by_cases h0 : kind = 0
                  · have q0 : (kind == 0) = true := by simpa using h0
                    by_cases h1 : x1 = y1
                    · have q1 : (x1 == y1) = true := by simpa using h1
                      by_cases h2 : x2 = y2
                      · have q2 : (x2 == y2) = true := by simpa using h2
                        by_cases h3 : o < cn
                        · rw [if_pos ⟨h0, by rw [h1, h2], h3⟩] at hput
                          have HPUT := Lib.hid hput
                          clear hcc hc hcy hpk hput h0 h1 h2
                          go_wp2
                          go_quiet (fail)
                          go_wp2
                          go_roundw
                          case rel => exact ⟨k + 1, by omega, by go_num, by rw [HPUT.out]; go_num, hwk.drewN _⟩
                          case measure => simp [intOf]; omega
                        · rw [if_neg (fun h => h3 h.2.2)] at hput
                          have HPUT := Lib.hid hput
                          clear hcc hc hcy hpk hput h0 h1 h2
                          go_wp2
                          go_quiet (fail)
                          go_wp2
                          go_roundw
                          case rel => exact ⟨k + 1, by omega, by go_num, by rw [HPUT.out]; rfl, hwk.drewN _⟩
                          case measure => simp [intOf]; omega
                      · have q2 : (x2 == y2) = false := by simpa using h2
                        rw [if_neg (fun h => h2 (congrArg Prod.snd h.2.1))] at hput
                        have HPUT := Lib.hid hput
                        clear hcc hc hcy hpk hput h0 h1
                        go_wp2
                        go_quiet (fail)
                        go_wp2
                        go_roundw
                        case rel => exact ⟨k + 1, by omega, by go_num, by rw [HPUT.out]; rfl, hwk.drewN _⟩
                        case measure => simp [intOf]; omega
                    · have q1 : (x1 == y1) = false := by simpa using h1
                      rw [if_neg (fun h => h1 (congrArg Prod.fst h.2.1))] at hput
                      have HPUT := Lib.hid hput
                      clear hcc hc hcy hpk hput h0
                      go_wp2
                      go_quiet (fail)
                      go_wp2
                      go_roundw
                      case rel => exact ⟨k + 1, by omega, by go_num, by rw [HPUT.out]; rfl, hwk.drewN _⟩
                      case measure => simp [intOf]; omega
                  · have q0 : (kind == 0) = false := by simpa using h0
                    rw [if_neg (fun h => h0 h.1)] at hput
                    have HPUT := Lib.hid hput
                    clear hcc hc hcy hpk hput
                    go_wp2
                    go_quiet (fail)
                    go_wp2
                    go_roundw
                    case rel => exact ⟨k + 1, by omega, by go_num, by rw [HPUT.out]; rfl, hwk.drewN _⟩
                    case measure => simp [intOf]; omega
                · obtain rfl : k = i := by omega
                  have htk : cs.take k = cs := by rw [← HLEN.out]; exact List.take_length
                  rw [htk]
                  have hn9r := hwk
                  go_wp2
                  go_roundw
                  case rel => exact ⟨m + 1, by omega, by go_num, by rw [HT.out], HD9.out.new_ hn9r⟩
                  case measure => simp [intOf]; omega
            · obtain rfl : m = j := by omega
              have htk : ks.take m = ks := by rw [← HNK.out]; exact List.take_length
              rw [htk]
              have hver := HPR.out.versions HRAN.out
              rw [HKS.out, HO.out, HNK.out] at hver
              have hsum : sumA cs o ks ≤ 500000 := by
                have h1 := sumA_le (cs := cs) (N := 500) (by rw [HLEN.out]; omega) o ks
                rw [HNK.out] at h1
                exact Nat.le_trans h1 (by omega)
              change stVersions s ≤ m + sumA cs o ks at hver
              obtain ⟨acc, hacc⟩ : ∃ acc, sumA cs o ks = acc := ⟨_, rfl⟩
              obtain ⟨nv, hnv⟩ : ∃ nv, stVersions s = nv := ⟨_, rfl⟩
              rw [hacc] at hver hsum ⊢
              rw [hnv] at hver
              have HSEE := Lib.hid (fun W (hW : New wr W) => (HD.out.new_ hW).sees_call (cap := cap) (o := o) (HSL.out.new_ (New.trans hnr hW)) HOK.out (fun k mm hmm => HPR.out.at_ HOKT.out k (by rw [HO.out]; exact hmm)))
              have HKEY := Lib.hid (fun W (hW : New wr W) => (HD.out.new_ hW).keys_call)
              rw [HPR.out.sameKeys, HKS.out] at HKEY
              unfold KeysPost at HKEY
              rw [HNK.out] at HKEY
              have HVS := Lib.hid (fun W (hW : New wr W) => (HD.out.new_ hW).versions_call)
              rw [hnv] at HVS
              clear hacc hnv htk hmj hm
              go_wp2_with fail
              refine (HSEE.out wr (Mod.refl _ _)).mono ?_
              rintro e w7 ⟨rfl, hw7⟩
              go_wp2_with fail
              refine (HKEY.out w7 hw7).mono ?_
              rintro e w8 ⟨v8, rfl, ho8, hw8⟩
              obtain ⟨A8, c8, rfl⟩ := own_shape ho8
              have hw78 := New.trans hw7 hw8
              have HSM := Lib.hid (sameKeys_any A8 KA m c8 kc ks w8 (own_sl ho8) (HSK.out.new_ hw78))
              clear ho8
              go_wp2_with fail
              refine HSM.out.mono ?_
              rintro e w9 ⟨rfl, hw9⟩
              have hw79 := New.trans hw78 hw9
              go_wp2_with fail
              refine (HVS.out w9 hw79).mono ?_
              rintro e w10 ⟨rfl, hw10⟩
              have hw710 := New.trans hw79 hw10
              have HSK10 := Lib.hid (HSK.out.new_ hw710)
              have hn10 := New.trans hnr hw710
              clear hw7 hw8 hw9 hw10 hw78 hw79 hw710
              go_wp2
              go_loopw [20] (fun v wr => ∃ k : Nat, 1 ≤ k ∧ v = .int .i64 (k : Int) ∧ New w10 wr) (fun v _ => m - (intOf v).toNat)
              case atStart => exact ⟨1, Nat.le_refl _, rfl, Mod.refl _ _⟩
              case round =>
                obtain ⟨k, hk1, rfl, hwk⟩ := hrel
                by_cases hkm : k < m
                · have hsk := HSK10.out.new_ hwk
                  obtain ⟨b1, o1, ⟨y1, y2⟩, rfl, hy, hyc⟩ := hsk.elem encKey_len (by decide) hkm
                  obtain ⟨⟨x1, x2⟩, hx⟩ : ∃ z, ks[k - 1]? = some z := ⟨_, List.getElem?_eq_getElem (by rw [HNK.out]; omega)⟩
                  have hxc := hsk.elem_at encKey_len (by decide) (show k - 1 < m by omega) hx
                  have c0 := hyc 0 _ rfl
                  have c1 := hyc 1 _ rfl
                  have d0 := hxc 0 _ rfl
                  have d1 := hxc 1 _ rfl
                  simp only [Nat.add_zero] at c0 d0
                  have hless := keyLess_iff.1 (keys_up_at HOKT.out (i := k - 1) (a := (x1, x2)) (b := (y1, y2)) (by rw [HKS.out]; exact hx) (by rw [HKS.out, show k - 1 + 1 = k by omega]; exact hy))
                  dsimp only at hless
                  have c0' : (wr.alloc (.cells #[.int .i64 x1, .int .i64 x2] 27)).cell? ⟨b1, o1 + k * 2, none⟩ = some (.int .i64 y1) := (show New wr _ from (Mod.refl _ wr).alloc _).cell c0 (fun h => h)
                  have c1' : (wr.alloc (.cells #[.int .i64 x1, .int .i64 x2] 27)).cell? ⟨b1, o1 + k * 2 + 1, none⟩ = some (.int .i64 y2) := (show New wr _ from (Mod.refl _ wr).alloc _).cell c1 (fun h => h)
                  clear hyc hxc hsk hy hx c0 c1
                  rcases hless with hl | ⟨he, hl⟩
                  · go_wp2
                    go_roundw
                    case rel => exact ⟨k + 1, by omega, by go_num, (hwk.alloc _).alloc _⟩
                    case measure => simp [intOf]; omega
                  · subst he
                    go_wp2
                    go_roundw
                    case rel => exact ⟨k + 1, by omega, by go_num, (hwk.alloc _).alloc _⟩
                    case measure => simp [intOf]; omega
                · go_wp2
                  go_ret
                  exact ⟨rfl, New.trans hn10 hwk⟩
end Go.Proofs.YtfifalopbfopnaaDoor
