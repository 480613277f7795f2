/- The law: StoreShards. -/
import Derived.Test.YtfifalopbfopnaaGreatDoorZc
import Derived.Deep.RegionHeld3
import Derived.IntWalk
import Derived.Laws.StructEq
set_option linter.unusedVariables false
set_option linter.unusedSimpArgs false
namespace Go.Proofs.YtfifalopbfopnaaGreatDoor
open Go.RowKit

def runC (cs : List CallV) : StS := cs.foldl after stNew
theorem runC_snoc (cs : List CallV) (c : CallV) : runC (cs ++ [c]) = after (runC cs) c := by unfold runC; rw [List.foldl_append]; rfl
theorem take_snoc {α : Type} {l : List α} {i : Nat} {x : α} (h : l[i]? = some x) : l.take (i + 1) = l.take i ++ [x] := by
  rw [List.take_add_one, h]; rfl
theorem after_none (st : StS) (c : CallV) (h : c.kind < 0 ∨ 8 < c.kind ∨ c.kind = 3) : after st c = st := by
  unfold after
  rw [if_neg (by omega), if_neg (by omega), if_neg (by omega), if_neg (by omega)]

set_option maxRecDepth 100000 in
set_option maxHeartbeats 2000000 in
theorem storeShardsLaw_any (A : Option Addr) (n cap : Nat) (cs : List CallV) (a b : Int) (w : World) (hs : Sl w A n 6 (cellsL encCall cs)) (hok : ∀ c ∈ cs, CallOk c) (hg : ErrVar w) :
    Calls Tryz.prog 5 #[.slice A n cap, .int .i64 a, .int .i64 b] w fun e w' => e = .returned (.bool true) ∧ New w w' := by
  have hn := hs.le
  have HSL := Lib.hid hs
  have HOK := Lib.hid hok
  have HG := Lib.hid hg
  have HLEN := Lib.hid (hs.length encCall_len (by decide))
  clear hs hok hg
  by_cases hbig : 500 < n
  · go_enter Tryz.func5, Tryz.ntmps5
    go_wp2_with (go_at_call 6; refine (works_any _ HG.out).mono ?_; rintro e w1 ⟨rfl, hw1⟩)
    go_ret
    exact ⟨rfl, hw1⟩
  have hbg : decide (500 < (n : Int)) = false := by simp; omega
  go_enter Tryz.func5, Tryz.ntmps5
  go_wp2_with fail
  refine (storeNew_any a _).mono ?_
  rintro e w1 ⟨L0, rfl, hb0, hst0, hw1, hf0⟩
  go_wp2_with fail
  refine (storeNew_any b _).mono ?_
  rintro e w2 ⟨L1, rfl, hb1, hst1, hw2, hf1⟩
  go_wp2_with fail
  refine (I.storeNew_any b _).mono ?_
  rintro e w3 ⟨L2, rfl, hb2, hst2, hw3, hf2⟩
  have htrio := Trio.start hst0 hw1 hf0 hst1 hw2 hf1 hst2 hw3 hf2
  have HN3 := Lib.hid htrio.new0
  obtain ⟨p, hp⟩ : ∃ p, L0.s = p := ⟨_, rfl⟩
  obtain ⟨q, hq⟩ : ∃ q, L1.s = q := ⟨_, rfl⟩
  obtain ⟨r, hr⟩ : ∃ r, L2.s = r := ⟨_, rfl⟩
  rw [hp, hq, hr] at htrio
  rw [hp, hq, hr]
  have HT := Lib.hid htrio
  clear htrio hst0 hw1 hf0 hst1 hw2 hf1 hst2 hw3 hf2 hp hq hr hb0 hb1 hb2
  go_wp2_with fail
  refine (works_any _ (HG.out.new_ HN3.out)).mono ?_
  rintro e w4 ⟨rfl, hw4⟩
  have HT4 := Lib.hid (HT.out.new_ hw4)
  clear HT HN3 hw4
  go_wp2
  go_loopw [10] (fun i wr => ∃ i' : Nat, i' ≤ n ∧ i = .int .i64 (i' : Int) ∧ Trio w p q r (runC (cs.take i')) (runC (cs.take i')) (runC (cs.take i')) (3 * i') wr) (fun i _ => n - (intOf i).toNat)
  case atStart => exact ⟨0, Nat.zero_le _, rfl, HT4.out⟩
  case round =>
    obtain ⟨i, hi, rfl, ht⟩ := hrel
    have HT := Lib.hid ht
    have hnr := ht.new0
    clear ht
    by_cases hlt : i < n
    · obtain ⟨cb, off, c, rfl, hc, hcc⟩ := (HSL.out.new_ hnr).elem encCall_len (by decide) hlt
      have hcok := HOK.out c (List.mem_of_getElem? hc)
      have HCOK := Lib.hid hcok
      have k0 := hcc 0 _ rfl
      have k1 := hcc 1 _ rfl
      have k2 := hcc 2 _ rfl
      have k3 := hcc 3 _ rfl
      have k4 := hcc 4 _ rfl
      have k5 := hcc 5 _ rfl
      simp only [Nat.add_zero] at k0
      obtain ⟨st, hst⟩ : ∃ st, runC (cs.take i) = st := ⟨_, rfl⟩
      have HR := Lib.hid (show runC (cs.take (i + 1)) = after st c from by rw [take_snoc hc, runC_snoc, hst])
      rw [hst] at HT
      clear hc hcok hcc hst
      obtain ⟨on, kind, ⟨k1v, k2v⟩, cn, cv⟩ := c
      dsimp only at k0 k1 k2 k3 k4 k5
      obtain ⟨wo, hwo⟩ : ∃ wo, wr.alloc (.cells #[.int .i64 on, .int .i64 kind, .int .i64 k1v, .int .i64 k2v, .int .i64 cn, .string cv] 35) = wo := ⟨_, rfl⟩
      have hwn : New wr wo := by rw [← hwo]; exact (Mod.refl _ _).alloc _
      have HTB := Lib.hid (HT.out.b.blk (g := wr.heap.size) hwn (by rw [← hwo]; exact Blk.new wr 35 [.int .i64 on, .int .i64 kind, .int .i64 k1v, .int .i64 k2v, .int .i64 cn, .string cv]) (Nat.le_refl _))
      have HWO := Lib.hid hwo
      clear hwn hwo
      by_cases hlow : kind < 0
      · have HSAME := Lib.hid (after_none st ⟨on, kind, (k1v, k2v), cn, cv⟩ (.inl hlow))
        go_wp2
        go_roundw
        case rel => exact ⟨i + 1, by omega, by go_num, by rw [HR.out, HSAME.out, HWO.out]; exact HTB.out.trio.mono (by omega) (by omega)⟩
        case measure => simp [intOf]; omega
      by_cases hhigh : 8 < kind
      · have HSAME := Lib.hid (after_none st ⟨on, kind, (k1v, k2v), cn, cv⟩ (.inr (.inl hhigh)))
        go_wp2
        go_roundw
        case rel => exact ⟨i + 1, by omega, by go_num, by rw [HR.out, HSAME.out, HWO.out]; exact HTB.out.trio.mono (by omega) (by omega)⟩
        case measure => simp [intOf]; omega
      by_cases hthree : kind = 3
      · have HSAME := Lib.hid (after_none st ⟨on, kind, (k1v, k2v), cn, cv⟩ (.inr (.inr hthree)))
        subst hthree
        have hcnt := HT.out.count
        obtain ⟨ks, hks⟩ : ∃ ks, keysOf st.rows = ks := ⟨_, rfl⟩
        obtain ⟨nk, hnk⟩ : ∃ nk, ks.length = nk := ⟨_, rfl⟩
        have HKA := Lib.hid (fun W (hW : New wo W) => (HTB.out.trio.new_ hW).keysA)
        have HKB := Lib.hid (fun W (hW : New wo W) => (HTB.out.trio.new_ hW).swap.keysA)
        have HKC := Lib.hid (fun W (hW : New wo W) => (HTB.out.trio.new_ hW).keysC)
        unfold KeysPost at HKA HKB
        unfold I.KeysPost at HKC
        rw [hks, hnk] at HKA HKB HKC
        clear hks hnk hcnt
        go_wp2_with fail
        rw [HWO.out]
        refine (HKA.out wo (Mod.refl _ _)).mono ?_
        rintro e w5 ⟨v5, rfl, ho5, hw5⟩
        obtain ⟨A5, c5, rfl⟩ := own_shape ho5
        have HS5 := Lib.hid (own_sl ho5)
        clear ho5
        go_wp2_with fail
        refine (HKB.out w5 hw5).mono ?_
        rintro e w6 ⟨v6, rfl, ho6, hw6⟩
        obtain ⟨A6, c6, rfl⟩ := own_shape ho6
        have h56 := New.trans hw5 hw6
        have HSM := Lib.hid (sameKeys_any A5 A6 nk c5 c6 ks w6 (HS5.out.new_ hw6) (own_sl ho6))
        clear ho6
        go_wp2_with fail
        refine HSM.out.mono ?_
        rintro e w7 ⟨rfl, hw7⟩
        have h57 := New.trans h56 hw7
        go_wp2_with fail
        refine (HKA.out w7 h57).mono ?_
        rintro e w8 ⟨v8, rfl, ho8, hw8⟩
        obtain ⟨A8, c8, rfl⟩ := own_shape ho8
        have HS8 := Lib.hid (own_sl ho8)
        have h58 := New.trans h57 hw8
        clear ho8
        go_wp2_with fail
        refine (HKC.out w8 h58).mono ?_
        rintro e w9 ⟨v9, rfl, ho9, hw9⟩
        obtain ⟨A9, c9, rfl⟩ := own_shape ho9
        have h59 := New.trans h58 hw9
        have HSM2 := Lib.hid (sameKeys_any A8 A9 nk c8 c9 ks w9 (HS8.out.new_ hw9) (own_sl ho9))
        clear ho9
        go_wp2_with fail
        refine HSM2.out.mono ?_
        rintro e w10 ⟨rfl, hw10⟩
        have h510 := New.trans h59 hw10
        go_wp2
        go_roundw
        case rel => exact ⟨i + 1, by omega, by go_num, by rw [HR.out, HSAME.out]; exact (HTB.out.trio.new_ h510).mono (by omega) (by omega)⟩
        case measure => simp [intOf]; omega
      · have HASK := Lib.hid (HTB.out.ask_call HCOK.out (by omega) HG.out)
        have hNN : 3 * i + 3 ≤ 1048576 := by omega
        go_wp2_with fail
        rw [HWO.out]
        refine HASK.out.mono ?_
        rintro e w5 ⟨⟨m, rfl⟩, htb5⟩
        obtain ⟨⟨av, an, aok⟩, hans⟩ : ∃ z, answer m st ⟨on, kind, (k1v, k2v), cn, cv⟩ = z := ⟨_, rfl⟩
        rw [hans, show saidVal ⟨av, an, aok⟩ = .agg #[.string av, .int .i64 an, .bool aok] from rfl]
        have HANS := Lib.hid (fun m' => (answer_shards m' m st ⟨on, kind, (k1v, k2v), cn, cv⟩ (by dsimp only; omega) (by dsimp only; omega) hthree).trans hans)
        obtain ⟨g1, hg1⟩ : ∃ g1, wr.heap.size = g1 := ⟨_, rfl⟩
        obtain ⟨g2, hg2⟩ : ∃ g2, w5.heap.size = g2 := ⟨_, rfl⟩
        obtain ⟨wx, hwx⟩ : ∃ wx, w5.alloc (.cells #[.string av, .int .i64 an, .bool aok] 37) = wx := ⟨_, rfl⟩
        have hx5 : New w5 wx := by rw [← hwx]; exact (Mod.refl _ _).alloc _
        have HX := Lib.hid (htb5.blk (g := g2) hx5 (by rw [← hwx, ← hg2]; exact Blk.new w5 37 [.string av, .int .i64 an, .bool aok]) (by omega))
        rw [hg1] at HX
        have HWX := Lib.hid hwx
        have HG1 := Lib.hid hg1
        have HG2 := Lib.hid hg2
        obtain ⟨l, hl⟩ : ∃ l : List (Nat × TypeId × List Value), [(g2, 37, [.string av, .int .i64 an, .bool aok]), (g1, 35, [.int .i64 on, .int .i64 kind, .int .i64 k1v, .int .i64 k2v, .int .i64 cn, .string cv])] = l := ⟨_, rfl⟩
        have HCELLS := Lib.hid (show ∀ p' q' s t u N W, TrioB w p' q' r s t u N l W → (W.cell? ⟨g1, 0, none⟩ = some (.int .i64 on) ∧ W.cell? ⟨g1, 1, none⟩ = some (.int .i64 kind) ∧ W.cell? ⟨g1, 2, none⟩ = some (.int .i64 k1v) ∧ W.cell? ⟨g1, 3, none⟩ = some (.int .i64 k2v) ∧ W.cell? ⟨g1, 4, none⟩ = some (.int .i64 cn) ∧ W.cell? ⟨g1, 5, none⟩ = some (.string cv) ∧ W.cell? ⟨g2, 0, none⟩ = some (.string av) ∧ W.cell? ⟨g2, 1, none⟩ = some (.int .i64 an) ∧ W.cell? ⟨g2, 2, none⟩ = some (.bool aok)) from fun p' q' s t u N W h => by
          rw [← hl] at h
          have h2 := h.at_ (List.mem_cons_self ..)
          have h1 := h.at_ (List.mem_cons_of_mem _ (List.mem_cons_self ..))
          exact ⟨h1.cell 0, h1.cell 1, h1.cell 2, h1.cell 3, h1.cell 4, h1.cell 5, h2.cell 0, h2.cell 1, h2.cell 2⟩)
        rw [hl] at HX
        have HASKB := Lib.hid (show ∀ W, TrioB w p q r (after st ⟨on, kind, (k1v, k2v), cn, cv⟩) st st (3 * i + 1) l W → Calls Tryz.prog 10 #[.pointer (some ⟨q, 0, none⟩), .agg #[.int .i64 on, .int .i64 kind, .int .i64 k1v, .int .i64 k2v, .int .i64 cn, .string cv]] W fun e w' => e = .returned (.agg #[.string av, .int .i64 an, .bool aok]) ∧ TrioB w p q r (after st ⟨on, kind, (k1v, k2v), cn, cv⟩) (after st ⟨on, kind, (k1v, k2v), cn, cv⟩) st (3 * i + 1 + 1) l w' ∧ (w'.cell? ⟨g1, 0, none⟩ = some (.int .i64 on) ∧ w'.cell? ⟨g1, 1, none⟩ = some (.int .i64 kind) ∧ w'.cell? ⟨g1, 2, none⟩ = some (.int .i64 k1v) ∧ w'.cell? ⟨g1, 3, none⟩ = some (.int .i64 k2v) ∧ w'.cell? ⟨g1, 4, none⟩ = some (.int .i64 cn) ∧ w'.cell? ⟨g1, 5, none⟩ = some (.string cv) ∧ w'.cell? ⟨g2, 0, none⟩ = some (.string av) ∧ w'.cell? ⟨g2, 1, none⟩ = some (.int .i64 an) ∧ w'.cell? ⟨g2, 2, none⟩ = some (.bool aok)) from fun W hW =>
          (hW.swap.ask_call HCOK.out (by omega) HG.out).mono fun e w' ⟨⟨m', he⟩, hs⟩ => ⟨by rw [he, HANS.out m']; rfl, hs.swap, HCELLS.out _ _ _ _ _ _ _ hs⟩)
        have HNUM := Lib.hid (show ∀ W, TrioB w p q r (after st ⟨on, kind, (k1v, k2v), cn, cv⟩) (after st ⟨on, kind, (k1v, k2v), cn, cv⟩) st (3 * i + 1 + 1) l W → Calls Tryz.prog 23 #[.pointer (some ⟨r, 0, none⟩), .agg #[.int .i64 on, .int .i64 kind, .int .i64 k1v, .int .i64 k2v, .int .i64 cn, .string cv], .agg #[.string av, .int .i64 an, .bool aok]] W fun e w' => e = .returned (.bool true) ∧ TrioB w p q r (after st ⟨on, kind, (k1v, k2v), cn, cv⟩) (after st ⟨on, kind, (k1v, k2v), cn, cv⟩) (after st ⟨on, kind, (k1v, k2v), cn, cv⟩) (3 * i + 1 + 1 + 1) l w' ∧ (w'.cell? ⟨g1, 0, none⟩ = some (.int .i64 on) ∧ w'.cell? ⟨g1, 1, none⟩ = some (.int .i64 kind) ∧ w'.cell? ⟨g1, 2, none⟩ = some (.int .i64 k1v) ∧ w'.cell? ⟨g1, 3, none⟩ = some (.int .i64 k2v) ∧ w'.cell? ⟨g1, 4, none⟩ = some (.int .i64 cn) ∧ w'.cell? ⟨g1, 5, none⟩ = some (.string cv) ∧ w'.cell? ⟨g2, 0, none⟩ = some (.string av) ∧ w'.cell? ⟨g2, 1, none⟩ = some (.int .i64 an) ∧ w'.cell? ⟨g2, 2, none⟩ = some (.bool aok)) from fun W hW => by
          have h1 := hW.number_call m HCOK.out (by omega) (by dsimp only; omega) (by dsimp only; omega) hthree
          rw [HANS.out m] at h1
          exact h1.mono fun e w' ⟨he, hs⟩ => ⟨he, hs, HCELLS.out _ _ _ _ _ _ _ hs⟩)
        have hP0 := HX.out.new_ (show New wx wx.drew from (Mod.refl _ _).drew)
        have hS0 := HCELLS.out _ _ _ _ _ _ _ hP0
        clear htb5 hans hwx hx5 hl HASK hg1 hg2
        go_wp2
        rw [HWX.out, HG1.out, HG2.out]
        go_region_held3 (fun w' => w'.cell? ⟨g1, 0, none⟩ = some (.int .i64 on) ∧ w'.cell? ⟨g1, 1, none⟩ = some (.int .i64 kind) ∧ w'.cell? ⟨g1, 2, none⟩ = some (.int .i64 k1v) ∧ w'.cell? ⟨g1, 3, none⟩ = some (.int .i64 k2v) ∧ w'.cell? ⟨g1, 4, none⟩ = some (.int .i64 cn) ∧ w'.cell? ⟨g1, 5, none⟩ = some (.string cv) ∧ w'.cell? ⟨g2, 0, none⟩ = some (.string av) ∧ w'.cell? ⟨g2, 1, none⟩ = some (.int .i64 an) ∧ w'.cell? ⟨g2, 2, none⟩ = some (.bool aok)) ((first | exact hS2 | exact hS1 | exact hS0)) ((first
          | (go_at_call 10; refine (HASKB.out _ hP0).mono ?_; rintro e w7 ⟨rfl, hP1, hS1⟩)
          | (go_at_call 23; refine (HNUM.out _ hP1).mono ?_; rintro e w8 ⟨rfl, hP2, hS2⟩)))
        all_goals
          have HFIN := Lib.hid hP2.trio
          go_wp2
          go_roundw
          case rel => exact ⟨i + 1, by omega, by go_num, by rw [HR.out]; exact HFIN.out⟩
          case measure => simp [intOf]; omega
    · obtain rfl : i = n := by omega
      have htk : cs.take i = cs := by rw [← HLEN.out]; exact List.take_length
      obtain ⟨m, hm1, hm2, hsh⟩ := HT.out.shards
      have HSH := Lib.hid hsh
      have HVA := Lib.hid (fun W (hW : New wr W) => (HT.out.new_ hW).versA)
      have HVC := Lib.hid (fun W (hW : New wr W) => (HT.out.new_ hW).versC)
      obtain ⟨nv, hnv⟩ : ∃ nv, stVersions (runC (cs.take i)) = nv := ⟨_, rfl⟩
      rw [hnv] at HVA HVC
      clear hsh htk hnv
      go_wp2_with fail
      refine (HSH.out wr (Mod.refl _ _)).mono ?_
      rintro e w5 ⟨rfl, hw5⟩
      go_wp2_with fail
      refine (HSH.out w5 hw5).mono ?_
      rintro e w6 ⟨rfl, hw6⟩
      have h56 := New.trans hw5 hw6
      go_wp2_with fail
      refine (HVA.out w6 h56).mono ?_
      rintro e w7 ⟨rfl, hw7⟩
      have h57 := New.trans h56 hw7
      go_wp2_with fail
      refine (HVC.out w7 h57).mono ?_
      rintro e w8 ⟨rfl, hw8⟩
      have h58 := New.trans h57 hw8
      have z6 : ((nv : Int) == (nv : Int)) = true := by simp
      go_wp2
      go_ret
      exact ⟨rfl, New.trans hnr h58⟩
end Go.Proofs.YtfifalopbfopnaaGreatDoor
