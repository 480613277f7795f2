/- Walks: the store (texts): Prune, Put. -/
import Derived.Test.YtfifalopbfopnaaGreatDoorVn
set_option linter.unusedVariables false
set_option linter.unusedSimpArgs false
namespace Go.Proofs.YtfifalopbfopnaaGreatDoor
open Go.RowKit Go.Maps

theorem setRow_self {α : Type} {rs : RowsV α} {k : Key2} {j : Nat} (hj : rowIdx rs k = some j) : setRow rs k (rowOf rs k) = rs := by
  rw [setRow_some hj]
  obtain ⟨l, hl⟩ := rowIdx_at hj
  have e : rowOf rs k = l := by unfold rowOf; rw [hj]; simp [hl]
  rw [e]
  refine List.ext_getElem? fun i => ?_
  by_cases h : i = j
  · subst h; rw [List.getElem?_set_self (List.getElem?_eq_some_iff.1 hl).1, hl]
  · rw [List.getElem?_set_ne (Ne.symm h)]
/-- What Prune leaves. -/
def SPrunePost (w : World) (L : Lay) (N : Nat) (st : StS) (k : Key2) (n : Int) (e : Ending) (w' : World) : Prop := e = .returned (.int .i64 (goneV (rowOf st.rows k) (stOldest st n) : Int)) ∧ Step w L N (stPrune st k n) w'
set_option maxRecDepth 100000 in
set_option maxHeartbeats 1000000 in
theorem storePrune_any (L : Lay) (N : Nat) (st : StS) (k : Key2) (n : Int) (w : World) (h : StoreAt w L N st) (hk : KeyWf k) :
    Calls Tryz.prog 35 #[.pointer (some ⟨L.s, 0, none⟩), .agg #[.int .i64 k.1, .int .i64 k.2], .int .i64 n] w (SPrunePost w L N st k n) := by
  obtain ⟨b, hb, _, _⟩ := h.shard k
  have HS := Lib.hid (fun W (hW : New w W) => storeShard_any L N st k b W (h.new_ hW) hb)
  have HOL := Lib.hid (fun W (hW : New w W) => storeOldest_any L N st n W (h.new_ hW))
  have n1 := Blk.new w 33 [.int .i64 k.1, .int .i64 k.2]
  have d0 := n1.cell 0
  have d1 := n1.cell 1
  simp only [List.getElem?_cons_zero, List.getElem?_cons_succ] at d0 d1
  clear n1
  obtain ⟨wo, hwo⟩ : ∃ wo, w.alloc (.cells #[.int .i64 k.1, .int .i64 k.2] 33) = wo := ⟨_, rfl⟩
  have hnew : New w wo := by rw [← hwo]; exact (Mod.refl _ _).alloc _
  have HWO := Lib.hid hwo
  cases hj : rowIdx st.rows k with
  | none =>
    have HLK := Lib.hid (fun W (hW : New w W) => (h.new_ hW).lookNone hk hb hj)
    have HPOST := Lib.hid (show ∀ W, New w W → SPrunePost w L N st k n (.returned (.int .i64 0)) W from fun W hW => by
      have hg : goneV (rowOf st.rows k) (stOldest st n) = 0 := by rw [rowOf_idx_none hj]; rfl
      refine ⟨by rw [hg]; rfl, ?_⟩
      unfold stPrune
      rw [if_pos hg]
      exact Step.same h hW)
    obtain ⟨k1, k2⟩ := k
    clear hj hb h hwo
    go_enter Tryz.func35, Tryz.ntmps35
    go_wp2
    rw [HWO.out] at d0 d1 ⊢
    go_region_held3 (fun w' => (w'.cell? ⟨w.heap.size, 0, none⟩ = some (.int .i64 k1) ∧ w'.cell? ⟨w.heap.size, 1, none⟩ = some (.int .i64 k2)) ∧ New wo w') ((first | exact ⟨⟨‹_›, ‹_›⟩, (Mod.refl _ _).drew⟩ | (refine two_step' ?_ hw1; assumption) | assumption)) ((go_at_call 64; refine (HS.out _ (New.trans hnew (And.right (by assumption)))).mono ?_; rintro e w1 ⟨rfl, hw1⟩; have hlk := HLK.out w1 (New.trans (New.trans hnew (And.right (by assumption))) hw1)))
    all_goals
      go_wp2
      go_ret
      exact HPOST.out _ (New.trans hnew (And.right (by assumption)))
  | some j =>
    obtain ⟨p, hp, hch, hri, hle, hrow⟩ := h.chain hj
    have HLK := Lib.hid (fun W (hW : New w W) => (h.new_ hW).lookSome hk hb hj hp)
    have hbig := h.bigN
    have hne : rowOf st.rows k ≠ [] := h.ok.some_ _ (List.mem_of_getElem? hrow)
    have HA := Lib.hid (fun W (hW : New w W) => chainPrune_any 0 p.1 p.2 (rowOf st.rows k) (stOldest st n) W (hch.new_ hW) hri (Nat.zero_le _) (by omega))
    have HPOST := Lib.hid (show ∀ W W' e, New w W → PrunePost W 0 p.1 p.2 (rowOf st.rows k) (stOldest st n) e W' → SPrunePost w L N st k n e W' from fun W W' e hW ⟨he, hm, v', hc, hv⟩ => by
      refine ⟨he, ?_⟩
      have hrp := hri.prune (stOldest st n)
      have h1 := Step.of_new hW ((h.new_ hW).upd_chain hj hp hm hc hv hrp (prune_ne _ hne) (N' := N) (by unfold pruneV; rw [List.length_drop]; omega) (Nat.le_refl _) hbig)
      unfold stPrune
      split
      · rename_i hg
        have e1 : pruneV (rowOf st.rows k) (stOldest st n) = rowOf st.rows k := by unfold pruneV; rw [hg, List.drop_zero]
        rw [e1, setRow_self hj] at h1
        exact h1
      · exact h1)
    generalize stOldest st n = old at *
    obtain ⟨k1, k2⟩ := k
    obtain ⟨c, v⟩ := p
    generalize hrs : rowOf st.rows (k1, k2) = row at *
    clear hj hb h hwo hp hch hri hle hrow hne hrs
    go_enter Tryz.func35, Tryz.ntmps35
    go_wp2
    rw [HWO.out] at d0 d1 ⊢
    go_region_held3 (fun w' => (w'.cell? ⟨w.heap.size, 0, none⟩ = some (.int .i64 k1) ∧ w'.cell? ⟨w.heap.size, 1, none⟩ = some (.int .i64 k2)) ∧ New wo w') ((first | exact ⟨⟨‹_›, ‹_›⟩, (Mod.refl _ _).drew⟩ | (refine two_step' ?_ hw1; assumption) | assumption)) ((go_at_call 64; refine (HS.out _ (New.trans hnew (And.right (by assumption)))).mono ?_; rintro e w1 ⟨rfl, hw1⟩; have hlk := HLK.out w1 (New.trans (New.trans hnew (And.right (by assumption))) hw1)))
    all_goals
      go_wp2_with (first
        | (go_at_call 34; refine (HOL.out _ (New.trans hnew (And.right (by assumption)))).mono ?_; rintro e w2 ⟨rfl, hw2⟩)
        | (go_at_call 71; refine (HA.out _ (New.trans (New.trans hnew (And.right (by assumption))) hw2)).mono ?_; intro e w3 hp3; have HP3 := Lib.hid (HPOST.out _ _ _ (New.trans (New.trans hnew (And.right (by assumption))) hw2) hp3); obtain ⟨rfl, _, _⟩ := hp3))
      go_ret
      exact HP3.out

/-- What Put leaves. -/
def SPutPost (w : World) (L : Lay) (N : Nat) (st : StS) (k : Key2) (n : Int) (x : ByteArray) (e : Ending) (w' : World) : Prop :=
  e = .returned (if canPut (rowOf st.rows k) n then .nilIface else .iface 100 (.int .i64 1)) ∧ Step w L (N + 1) (stPut st k n x) w'
theorem putV_yes {α : Type} {l : List (Int × α)} {n : Int} {v : α} (h : canPut l n = true) : putV l n v = l ++ [(n, v)] := by unfold putV; rw [if_pos h]
theorem putV_no {α : Type} {l : List (Int × α)} {n : Int} {v : α} (h : canPut l n = false) : putV l n v = l := by unfold putV; rw [if_neg (by rw [h]; simp)]
set_option maxRecDepth 100000 in
set_option maxHeartbeats 2000000 in
theorem storePut_any (L : Lay) (N : Nat) (st : StS) (k : Key2) (n : Int) (x : ByteArray) (w : World) (h : StoreAt w L N st) (hk : KeyWf k) (hN : N + 1 ≤ 1048576) :
    Calls Tryz.prog 25 #[.pointer (some ⟨L.s, 0, none⟩), .agg #[.int .i64 k.1, .int .i64 k.2], .int .i64 n, .string x] w (SPutPost w L N st k n x) := by
  obtain ⟨b, hb, _, hmap⟩ := h.shard k
  have HS := Lib.hid (fun W (hW : New w W) => storeShard_any L N st k b W (h.new_ hW) hb)
  have n1 := Blk.new w 33 [.int .i64 k.1, .int .i64 k.2]
  have HB := Lib.hid n1
  have d0 := n1.cell 0
  have d1 := n1.cell 1
  simp only [List.getElem?_cons_zero, List.getElem?_cons_succ] at d0 d1
  clear n1
  obtain ⟨wo, hwo⟩ : ∃ wo, w.alloc (.cells #[.int .i64 k.1, .int .i64 k.2] 33) = wo := ⟨_, rfl⟩
  have hnew : New w wo := by rw [← hwo]; exact (Mod.refl _ _).alloc _
  have HWO := Lib.hid hwo
  have HKEY := Lib.hid (Tryz.keyOfKey hk)
  cases hj : rowIdx st.rows k with
  | none =>
    have HLK := Lib.hid (fun W (hW : New w W) => (h.new_ hW).lookNone hk hb hj)
    have hrow0 := rowOf_idx_none hj
    have HNO := Lib.hid (show canPut (rowOf st.rows k) n = false → ∀ W, New w W → SPutPost w L N st k n x (.returned (.iface 100 (.int .i64 1))) W from fun hc W hW => by
      refine ⟨by rw [hc]; rfl, ?_⟩
      unfold stPut
      rw [if_neg (by rw [hc]; simp)]
      exact (Step.same h hW).mono (by omega) hN)
    have HYES := Lib.hid (show canPut (rowOf st.rows k) n = true → ∀ W W' c v', New w W → ChainAt W 0 c v' [(n, x)] → (∀ y, ChainF c v' y → w.heap.size ≤ y) → MapO 33 keyVal W' b (N + 1) (updO (shardM L.cs st.rows L.bs.length (shardN k (L.bs.length : Int))) k (some (.pointer (some ⟨c, 0, none⟩)))) → W.mapTurned W' b →
        SPutPost w L N st k n x (.returned .nilIface) W' from fun hc W W' c v' hW hch hcn hmp hturn => by
      refine ⟨by rw [hc]; rfl, ?_⟩
      unfold stPut
      rw [if_pos hc]
      have hr1 : Rising (rowOf st.rows k ++ [(n, x)]) := by rw [← putV_yes hc]; exact (rowOf_rising h.ok k).put n x
      rw [hrow0] at hr1 ⊢
      exact h.add_chain hk hj hb hW hch hcn hmp (mapTurned_mod hturn) hr1 (by simp) (by simp) hN)
    rw [hrow0] at HNO HYES
    have HMP := Lib.hid (fun W (hW : New w W) => hmap.new_ hW)
    have hbig := h.bigN
    obtain ⟨k1, k2⟩ := k
    have hpo : SPutPost w L N st (k1, k2) n x = fun e w' => SPutPost w L N st (k1, k2) n x e w' := rfl
    clear hpo
    cases hc : canPut ([] : VersS) n with
    | false =>
      have HNO2 := Lib.hid (HNO.out hc)
      have HC := Lib.hid hc
      clear hj hb h hwo hrow0 hmap hc HYES HNO
      go_enter Tryz.func25, Tryz.ntmps25
      go_wp2_with fail
      rw [HWO.out] at d0 d1 ⊢
      refine (HS.out _ hnew).mono ?_
      rintro e w1 ⟨rfl, hw1⟩
      have e0 := hw1.cell d0 (fun h => h)
      have e1 := hw1.cell d1 (fun h => h)
      have n01 := New.trans hnew hw1
      have hlk := HLK.out w1 n01
      go_wp2_with fail
      refine (chainNew_any _).mono ?_
      rintro e w2 ⟨rfl, hc2, hw2, hz2⟩
      have n02 := New.trans n01 hw2
      have hsz := n01.size
      generalize w1.heap.size = c at *
      have HC2 := Lib.hid hc2
      clear hc2 hlk
      go_wp2_with fail
      refine (chainPut_any c c (.slice none 0 0) [] n x _ HC2.out (by omega) (by simp)).mono ?_
      rintro e w3 ⟨rfl, hm3, v3, hc3, hv3⟩
      rw [HC.out]
      have n03 : New w w3 := Mod.trans n02 hm3 (fun q hq hb => by
        rcases hb with rfl | hb
        · omega
        · simp [Value.ownBlock] at hb)
      clear hm3 hc3 hv3
      have hne : ¬ (Value.iface 100 (.int .i64 1) = .nilIface) := by simp
      simp only [Bool.false_eq_true, if_false]
      go_wp2
      go_ret
      exact HNO2.out _ n03
    | true =>
      have HYES2 := Lib.hid (HYES.out hc)
      have HC := Lib.hid hc
      have hput : putV ([] : VersS) n x = [(n, x)] := by rw [putV_yes hc]; rfl
      have HPUT := Lib.hid hput
      clear hj hb h hwo hrow0 hmap hc HYES HNO hput
      go_enter Tryz.func25, Tryz.ntmps25
      go_wp2_with fail
      rw [HWO.out] at d0 d1 ⊢
      refine (HS.out _ hnew).mono ?_
      rintro e w1 ⟨rfl, hw1⟩
      have e0 := hw1.cell d0 (fun h => h)
      have e1 := hw1.cell d1 (fun h => h)
      have n01 := New.trans hnew hw1
      have hlk := HLK.out w1 n01
      have hlt0 : w.heap.size < w1.heap.size := Nat.lt_of_lt_of_le (World.block_lt_of_cell? wo _ d0) hw1.size
      go_wp2_with fail
      refine (chainNew_any _).mono ?_
      rintro e w2 ⟨rfl, hc2, hw2, hz2⟩
      have n02 := New.trans n01 hw2
      have hsz := n01.size
      generalize w1.heap.size = c at *
      have HC2 := Lib.hid hc2
      have q0 := hw2.cell e0 (fun h => h)
      have q1 := hw2.cell e1 (fun h => h)
      clear hc2 hlk
      go_wp2_with fail
      refine (chainPut_any c c (.slice none 0 0) [] n x _ HC2.out (by omega) (by simp)).mono ?_
      rintro e w3 ⟨rfl, hm3, v3, hc3, hv3⟩
      rw [HC.out]
      rw [HPUT.out] at hc3
      have n03 : New w w3 := Mod.trans n02 hm3 (fun q hq hb => by
        rcases hb with rfl | hb
        · omega
        · simp [Value.ownBlock] at hb)
      have hcn : ∀ y, ChainF c v3 y → w.heap.size ≤ y := fun y hy => by
        rcases hy with rfl | hy
        · exact hsz
        · have := (hc3.own.lt y hy).1; omega
      have g0 := hm3.cell q0 (fun hb => by
        rcases hb with hb | hb
        · simp only at hb; omega
        · simp [Value.ownBlock] at hb)
      have g1 := hm3.cell q1 (fun hb => by
        rcases hb with hb | hb
        · simp only at hb; omega
        · simp [Value.ownBlock] at hb)
      have HC3 := Lib.hid (show ChainAt w3 0 c v3 [(n, x)] from ⟨hc3.blk, own_mono hc3.own (Nat.zero_le _)⟩)
      have HCN := Lib.hid hcn
      have HN3 := Lib.hid n03
      clear hm3 hc3 hv3 hcn n03 hsz hlt0 hz2
      simp only [if_true]
      go_wp2_with (at_mapUpdate; obtain ⟨kl, hkl⟩ := HKEY.out; refine wpList_mapO_put keyVal_inj rfl _ _ _ rfl Tryz.keyedKey Tryz.underlying65 rfl (HMP.out _ HN3.out) (by unfold maxLen; omega) (k1, k2) rfl hkl (.pointer (some ⟨c, 0, none⟩)) rfl ?_; clear hkl; intro w4 hmap4 hturn4; have HP4 := Lib.hid (HYES2.out _ _ _ _ HN3.out HC3.out HCN.out hmap4 hturn4); clear hmap4 hturn4)
      go_ret
      exact HP4.out
  | some j =>
    obtain ⟨p, hp, hch, hri, hle, hrow⟩ := h.chain hj
    have HLK := Lib.hid (fun W (hW : New w W) => (h.new_ hW).lookSome hk hb hj hp)
    have hbig := h.bigN
    have hne : rowOf st.rows k ≠ [] := h.ok.some_ _ (List.mem_of_getElem? hrow)
    have HA := Lib.hid (fun W (hW : New w W) => chainPut_any 0 p.1 p.2 (rowOf st.rows k) n x W (hch.new_ hW) (Nat.zero_le _) (by omega))
    have HPOST := Lib.hid (show ∀ W W' e, New w W → PutPost W 0 p.1 p.2 (rowOf st.rows k) n x e W' → SPutPost w L N st k n x e W' from fun W W' e hW ⟨he, hm, v', hc, hv⟩ => by
      refine ⟨he, ?_⟩
      have hrp := hri.put n x
      unfold stPut
      split
      · rename_i hcp
        rw [putV_yes hcp] at hc hrp
        exact Step.of_new hW ((h.new_ hW).upd_chain hj hp hm hc hv hrp put_ne (N' := N + 1) (by simp; omega) (by omega) hN)
      · rename_i hcp
        rw [putV_no (by simpa using hcp)] at hc hrp
        have h1 := Step.of_new hW ((h.new_ hW).upd_chain hj hp hm hc hv hrp hne (N' := N + 1) (by omega) (by omega) hN)
        rw [setRow_self hj] at h1
        exact h1)
    obtain ⟨k1, k2⟩ := k
    obtain ⟨c, v⟩ := p
    generalize hrs : rowOf st.rows (k1, k2) = row at *
    obtain ⟨cp, hcp⟩ : ∃ cp, canPut row n = cp := ⟨_, rfl⟩
    have HCP := Lib.hid hcp
    clear hj hb h hwo hp hch hri hle hrow hne hrs hcp hmap
    go_enter Tryz.func25, Tryz.ntmps25
    go_wp2_with fail
    rw [HWO.out] at d0 d1 ⊢
    refine (HS.out _ hnew).mono ?_
    rintro e w1 ⟨rfl, hw1⟩
    have e0 := hw1.cell d0 (fun h => h)
    have e1 := hw1.cell d1 (fun h => h)
    have n01 := New.trans hnew hw1
    have hlk := HLK.out w1 n01
    go_wp2_with fail
    refine (HA.out _ n01).mono ?_
    intro e w3 hp3
    have HP3 := Lib.hid (HPOST.out _ _ _ n01 hp3)
    obtain ⟨rfl, _, _⟩ := hp3
    rw [HCP.out] at HP3 ⊢
    cases cp with
    | false =>
      simp only [Bool.false_eq_true, if_false] at HP3 ⊢
      go_wp2
      go_ret
      exact HP3.out
    | true =>
      simp only [if_true] at HP3 ⊢
      go_wp2
      go_ret
      exact HP3.out
end Go.Proofs.YtfifalopbfopnaaGreatDoor
