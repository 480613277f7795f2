/- Walks: the store (numbers): Versions; the keys of a store, collected. -/
import Derived.Test.YtfifalopbfopnaaGreatDoorIp
set_option linter.unusedVariables false
set_option linter.unusedSimpArgs false
namespace Go.Proofs.YtfifalopbfopnaaGreatDoor.I
open Go.RowKit Go.Maps

section
variable {α : Type}
def keysL (rs : RowsV α) : List Key2 := rs.map (·.1)
/-- The keys of one shard; of those below it. -/
def inShard (rs : RowsV α) (m i : Nat) : List Key2 := (keysL rs).filter fun k => shardN k (m : Int) = i
def belowS (rs : RowsV α) (m i : Nat) : List Key2 := (keysL rs).filter fun k => shardN k (m : Int) < i
def totK (rs : RowsV α) (ks : List Key2) : Nat := (ks.map fun k => (rowOf rs k).length).sum
theorem belowS_zero (rs : RowsV α) (m : Nat) : belowS rs m 0 = [] := by unfold belowS; simp
theorem belowS_all (rs : RowsV α) {m : Nat} (hm : 1 ≤ m ∧ m ≤ 64) : belowS rs m m = keysL rs := by
  unfold belowS
  rw [List.filter_eq_self]
  intro k _
  have := shardN_lt k (m : Int)
  rw [countedN_self hm] at this
  simpa using this
theorem nodup_filter {β : Type} {l : List β} (h : l.Nodup) (p : β → Bool) : (l.filter p).Nodup := List.Pairwise.sublist List.filter_sublist h
theorem belowS_succ (rs : RowsV α) (hn : (keysL rs).Nodup) (m i : Nat) : (belowS rs m (i + 1)).Perm (belowS rs m i ++ inShard rs m i) := by
  refine (List.perm_ext_iff_of_nodup (nodup_filter hn _) ?_).2 fun k => ?_
  · rw [List.nodup_append]
    refine ⟨nodup_filter hn _, nodup_filter hn _, fun a ha b hb e => ?_⟩
    subst e
    simp [belowS, inShard] at ha hb
    omega
  · simp only [belowS, inShard, List.mem_append, List.mem_filter, decide_eq_true_eq]
    constructor
    · rintro ⟨h1, h2⟩
      by_cases h : shardN k (m : Int) < i
      · exact .inl ⟨h1, h⟩
      · exact .inr ⟨h1, by omega⟩
    · rintro (⟨h1, h2⟩ | ⟨h1, h2⟩)
      · exact ⟨h1, by omega⟩
      · exact ⟨h1, by omega⟩
theorem mem_keysL {rs : RowsV α} {k : Key2} : k ∈ keysL rs ↔ rowIdx rs k ≠ none := by
  constructor
  · intro h e
    obtain ⟨x, hx, rfl⟩ := List.mem_map.1 h
    exact rowIdx_none.1 e x hx rfl
  · intro h
    cases hj : rowIdx rs k with
    | none => exact absurd hj h
    | some j =>
      obtain ⟨l, hl⟩ := rowIdx_at hj
      exact List.mem_map.2 ⟨_, List.mem_of_getElem? hl, rfl⟩
theorem shardM_ne {cs : List (Nat × Value)} {rs : RowsV α} (hl : cs.length = rs.length) {m i : Nat} {k : Key2} : shardM cs rs m i k ≠ none ↔ k ∈ inShard rs m i := by
  unfold shardM inShard
  simp only [List.mem_filter, decide_eq_true_eq, mem_keysL]
  by_cases h : shardN k (m : Int) = i
  · rw [if_pos h]
    cases hj : rowIdx rs k with
    | none => simp
    | some j =>
      have := rowIdx_lt hj
      simp only [List.getElem?_eq_getElem (show j < cs.length by omega), Option.map_some]
      simp [h]
  · rw [if_neg h]; simp [h]
theorem shardM_at {cs : List (Nat × Value)} {rs : RowsV α} {m i : Nat} {k : Key2} {v : Value} (h : shardM cs rs m i k = some v) : ∃ (j : Nat) (p : Nat × Value), rowIdx rs k = some j ∧ cs[j]? = some p ∧ v = .pointer (some ⟨p.1, 0, none⟩) := by
  unfold shardM at h
  split at h
  · cases hj : rowIdx rs k with
    | none => rw [hj] at h; cases h
    | some j =>
      rw [hj] at h
      simp only at h
      obtain ⟨p, hp, rfl⟩ := Option.map_eq_some_iff.1 h
      exact ⟨j, p, rfl, hp, rfl⟩
  · cases h
/-- All keys of a shard have come. -/
theorem shard_done {cs : List (Nat × Value)} {rs : RowsV α} (hl : cs.length = rs.length) (hn : (keysL rs).Nodup) {m i : Nat} {done : List Key2} (hd : done.Nodup) (h1 : ∀ x ∈ done, shardM cs rs m i x ≠ none) (h2 : ∀ x, shardM cs rs m i x ≠ none → x ∈ done) : done.Perm (inShard rs m i) :=
  (List.perm_ext_iff_of_nodup hd (nodup_filter hn _)).2 fun k => ⟨fun h => (shardM_ne hl).1 (h1 k h), fun h => h2 k ((shardM_ne hl).2 h)⟩
theorem totK_perm (rs : RowsV α) {a b : List Key2} (h : a.Perm b) : totK rs a = totK rs b := (h.map _).sum_nat
theorem totK_snoc (rs : RowsV α) (a b : List Key2) (k : Key2) : totK rs (a ++ (b ++ [k])) = totK rs (a ++ b) + (rowOf rs k).length := by simp [totK, Nat.add_assoc]
theorem totK_all {rs : RowsV α} (hn : (rs.map (·.1)).Nodup) : totK rs (keysL rs) = (rs.map fun x => x.2.length).sum := by
  unfold totK keysL
  rw [List.map_map]
  congr 1
  refine List.map_congr_left fun x hx => ?_
  obtain ⟨i, hi⟩ := List.getElem?_of_mem hx
  have := rowOf_at hn (k := x.1) (l := x.2) hi
  simp [this]
theorem sum_le {β : Type} (f : β → Nat) (N : Nat) : ∀ l : List β, (∀ x ∈ l, f x ≤ N) → (l.map f).sum ≤ l.length * N
  | [], _ => by simp
  | x :: l, h => by
    have h1 := h x (by simp)
    have h2 := sum_le f N l (fun y hy => h y (by simp [hy]))
    simp only [List.map_cons, List.sum_cons, List.length_cons, Nat.add_mul]
    omega
theorem rowOf_le {rs : RowsV α} {N : Nat} (h : ∀ x ∈ rs, x.2.length ≤ N) (k : Key2) : (rowOf rs k).length ≤ N := by
  unfold rowOf
  split
  · rename_i i hi
    obtain ⟨l, hl⟩ := rowIdx_at hi
    simp only [hl]
    exact h _ (List.mem_of_getElem? hl)
  · simp
theorem sub_length {a b : List Key2} (ha : a.Nodup) (hb : b.Nodup) (h : ∀ x ∈ a, x ∈ b) : a.length ≤ b.length := by
  have hp : a.Perm (b.filter fun x => decide (x ∈ a)) := (List.perm_ext_iff_of_nodup ha (nodup_filter hb _)).2 fun x => by
    simp only [List.mem_filter, decide_eq_true_eq]
    exact ⟨fun hx => ⟨h x hx, hx⟩, fun hx => hx.2⟩
  rw [hp.length_eq]
  exact List.length_filter_le _ _
theorem totK_le {rs : RowsV α} {N : Nat} (hn : (keysL rs).Nodup) (h : ∀ x ∈ rs, x.2.length ≤ N) (hr : rs.length ≤ N) {m i : Nat} {done : List Key2} (hd : done.Nodup) (h1 : ∀ x ∈ done, x ∈ inShard rs m i) : totK rs (belowS rs m i ++ done) ≤ N * N ∧ (belowS rs m i ++ done).length ≤ N := by
  have hl : (belowS rs m i ++ done).length ≤ (keysL rs).length := sub_length (by
    rw [List.nodup_append]
    refine ⟨nodup_filter hn _, hd, fun a ha b hb e => ?_⟩
    subst e
    have := h1 a hb
    simp [belowS, inShard] at ha this
    omega) hn (fun x hx => by
    rcases List.mem_append.1 hx with hx | hx
    · exact (List.mem_filter.1 hx).1
    · exact (List.mem_filter.1 (h1 x hx)).1)
  have hk : (keysL rs).length = rs.length := by simp [keysL]
  have h2 := sum_le (fun k => (rowOf rs k).length) N (belowS rs m i ++ done) (fun k _ => rowOf_le h k)
  exact ⟨Nat.le_trans h2 (Nat.mul_le_mul_right _ (by omega)), by omega⟩
theorem nn_le {N : Nat} (h : N ≤ 1048576) : N * N ≤ 1099511627776 := Nat.mul_le_mul h h
end
theorem RangeO.facts {K : Type} {k : TypeId} {enc : K → Value} {w : World} {b r n : Nat} {M : K → Option Value} {done : List K} (h : RangeO k enc w b r n M done) : done.Nodup ∧ ∀ x ∈ done, M x ≠ none := by
  obtain ⟨D, left, cnt, _, _, _, h1, h2⟩ := h
  exact ⟨h1, h2⟩

set_option maxRecDepth 100000 in
set_option maxHeartbeats 2000000 in
theorem storeVersions_any (L : Lay) (N : Nat) (st : StS) (w : World) (h : StoreAt w L N st) :
    Calls Tryz.prog 24 #[.pointer (some ⟨L.s, 0, none⟩)] w fun e w' => e = .returned (.int .i64 (stVersions st : Int)) ∧ New w w' := by
  have c0 := h.blk.cell 0
  simp only [List.getElem?_cons_zero] at c0
  have hm1 := h.m1
  have hnd : (keysL st.rows).Nodup := h.ok.nodup
  have hbig := nn_le h.bigN
  have HH := Lib.hid (fun W (hW : New w W) => h.new_ hW)
  have HND := Lib.hid hnd
  have HV := Lib.hid h.vers
  have HR := Lib.hid h.rowsN
  have HCL := Lib.hid h.chains.len
  have hfin : totK st.rows (belowS st.rows L.bs.length L.bs.length) = stVersions st := by rw [belowS_all _ hm1, totK_all h.ok.nodup]; rfl
  have HF := Lib.hid hfin
  have HG := Lib.hid h.gblk
  have HBL := Lib.hid (show ∀ i b, L.bs[i]? = some b → b < w.heap.size from fun i b hb => (h.maps i b hb).lt)
  have HCH := Lib.hid (fun k j (hj : rowIdx st.rows k = some j) => h.chain hj)
  have hbig2 := h.bigN
  obtain ⟨m, hm⟩ : ∃ m, L.bs.length = m := ⟨_, rfl⟩
  rw [hm] at c0 hm1 HF
  have HM := Lib.hid hm
  obtain ⟨hm1, hm2⟩ := hm1
  clear h hnd hfin hm
  go_enter Tryz.func24, Tryz.ntmps24
  go_wp2
  go_loopw [3, 13] (fun a i wr => ∃ (k : Nat) (t : Nat), k ≤ m ∧ i = .int .i64 (k : Int) ∧ a = .int .i64 (t : Int) ∧ t = totK st.rows (belowS st.rows m k) ∧ New w wr) (fun _ i _ => m - (intOf i).toNat)
  case atStart => exact ⟨0, 0, Nat.zero_le _, rfl, rfl, by rw [belowS_zero]; rfl, Mod.refl _ _⟩
  case round =>
    obtain ⟨i, t, hi, rfl, rfl, ht, hw⟩ := hrel
    have HT := Lib.hid ht
    clear ht
    by_cases hlt : i < m
    · have hs := HH.out wr hw
      have hib : L.bs[i]? = some (L.bs[i]'(by rw [HM.out]; exact hlt)) := List.getElem?_eq_getElem _
      generalize L.bs[i]'(by rw [HM.out]; exact hlt) = b at hib
      have cg : wr.cell? ⟨L.g, i, none⟩ = some (.map (some b)) := by rw [hs.gblk.cell, List.getElem?_map, hib]; rfl
      have hmap := hs.maps i b hib
      rw [HM.out] at hmap
      have HMAP := Lib.hid hmap
      have hbl := hmap.lt
      obtain ⟨wo, rfl⟩ : ∃ wo : World, wo = wr := ⟨_, rfl⟩
      clear hs hib hmap
      go_wp2_with (at_range; refine wpList_range_mapO rfl _ rfl Tryz.keyedKey Tryz.underlying88 rfl HMAP.out ?_; intro w1 hr1 hw1 hs1; clear hs1; have HR1 := Lib.hid hr1; clear hr1)
      go_frame
      go_loopw [3] (fun a wr => ∃ (t' : Nat) (done : List Key2), a = .int .i64 (t' : Int) ∧ t' = totK st.rows (belowS st.rows m i ++ done) ∧ RangeO 33 keyVal wr b wo.heap.size N (shardM L.cs st.rows m i) done ∧ New wo wr) (fun _ wr => wr.rangeLeft b wo.heap.size)
      case atStart => exact ⟨t, [], rfl, by rw [List.append_nil]; exact HT.out, HR1.out, hw1⟩
      case round =>
        obtain ⟨t', done, rfl, ht', hrg, hwr⟩ := hrel
        obtain ⟨hd1, hd2⟩ := hrg.facts
        have HD1 := Lib.hid hd1
        have HD2 := Lib.hid hd2
        have hbd := (totK_le HND.out HV.out HR.out (m := m) (i := i) hd1 (fun x hx => (shardM_ne HCL.out).1 (hd2 x hx))).1
        rw [← ht'] at hbd
        have HT' := Lib.hid ht'
        have HRG := Lib.hid hrg
        have hnw := New.trans hw hwr
        clear ht' hrg hd1 hd2
        go_wp2_with (at_next; refine wpList_next_mapO rfl _ rfl Tryz.keyedKey keyVal_inj Tryz.keyInv wo.heap.size done rfl HRG.out ?_ ?_)
        · intro hall
          have HA := Lib.hid (totK_perm st.rows ((belowS_succ st.rows HND.out m i).trans (List.Perm.append_left _ (shard_done HCL.out HND.out HD1.out HD2.out (fun x hx => hall x.1 x.2 hx)).symm)))
          clear hall
          go_wp2
          go_roundw
          case rel => exact ⟨i + 1, t', by omega, by go_num, rfl, by rw [HA.out]; exact HT'.out, hnw⟩
          case measure => simp [intOf]; omega
        · intro x1 x2 c w3 hMx hnd kl hkl hrg3 hlt3 hm3 hs3 hen
          obtain ⟨x, hx⟩ : ∃ x : Key2, x = (x1, x2) := ⟨_, rfl⟩
          rw [← hx] at hMx hrg3 hen
          clear hnd hkl
          obtain ⟨j, p, hj, hp, rfl⟩ := shardM_at hMx
          obtain ⟨p', hp', hch, _, hle, _⟩ := HCH.out x j hj
          rw [hp] at hp'
          injection hp' with hp'
          subst hp'
          have hn3 : New w w3 := Mod.trans hnw hm3 (fun y hy e => by have e' : y = wo.heap.size := e; have := hw.size; omega)
          have HCA := Lib.hid (fun W (hW : New w W) => chainLen_any 0 p.1 p.2 (rowOf st.rows x) W (hch.new_ hW))
          have HRG3 := Lib.hid hrg3
          have HLT := Lib.hid hlt3
          have HN3 := Lib.hid hn3
          have HNO := Lib.hid (show New wo w3 from Mod.trans hwr hm3 (fun y hy e => by have e' : y = wo.heap.size := e; omega))
          have HTS := Lib.hid (totK_snoc st.rows (belowS st.rows m i) done x)
          obtain ⟨len, hlen⟩ : ∃ len, (rowOf st.rows x).length = len := ⟨_, rfl⟩
          rw [hlen] at hle HTS HCA
          rw [← hx]
          clear hx
          clear hMx hj hp hch hs3 hrg3 hlt3 hm3 hlen hn3
          go_wp2_with (go_at_call 63; refine (HCA.out _ HN3.out).mono ?_; rintro e w4 ⟨rfl, hw4⟩)
          go_roundw
          case rel => exact ⟨t' + len, done ++ [x], by go_num, by rw [HTS.out, ← HT'.out], RangeO.mod HRG3.out hw4 (fun h => h) (fun h => h), New.trans HNO.out hw4⟩
          case measure => rw [RangeO.left_mod HRG3.out hw4 (fun h => h) (fun h => h)]; exact HLT.out
    · obtain rfl : i = m := by omega
      have e : t = stVersions st := by rw [HT.out]; exact HF.out
      subst e
      go_wp2
      go_ret
      exact ⟨rfl, hw⟩
end Go.Proofs.YtfifalopbfopnaaGreatDoor.I
