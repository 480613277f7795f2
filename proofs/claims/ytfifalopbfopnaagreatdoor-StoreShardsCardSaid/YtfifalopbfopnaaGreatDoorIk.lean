/- Walks: the store (numbers): shard, Shards, At, Last. -/
import Derived.Test.YtfifalopbfopnaaGreatDoorIj
import Derived.Deep.RegionHeld3
set_option linter.unusedVariables false
set_option linter.unusedSimpArgs false
namespace Go.Proofs.YtfifalopbfopnaaGreatDoor.I
open Go.RowKit Go.Maps

theorem four_step {w0 w w' : World} {p q r s : Addr} {x y z u : Value} (h : (w.cell? p = some x ∧ w.cell? q = some y ∧ w.cell? r = some z ∧ w.cell? s = some u) ∧ New w0 w) (hm : New w w') : (w'.cell? p = some x ∧ w'.cell? q = some y ∧ w'.cell? r = some z ∧ w'.cell? s = some u) ∧ New w0 w' :=
  ⟨⟨hm.cell h.1.1 (fun h => h), hm.cell h.1.2.1 (fun h => h), hm.cell h.1.2.2.1 (fun h => h), hm.cell h.1.2.2.2 (fun h => h)⟩, New.trans h.2 hm⟩
set_option maxRecDepth 100000 in
set_option maxHeartbeats 1000000 in
theorem storeShard_any (L : Lay) (N : Nat) (st : StS) (k : Key2) (b : Nat) (w : World) (h : StoreAt w L N st) (hb : L.bs[shardN k (L.bs.length : Int)]? = some b) :
    Calls Tryz.prog 83 #[.pointer (some ⟨L.s, 0, none⟩), .agg #[.int .i64 k.1, .int .i64 k.2]] w fun e w' => e = .returned (.map (some b)) ∧ New w w' := by
  have c0 := h.blk.cell 0
  simp only [List.getElem?_cons_zero] at c0
  have c1 : w.cell? ⟨L.g, shardN k (L.bs.length : Int), none⟩ = some (.map (some b)) := by
    rw [h.gblk.cell, List.getElem?_map, hb]; rfl
  have hlt := (List.getElem?_eq_some_iff.1 hb).1
  obtain ⟨k1, k2⟩ := k
  have HS := Lib.hid (fun W => shard_any (k1, k2) (L.bs.length : Int) W)
  obtain ⟨i, hi⟩ : ∃ i, shardN (k1, k2) (L.bs.length : Int) = i := ⟨_, rfl⟩
  have HSI := Lib.hid hi
  rw [hi] at c1 hlt
  have HC := Lib.hid (And.intro c0 c1)
  have hm := h.m1
  obtain ⟨hm1, hm2⟩ := hm
  generalize L.bs.length = m at *
  have n1 := Blk.new w 33 [.int .i64 k1, .int .i64 k2]
  have d0 := n1.cell 0
  have d1 := n1.cell 1
  simp only [List.getElem?_cons_zero, List.getElem?_cons_succ] at d0 d1
  clear n1 hb hi h
  go_enter Tryz.func83, Tryz.ntmps83
  go_wp2
  have e0 := ((Mod.refl (fun _ => False) w).alloc (.cells #[.int .i64 k1, .int .i64 k2] 33)).cell HC.out.1 (fun h => h)
  have e1 := ((Mod.refl (fun _ => False) w).alloc (.cells #[.int .i64 k1, .int .i64 k2] 33)).cell HC.out.2 (fun h => h)
  clear c0 c1
  obtain ⟨wo, hwo⟩ : ∃ wo, w.alloc (.cells #[.int .i64 k1, .int .i64 k2] 33) = wo := ⟨_, rfl⟩
  have hnew : New w wo := by rw [← hwo]; exact (Mod.refl _ _).alloc _
  rw [hwo] at d0 d1 e0 e1 ⊢
  clear hwo
  go_region_held3 (fun w' => (w'.cell? ⟨w.heap.size, 0, none⟩ = some (.int .i64 k1) ∧ w'.cell? ⟨w.heap.size, 1, none⟩ = some (.int .i64 k2) ∧ w'.cell? ⟨L.s, 0, none⟩ = some (.slice (some ⟨L.g, 0, none⟩) m m) ∧ w'.cell? ⟨L.g, i, none⟩ = some (.map (some b))) ∧ New wo w') ((first | exact ⟨⟨‹_›, ‹_›, ‹_›, ‹_›⟩, (Mod.refl _ _).drew⟩ | (refine four_step ?_ hw1; assumption))) ((go_at_call 51; refine (HS.out _).mono ?_; rintro e w1 ⟨rfl, hw1⟩; rw [HSI.out]))
  all_goals
    go_wp2
    go_ret
    exact ⟨rfl, New.trans hnew (by obtain ⟨_, hn⟩ := ‹_ ∧ New wo _›; exact hn)⟩

theorem Tryz.zeroChain (w : World) : (zeroValue 94).run Tryz.prog w = .ok (.pointer none) w := by kernel_rfl
theorem StoreAt.lookNone {w : World} {L : Lay} {N b : Nat} {st : StS} {k : Key2} (h : StoreAt w L N st) (hk : KeyWf k) (hb : L.bs[shardN k (L.bs.length : Int)]? = some b) (hj : rowIdx st.rows k = none) :
    (Instr.lookup 88 (.map (some b)) (.agg #[.int .i64 k.1, .int .i64 k.2]) true).run Tryz.prog w = .ok (.tuple #[.pointer none, .bool false]) w := by
  obtain ⟨kl, hkl⟩ := Tryz.keyOfKey hk
  have := (h.maps _ b hb).look (z := .pointer none) Tryz.keyedKey Tryz.underlying88 (Tryz.zeroChain w) k hkl
  rw [shardM_own, hj] at this
  exact this
theorem StoreAt.lookSome {w : World} {L : Lay} {N b j : Nat} {st : StS} {k : Key2} {p : Nat × Value} (h : StoreAt w L N st) (hk : KeyWf k) (hb : L.bs[shardN k (L.bs.length : Int)]? = some b) (hj : rowIdx st.rows k = some j) (hp : L.cs[j]? = some p) :
    (Instr.lookup 88 (.map (some b)) (.agg #[.int .i64 k.1, .int .i64 k.2]) true).run Tryz.prog w = .ok (.tuple #[.pointer (some ⟨p.1, 0, none⟩), .bool true]) w := by
  obtain ⟨kl, hkl⟩ := Tryz.keyOfKey hk
  have := (h.maps _ b hb).look (z := .pointer none) Tryz.keyedKey Tryz.underlying88 (Tryz.zeroChain w) k hkl
  rw [shardM_own, hj] at this
  simp only [hp, Option.map_some] at this
  exact this
theorem two_step' {w0 w w' : World} {p q : Addr} {x y : Value} (h : (w.cell? p = some x ∧ w.cell? q = some y) ∧ New w0 w) (hm : New w w') : (w'.cell? p = some x ∧ w'.cell? q = some y) ∧ New w0 w' :=
  ⟨⟨hm.cell h.1.1 (fun h => h), hm.cell h.1.2 (fun h => h)⟩, New.trans h.2 hm⟩
theorem rowOf_idx_none {α : Type} {rs : RowsV α} {k : Key2} (h : rowIdx rs k = none) : rowOf rs k = [] := by unfold rowOf; rw [h]

set_option maxRecDepth 100000 in
set_option maxHeartbeats 1000000 in
theorem storeAt_any (L : Lay) (N : Nat) (st : StS) (k : Key2) (n : Int) (w : World) (h : StoreAt w L N st) (hk : KeyWf k) :
    Calls Tryz.prog 57 #[.pointer (some ⟨L.s, 0, none⟩), .agg #[.int .i64 k.1, .int .i64 k.2], .int .i64 n] w fun e w' => e = .returned (ansV (atV (rowOf st.rows k) n)) ∧ New w w' := by
  obtain ⟨b, hb, _, _⟩ := h.shard k
  have HS := Lib.hid (fun W (hW : New w W) => storeShard_any L N st k b W (h.new_ hW) hb)
  have n1 := Blk.new w 33 [.int .i64 k.1, .int .i64 k.2]
  have d0 := n1.cell 0
  have d1 := n1.cell 1
  simp only [List.getElem?_cons_zero, List.getElem?_cons_succ] at d0 d1
  clear n1
  obtain ⟨wo, hwo⟩ : ∃ wo, w.alloc (.cells #[.int .i64 k.1, .int .i64 k.2] 33) = wo := ⟨_, rfl⟩
  have hnew : New w wo := by rw [← hwo]; exact (Mod.refl _ _).alloc _
  have HWO := Lib.hid hwo
  cases hj : rowIdx st.rows k with
  | none =>
    have HLK := Lib.hid (fun W (hW : New w W) => (h.new_ hW).lookNone hk hb hj)
    rw [rowOf_idx_none hj]
    obtain ⟨k1, k2⟩ := k
    clear hj hb h hwo
    go_enter Tryz.func57, Tryz.ntmps57
    go_wp2
    rw [HWO.out] at d0 d1 ⊢
    go_region_held3 (fun w' => (w'.cell? ⟨w.heap.size, 0, none⟩ = some (.int .i64 k1) ∧ w'.cell? ⟨w.heap.size, 1, none⟩ = some (.int .i64 k2)) ∧ New wo w') ((first | exact ⟨⟨‹_›, ‹_›⟩, (Mod.refl _ _).drew⟩ | (refine two_step' ?_ hw1; assumption) | assumption)) ((go_at_call 83; refine (HS.out _ (New.trans hnew (And.right (by assumption)))).mono ?_; rintro e w1 ⟨rfl, hw1⟩; have hlk := HLK.out w1 (New.trans (New.trans hnew (And.right (by assumption))) hw1)))
    all_goals
      go_wp2
      go_ret2
      exact ⟨rfl, New.trans hnew (And.right (by assumption))⟩
  | some j =>
    obtain ⟨p, hp, hch, hri, hle, _⟩ := h.chain hj
    have HLK := Lib.hid (fun W (hW : New w W) => (h.new_ hW).lookSome hk hb hj hp)
    have hbig := h.bigN
    have HA := Lib.hid (fun W (hW : New w W) => chainAt_any 0 p.1 p.2 (rowOf st.rows k) n W (hch.new_ hW) hri (by omega))
    generalize atV (rowOf st.rows k) n = ans at *
    obtain ⟨k1, k2⟩ := k
    obtain ⟨c, v⟩ := p
    clear hj hb h hwo hp hch hri hle
    cases ans with
    | none =>
      go_enter Tryz.func57, Tryz.ntmps57
      go_wp2
      rw [HWO.out] at d0 d1 ⊢
      go_region_held3 (fun w' => (w'.cell? ⟨w.heap.size, 0, none⟩ = some (.int .i64 k1) ∧ w'.cell? ⟨w.heap.size, 1, none⟩ = some (.int .i64 k2)) ∧ New wo w') ((first | exact ⟨⟨‹_›, ‹_›⟩, (Mod.refl _ _).drew⟩ | (refine two_step' ?_ hw1; assumption) | assumption)) ((go_at_call 83; refine (HS.out _ (New.trans hnew (And.right (by assumption)))).mono ?_; rintro e w1 ⟨rfl, hw1⟩; have hlk := HLK.out w1 (New.trans (New.trans hnew (And.right (by assumption))) hw1)))
      all_goals
        go_wp2_with (go_at_call 86; refine (HA.out _ (New.trans hnew (And.right (by assumption)))).mono ?_; rintro e w2 ⟨rfl, hw2⟩; dsimp only [ansV])
        go_ret2
        exact ⟨rfl, New.trans (New.trans hnew (And.right (by assumption))) hw2⟩
    | some y =>
      go_enter Tryz.func57, Tryz.ntmps57
      go_wp2
      rw [HWO.out] at d0 d1 ⊢
      go_region_held3 (fun w' => (w'.cell? ⟨w.heap.size, 0, none⟩ = some (.int .i64 k1) ∧ w'.cell? ⟨w.heap.size, 1, none⟩ = some (.int .i64 k2)) ∧ New wo w') ((first | exact ⟨⟨‹_›, ‹_›⟩, (Mod.refl _ _).drew⟩ | (refine two_step' ?_ hw1; assumption) | assumption)) ((go_at_call 83; refine (HS.out _ (New.trans hnew (And.right (by assumption)))).mono ?_; rintro e w1 ⟨rfl, hw1⟩; have hlk := HLK.out w1 (New.trans (New.trans hnew (And.right (by assumption))) hw1)))
      all_goals
        go_wp2_with (go_at_call 86; refine (HA.out _ (New.trans hnew (And.right (by assumption)))).mono ?_; rintro e w2 ⟨rfl, hw2⟩; dsimp only [ansV])
        go_ret2
        exact ⟨rfl, New.trans (New.trans hnew (And.right (by assumption))) hw2⟩
end Go.Proofs.YtfifalopbfopnaaGreatDoor.I
