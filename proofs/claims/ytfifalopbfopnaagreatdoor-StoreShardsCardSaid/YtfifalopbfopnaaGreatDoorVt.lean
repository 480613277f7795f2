/- Walks: the store (texts): Keys. -/
import Derived.Test.YtfifalopbfopnaaGreatDoorVr
set_option linter.unusedVariables false
set_option linter.unusedSimpArgs false
namespace Go.Proofs.YtfifalopbfopnaaGreatDoor
open Go.RowKit Go.Maps Go.Shelf Go.Lib Go.Sort

/-- What Keys answers. -/
def KeysPost (w : World) (l : List Key2) (e : Ending) (w' : World) : Prop := ∃ v, e = .returned v ∧ w'.ownsRow w.heap.size 33 2 v l.length (cellsL encKey l) ∧ New w w'
theorem keysOf_sorted {α : Type} {rs : RowsV α} (hn : (keysL rs).Nodup) {out : List Key2} (hp : out.Perm (keysL rs)) : (out.mergeSort fun x y => !(ltOf keyCmp) y x) = keysOf rs := by
  obtain ⟨h1, h2⟩ := keyLe_sorted out
  obtain ⟨k1, k2, _⟩ := keysOf_up (rs := rs) hn
  have hp2 := h1.trans hp
  exact KeysUp.unique (sorted_up (hp2.nodup_iff.2 hn) h2) k1 fun x => by rw [hp2.mem_iff, k2]; rfl
set_option maxRecDepth 100000 in
set_option maxHeartbeats 4000000 in
theorem storeKeys_any (L : Lay) (N : Nat) (st : StS) (w : World) (h : StoreAt w L N st) :
    Calls Tryz.prog 12 #[.pointer (some ⟨L.s, 0, none⟩)] w (KeysPost w (keysOf st.rows)) := by
  have c0 := h.blk.cell 0
  simp only [List.getElem?_cons_zero] at c0
  have hm1 := h.m1
  have hnd : (keysL st.rows).Nodup := h.ok.nodup
  have HH := Lib.hid (fun W (hW : New w W) => h.new_ hW)
  have HND := Lib.hid hnd
  have HV := Lib.hid h.vers
  have HR := Lib.hid h.rowsN
  have HCL := Lib.hid h.chains.len
  have HALL := Lib.hid (belowS_all st.rows hm1)
  have hbig2 := h.bigN
  obtain ⟨m, hm⟩ : ∃ m, L.bs.length = m := ⟨_, rfl⟩
  rw [hm] at c0 hm1 HALL
  have HM := Lib.hid hm
  obtain ⟨hm1, hm2⟩ := hm1
  clear h hnd hm
  go_enter Tryz.func12, Tryz.ntmps12
  go_wp2
  go_loopw [3, 12] (fun a i wr => ∃ (k : Nat) (out : List Key2), k ≤ m ∧ i = .int .i64 (k : Int) ∧ wr.ownsRow w.heap.size 33 2 a out.length (cellsL encKey out) ∧ out.Perm (belowS st.rows m k) ∧ New w wr) (fun _ i _ => m - (intOf i).toNat)
  case atStart => exact ⟨0, [], Nat.zero_le _, rfl, own_nil _ _ _ _, by rw [belowS_zero], Mod.refl _ _⟩
  case round =>
    obtain ⟨i, out, hi, rfl, hown, ht, hw⟩ := hrel
    have HT := Lib.hid ht
    clear ht
    by_cases hlt : i < m
    · have hs := HH.out wr hw
      have hib : L.bs[i]? = some (L.bs[i]'(by rw [HM.out]; exact hlt)) := List.getElem?_eq_getElem _
      generalize L.bs[i]'(by rw [HM.out]; exact hlt) = b at hib
      have cg : wr.cell? ⟨L.g, i, none⟩ = some (.map (some b)) := by rw [hs.gblk.cell, List.getElem?_map, hib]; rfl
      have hmap := hs.maps i b hib
      rw [HM.out] at hmap
      have HMAP := Lib.hid hmap
      have hbl := hmap.lt
      obtain ⟨wo, rfl⟩ : ∃ wo : World, wo = wr := ⟨_, rfl⟩
      have HOWN := Lib.hid hown
      clear hs hib hmap hown
      go_wp2_with (at_range; refine wpList_range_mapO rfl _ rfl Tryz.keyedKey Tryz.underlying65 rfl HMAP.out ?_; intro w1 hr1 hw1 hs1; clear hs1; have HR1 := Lib.hid hr1; clear hr1)
      go_frame
      go_loopw [3] (fun a wr => ∃ (out' : List Key2) (done : List Key2), wr.ownsRow w.heap.size 33 2 a out'.length (cellsL encKey out') ∧ a.ownBlock ≠ some wo.heap.size ∧ out'.Perm (belowS st.rows m i ++ done) ∧ RangeO 33 keyVal wr b wo.heap.size N (shardM L.cs st.rows m i) done ∧ New w wr ∧ b ≠ wo.heap.size) (fun _ wr => wr.rangeLeft b wo.heap.size)
      case atStart => exact ⟨out, [], own_new HOWN.out hw1, fun e => by have := (HOWN.out.lt _ e).2; omega, by rw [List.append_nil]; exact HT.out, HR1.out, New.trans hw hw1, by omega⟩
      case round =>
        obtain ⟨out', done, hown, hob, ht', hrg, hwr, hbo⟩ := hrel
        obtain ⟨hd1, hd2⟩ := hrg.facts
        have HD1 := Lib.hid hd1
        have HD2 := Lib.hid hd2
        have hbd := (totK_le HND.out HV.out HR.out (m := m) (i := i) hd1 (fun x hx => (shardM_ne HCL.out).1 (hd2 x hx))).2
        rw [← ht'.length_eq] at hbd
        have HT' := Lib.hid ht'
        have HRG := Lib.hid hrg
        have HOWN' := Lib.hid hown
        have HOB := Lib.hid hob
        clear ht' hrg hd1 hd2 hown hob
        go_wp2_with (at_next; refine wpList_next_mapO rfl _ rfl Tryz.keyedKey keyVal_inj Tryz.keyInv wo.heap.size done rfl HRG.out ?_ ?_)
        · intro hall
          have HA := Lib.hid (((belowS_succ st.rows HND.out m i).trans (List.Perm.append_left _ (shard_done HCL.out HND.out HD1.out HD2.out (fun x hx => hall x.1 x.2 hx)).symm)))
          clear hall
          go_wp2
          go_roundw
          case rel => exact ⟨i + 1, out', by omega, by go_num, HOWN'.out, HT'.out.trans HA.out.symm, hwr⟩
          case measure => simp [intOf]; omega
        · intro x1 x2 c w3 hMx hnd kl hkl hrg3 hlt3 hm3 hs3 hen
          have hn3 : New w w3 := Mod.trans hwr hm3 (fun y hy e => by have e' : y = wo.heap.size := e; have := hw.size; omega)
          have hown3 := own_mod' HOWN'.out hm3 (fun y hy e => HOB.out (by have e' : y = wo.heap.size := e; rw [← e']; exact hy))
          have hn3s := hn3.size
          have hz3 : wo.heap.size < w3.heap.size := hrg3.lt
          have n1 := Blk.new w3 33 [.int .i64 x1, .int .i64 x2]
          have HB1 := Lib.hid n1
          have HRG3 := Lib.hid hrg3
          have HLT := Lib.hid hlt3
          have HN3 := Lib.hid hn3
          have HOWN3 := Lib.hid hown3
          dsimp only [keyVal] at hen
          clear hMx hnd hkl hs3 hrg3 hlt3 hm3 hn3 hown3 n1
          go_wp2_with (at_builtin; go_must (refine wpList_app Tryz.sltKeys rfl (.tmp 22) (.tmp 24) rfl w.heap.size _ out'.length (cellsL encKey out') rfl ((HOWN3.out.alloc _).alloc _) ⟨w3.heap.size + 1, 0, none⟩ 1 1 [.int .i64 x1, .int .i64 x2] rfl rfl ?c0 ?c1 ?c2 ?c3 ?_))
          case c0 =>
            have h0 := cells_new (w3.alloc (.cells #[.int .i64 x1, .int .i64 x2] 33)) [.int .i64 x1, .int .i64 x2] 33
            simp only [World.size_alloc] at h0
            exact h0
          case c1 => simp [Value.oneCell']
          case c2 => omega
          case c3 => simp; omega
          intro v4 w4 hown4 hg4 hbl4
          have q1 : New w3 ((w3.alloc (.cells #[.int .i64 x1, .int .i64 x2] 33)).alloc (.cells #[.int .i64 x1, .int .i64 x2] 33)) := ((Mod.refl _ _).alloc _).alloc _
          have q2 : Mod (fun y => Value.ownBlock _ = some y) ((w3.alloc (.cells #[.int .i64 x1, .int .i64 x2] 33)).alloc (.cells #[.int .i64 x1, .int .i64 x2] 33)) w4 := Mod.of_grown (S := fun y => Value.ownBlock _ = some y) hg4 (fun _ h => h)
          have q3 : New w w4 := New.grown (New.trans HN3.out q1) ((HOWN3.out.alloc _).alloc _) (Nat.le_refl _) hg4
          have hob4 : v4.ownBlock ≠ some wo.heap.size := fun e => by
            rcases hbl4 with hb | hb
            · exact HOB.out (hb.symm.trans e)
            · rw [hb] at e
              try simp only [World.size_alloc] at e
              injection e with e
              omega
          have hbo4 : ∀ y, (y = b ∨ y = wo.heap.size) → y < w3.heap.size → ¬ (Value.ownBlock _ = some y) := fun y hy _ e => by
            rcases hy with rfl | rfl
            · exact MapO.ne_own ((RangeO.owns HRG3.out).new_ q1) ((HOWN3.out.alloc _).alloc _) e
            · exact HOB.out e
          have hbl3 : b < w3.heap.size := (RangeO.owns HRG3.out).lt
          have HRG4 := Lib.hid (RangeO.mod (RangeO.mod HRG3.out q1 (fun h => h) (fun h => h)) q2 (hbo4 b (.inl rfl) hbl3) (hbo4 _ (.inr rfl) hz3))
          have HLM := Lib.hid (show w4.rangeLeft b wo.heap.size = w3.rangeLeft b wo.heap.size from by
            rw [RangeO.left_mod (RangeO.mod HRG3.out q1 (fun h => h) (fun h => h)) q2 (hbo4 b (.inl rfl) hbl3) (hbo4 _ (.inr rfl) hz3), RangeO.left_mod HRG3.out q1 (fun h => h) (fun h => h)])
          have HO4 := Lib.hid hown4
          have HOB4 := Lib.hid hob4
          clear hown4 hg4 hbl4 q1 q2 hob4 hbo4
          go_wp2
          go_roundw
          case rel => exact ⟨out' ++ [(x1, x2)], done ++ [(x1, x2)], by rw [List.length_append, cellsL_append, cellsL_one]; exact HO4.out, HOB4.out, by rw [← List.append_assoc]; exact HT'.out.append_right _, HRG4.out, q3, hbo⟩
          case measure => rw [HLM.out]; exact HLT.out
    · obtain rfl : i = m := by omega
      have hpm : out.Perm (keysL st.rows) := by rw [← HALL.out]; exact HT.out
      have hlen : out.length ≤ N := by rw [hpm.length_eq]; simp [keysL]; exact HR.out
      obtain ⟨A, cap, rfl⟩ := own_shape hown
      have hkl : (keysOf st.rows).length = out.length := by rw [hpm.length_eq, (keysOf_up (rs := st.rows) HND.out).2.2]; simp [keysL]
      have HKL := Lib.hid hkl
      have HSO := Lib.hid (keysOf_sorted HND.out hpm)
      have HSORT := Lib.hid (sortKeys_any w.heap.size _ out.length out wr hown rfl (by omega))
      have HOW := Lib.hid hown
      clear hkl hpm hown
      go_wp2_with (go_at_call 43; refine HSORT.out.mono ?_; rintro e w5 ⟨rfl, hown5, hm5⟩; rw [HSO.out] at hown5; have HO5 := Lib.hid hown5; have HN5 := Lib.hid (show New w w5 from Mod.trans hw hm5 (fun y hy e => by have := (HOW.out.lt y e).1; omega)); clear hown5 hm5)
      go_ret
      exact ⟨_, rfl, by rw [HKL.out]; exact HO5.out, HN5.out⟩
end Go.Proofs.YtfifalopbfopnaaGreatDoor
