/- Walks: the document's store (custodyref11): Oldest, Prune, Versions. -/
import Derived.Test.YtfifalopbfopnaaGreatDoorUg
set_option linter.unusedVariables false
set_option linter.unusedSimpArgs false
namespace Go.Proofs.YtfifalopbfopnaaGreatDoor
open Go.RowKit

def oldF (n : Int) (rs : List (Int × Bool)) : Int := rs.foldl (fun m r => if r.2 then m else min m r.1) n
theorem oldF_next {n : Int} {rs : List (Int × Bool)} {k : Nat} {x : Int × Bool} (h : rs[k]? = some x) : oldF n (rs.take (k + 1)) = if x.2 then oldF n (rs.take k) else min (oldF n (rs.take k)) x.1 := by
  unfold oldF
  rw [List.take_add_one, h]; simp
set_option maxRecDepth 100000 in
set_option maxHeartbeats 1000000 in
theorem refOldest_any (R : RLay) (N m : Nat) (st : StS) (n : Int) (w : World) (h : RefAt w R N m st) :
    Calls Tryz.prog 41 #[.pointer (some ⟨R.s, 0, none⟩), .int .i64 n] w fun e w' => e = .returned (.int .i64 (stOldest st n)) ∧ New w w' := by
  have hle := h.readN
  have hbig := h.bigN
  have c2 := h.blk.cell 2
  obtain ⟨A, cap, hdv⟩ := own_shape h.rds
  simp only [List.getElem?_cons_zero, List.getElem?_cons_succ, hdv] at c2
  have hrd := h.rds
  rw [hdv] at hrd
  have HS := Lib.hid (own_sl hrd)
  have HE := Lib.hid (show oldF n st.readers = stOldest st n from rfl)
  generalize stOldest st n = o at *
  obtain ⟨q, hq⟩ : ∃ q, st.readers.length = q := ⟨_, rfl⟩
  have HQ := Lib.hid hq
  rw [hq] at c2 hle HS
  have HC2 := Lib.hid c2
  clear hdv hrd h hq c2
  go_enter Tryz.func41, Tryz.ntmps41
  go_wp2
  go_loopw [1, 5] (fun a i wr => ∃ (k : Nat) (x : Int), k ≤ q ∧ i = .int .i64 (k : Int) ∧ a = .int .i64 x ∧ x = oldF n (st.readers.take k) ∧ New w wr) (fun _ i _ => q - (intOf i).toNat)
  case atStart => exact ⟨0, n, Nat.zero_le _, rfl, rfl, rfl, Mod.refl _ _⟩
  case round =>
    obtain ⟨k, x, hk, rfl, rfl, hx, hw⟩ := hrel
    have d2 := hw.cell HC2.out (fun h => h)
    by_cases hlt : k < q
    · obtain ⟨b, off, ⟨y, ye⟩, rfl, hy, hc⟩ := (HS.out.new_ hw).elem encRd_len (by decide) hlt
      have c0 := hc 0 _ rfl
      have c1 := hc 1 _ rfl
      simp only [Nat.add_zero] at c0
      have hnx := oldF_next (n := n) hy
      rw [← hx] at hnx
      cases ye with
      | true =>
        have HX := Lib.hid (show x = oldF n (st.readers.take (k + 1)) from by rw [hnx]; rfl)
        clear hx hy hc hnx
        go_wp2
        go_roundw
        case rel => exact ⟨k + 1, x, by omega, by go_num, rfl, HX.out, hw⟩
        case measure => simp [intOf]; omega
      | false =>
        by_cases hlt2 : y < x
        · have HX := Lib.hid (show y = oldF n (st.readers.take (k + 1)) from by rw [hnx]; simp; omega)
          have hd : decide (y < x) = true := by simpa using hlt2
          clear hx hy hc hnx
          go_wp2
          go_roundw
          case rel => exact ⟨k + 1, y, by omega, by go_num, rfl, HX.out, hw⟩
          case measure => simp [intOf]; omega
        · have HX := Lib.hid (show x = oldF n (st.readers.take (k + 1)) from by rw [hnx]; simp; omega)
          have hd : decide (y < x) = false := by simpa using hlt2
          clear hx hy hc hnx
          go_wp2
          go_roundw
          case rel => exact ⟨k + 1, x, by omega, by go_num, rfl, HX.out, hw⟩
          case measure => simp [intOf]; omega
    · obtain rfl : k = q := by omega
      obtain rfl : x = o := by rw [hx, List.take_of_length_le (by have := HQ.out; omega)]; exact HE.out
      clear hx
      go_wp2
      go_ret
      exact ⟨rfl, hw⟩

def RSPrunePost (w : World) (R : RLay) (N m : Nat) (st : StS) (k : Key2) (n : Int) (e : Ending) (w' : World) : Prop :=
  e = .returned (.int .i64 (goneV (rowOf st.rows k) (stOldest st n) : Int)) ∧ RStep w R (N + 1) m (stPrune st k n) w'
theorem pruneV_len {α : Type} (l : List (Int × α)) (n : Int) : (pruneV l n).length ≤ l.length := by unfold pruneV; rw [List.length_drop]; omega
theorem goneV_pos {α : Type} {l : List (Int × α)} {n : Int} (h : 0 < goneV l n) : l ≠ [] := fun e => by
  subst e; simp [goneV, upTo] at h
set_option maxRecDepth 100000 in
set_option maxHeartbeats 2000000 in
theorem refSPrune_any (R : RLay) (N m : Nat) (st : StS) (k : Key2) (n : Int) (w : World) (h : RefAt w R N m st) (hN' : N + 1 ≤ 1048576) :
    Calls Tryz.prog 42 #[.pointer (some ⟨R.s, 0, none⟩), .agg #[.int .i64 k.1, .int .i64 k.2], .int .i64 n] w (RSPrunePost w R N m st k n) := by
  have n1 := Blk.new w 33 [.int .i64 k.1, .int .i64 k.2]
  have HB := Lib.hid n1
  have HROW := Lib.hid (fun W (hW : New w W) => refRow_any R N m st k W (h.new_ hW))
  have HOL := Lib.hid (fun W (hW : New w W) => refOldest_any R N m st n W (h.new_ hW))
  have HRI := Lib.hid (rowOf_rising h.ok k)
  have hle := rowOf_le h.versN k
  have hbig := h.bigN
  have HNO := Lib.hid (show goneV (rowOf st.rows k) (stOldest st n) = 0 → ∀ W, New w W → RSPrunePost w R N m st k n (.returned (.int .i64 0)) W from fun hc W hW => by
    refine ⟨by rw [hc]; rfl, ?_⟩
    unfold stPrune
    rw [if_pos hc]
    exact (RStep.same h hW).mono (by omega) hN')
  have HSET := Lib.hid (show 0 < goneV (rowOf st.rows k) (stOldest st n) → ∀ W A c, New w W → W.ownsRow w.heap.size 153 2 (.slice A (pruneV (rowOf st.rows k) (stOldest st n)).length c) (pruneV (rowOf st.rows k) (stOldest st n)).length (cellsL encVer (pruneV (rowOf st.rows k) (stOldest st n))) →
      Calls Tryz.prog 74 #[.pointer (some ⟨R.s, 0, none⟩), .agg #[.int .i64 k.1, .int .i64 k.2], .slice A (pruneV (rowOf st.rows k) (stOldest st n)).length c] W fun e w' => e = .returned (.tuple #[]) ∧ RSPrunePost w R N m st k n (.returned (.int .i64 (goneV (rowOf st.rows k) (stOldest st n) : Int))) w' from fun hc W A c hW hown => by
    refine (refSet_any R N m st k A c _ W (h.new_ hW) (own_mono hown (Nat.zero_le _)) ((rowOf_rising h.ok k).prune _) (prune_ne _ (goneV_pos hc)) (Nat.le_trans (pruneV_len _ _) (by omega)) (fun p hp => rowOf_top h.top k p (List.mem_of_mem_drop hp)) hN').mono fun e w' ⟨he, hset⟩ => ⟨he, rfl, ?_⟩
    unfold stPrune
    rw [if_neg (by omega)]
    exact RSet.step hW hset (fun b hb => (hown.lt b hb).1))
  generalize stOldest st n = o at *
  have HROW2 := Lib.hid (show ∀ W, New w W → Calls Tryz.prog 73 #[.pointer (some ⟨R.s, 0, none⟩), .agg #[.int .i64 k.1, .int .i64 k.2]] W fun e w' => ∃ A c, e = .returned (.slice A (rowOf st.rows k).length c) ∧ Sl w' A (rowOf st.rows k).length 2 (cellsL encVer (rowOf st.rows k)) ∧ New W w' from HROW.out)
  obtain ⟨k1, k2⟩ := k
  have hpost : RSPrunePost w R N m st (k1, k2) n = RSPrunePost w R N m st (k1, k2) n := rfl
  clear hpost
  generalize hrow : rowOf st.rows (k1, k2) = row at HRI hle HNO HSET HROW2
  obtain ⟨q, hq⟩ : ∃ q, row.length = q := ⟨_, rfl⟩
  rw [hq] at hle HROW2
  clear h n1 hrow hq HROW
  go_enter Tryz.func42, Tryz.ntmps42
  go_wp2_with fail
  refine (HROW2.out _ ((Mod.refl _ _).alloc _)).mono ?_
  rintro e w1 ⟨A, c, rfl, hsl, hw1⟩
  have hw01 : New w w1 := New.trans ((Mod.refl _ _).alloc _) hw1
  have hk := HB.out.new_ hw1
  have e0 := hk.cell 0
  have e1 := hk.cell 1
  simp only [List.getElem?_cons_zero, List.getElem?_cons_succ] at e0 e1
  clear hk
  go_wp2_with fail
  refine (HOL.out _ hw01).mono ?_
  rintro e w2 ⟨rfl, hw2⟩
  have hw02 := New.trans hw01 hw2
  have f0 := hw2.cell e0 (fun h => h)
  have f1 := hw2.cell e1 (fun h => h)
  clear e0 e1
  go_wp2_with fail
  refine (refPrune_any A q c row o _ (hsl.new_ hw2) HRI.out (by omega)).mono ?_
  rintro e w3 ⟨v, rfl, hw3, hown⟩
  have hw03 := New.trans hw02 hw3
  have d0 := hw3.cell f0 (fun h => h)
  have d1 := hw3.cell f1 (fun h => h)
  clear f0 f1
  have HOWN := Lib.hid hown
  clear hown
  by_cases hg : goneV row o = 0
  · have HX := Lib.hid (HNO.out hg _ hw03)
    have HG := Lib.hid hg
    rw [HG.out]
    clear hg
    go_wp2
    go_ret
    exact HX.out
  · have hgp : 0 < goneV row o := by omega
    have hown3 := HOWN.out hgp
    obtain ⟨A', c', rfl⟩ := own_shape hown3
    have HS := Lib.hid (HSET.out hgp _ A' c' hw03 (own_mono hown3 hw02.size))
    generalize (pruneV row o).length = ql at *
    generalize goneV row o = gn at *
    clear hown3 HOWN hg
    go_wp2_with (go_at_call 74; refine HS.out.mono ?_; rintro e w4 ⟨rfl, hp4⟩; have HP4 := Lib.hid hp4; clear hp4)
    go_ret
    exact HP4.out

def sumV {α : Type} (rs : RowsV α) : Nat := (rs.map fun x => x.2.length).sum
theorem sumV_next {α : Type} {rs : RowsV α} {k : Nat} {x : Key2 × List (Int × α)} (h : rs[k]? = some x) : sumV (rs.take (k + 1)) = sumV (rs.take k) + x.2.length := by
  unfold sumV; rw [List.take_add_one, h]; simp
set_option maxRecDepth 100000 in
set_option maxHeartbeats 1000000 in
theorem refVersions_any (R : RLay) (N m : Nat) (st : StS) (w : World) (h : RefAt w R N m st) :
    Calls Tryz.prog 17 #[.pointer (some ⟨R.s, 0, none⟩)] w fun e w' => e = .returned (.int .i64 (stVersions st : Int)) ∧ New w w' := by
  have hle := h.rowsN
  have hbig := h.bigN
  have hnn := nn_le h.bigN
  have c1 := h.blk.cell 1
  obtain ⟨A, cap, hrv⟩ := own_shape h.rows
  simp only [List.getElem?_cons_zero, List.getElem?_cons_succ, hrv] at c1
  have hrows := h.rows
  rw [hrv] at hrows
  have HS := Lib.hid (own_sl hrows)
  have HE := Lib.hid (show sumV st.rows = stVersions st from rfl)
  have HK := Lib.hid (fun (j : Nat) (p : Key2 × Value) (hp : R.ks[j]? = some p) => (show ∃ l A c, st.rows[j]? = some (p.1, l) ∧ p.2 = .slice A l.length c ∧ l.length ≤ N from by
    obtain ⟨l, hl⟩ := h.key hp
    have ho := h.vers j p _ hp hl
    obtain ⟨A, c, e⟩ := own_shape ho
    exact ⟨l, A, c, hl, e, h.versN _ (List.mem_of_getElem? hl)⟩))
  have HBD := Lib.hid (fun k => (show sumV (st.rows.take k) ≤ N * N from by
    have h1 := sum_le (fun x : Key2 × VersS => x.2.length) N (st.rows.take k) (fun x hx => h.versN x (List.mem_of_mem_take hx))
    have h2 : (st.rows.take k).length ≤ N := Nat.le_trans (List.length_take_le' _ _) h.rowsN
    exact Nat.le_trans h1 (Nat.mul_le_mul_right _ h2)))
  have hlen := h.len
  obtain ⟨q, hq⟩ : ∃ q, R.ks.length = q := ⟨_, rfl⟩
  have HQ := Lib.hid (show st.rows.length = q from by rw [← hlen, hq])
  rw [hq] at c1 HS
  have hqN : q ≤ N := by omega
  have HC1 := Lib.hid c1
  generalize stVersions st = tot at *
  clear hrv hrows h hq c1 hlen hle
  go_enter Tryz.func17, Tryz.ntmps17
  go_wp2
  go_loopw [3, 4] (fun a i wr => ∃ (k x : Nat), k ≤ q ∧ i = .int .i64 (k : Int) ∧ a = .int .i64 (x : Int) ∧ x = sumV (st.rows.take k) ∧ New w wr) (fun _ i _ => q - (intOf i).toNat)
  case atStart => exact ⟨0, 0, Nat.zero_le _, rfl, rfl, rfl, Mod.refl _ _⟩
  case round =>
    obtain ⟨k, x, hk, rfl, rfl, hx, hw⟩ := hrel
    have d1 := hw.cell HC1.out (fun h => h)
    by_cases hlt : k < q
    · obtain ⟨b, off, ⟨⟨k1, k2⟩, v⟩, rfl, hp, hc⟩ := (HS.out.new_ hw).elem encRow_len (by decide) hlt
      obtain ⟨l, A', c', hl, e, hlN⟩ := HK.out k _ hp
      simp only at e
      subst e
      have c2 := hc 2 _ rfl
      have hbd := HBD.out k
      rw [← hx] at hbd
      have HX := Lib.hid (show x + l.length = sumV (st.rows.take (k + 1)) from by rw [sumV_next hl, ← hx])
      generalize l.length = ll at *
      clear hx hp hc hl
      go_wp2
      go_roundw
      case rel => exact ⟨k + 1, x + ll, by omega, by go_num, by push_cast; rfl, HX.out, hw⟩
      case measure => simp [intOf]; omega
    · obtain rfl : k = q := by omega
      obtain rfl : x = tot := by rw [hx, List.take_of_length_le (by have := HQ.out; omega)]; exact HE.out
      clear hx
      go_wp2
      go_ret
      exact ⟨rfl, hw⟩
end Go.Proofs.YtfifalopbfopnaaGreatDoor
