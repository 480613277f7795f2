/- Walks: ApartKeys. -/
import Derived.Test.YtfifalopbfopnaaGreatDoorVr
import Derived.Test.YtfifalopbfopnaaGreatDoorAHelp
import Derived.Test.YtfifalopbfopnaaGreatDoorWh
set_option linter.unusedVariables false
set_option linter.unusedSimpArgs false
namespace Go.Proofs.YtfifalopbfopnaaGreatDoor
open Go.RowKit

def mkKey (k i : Nat) : Key2 := (-10 - (k : Int), (i : Int))
def mkKeys (k m : Nat) : List Value := cellsL encKey ((List.range m).map fun i : Nat => mkKey k i)
theorem mkKeys_succ (k m : Nat) : mkKeys k (m + 1) = mkKeys k m ++ [.int .i64 (-10 - (k : Int)), .int .i64 (m : Int)] := by
  simp [mkKeys, List.range_succ, cellsL_append, cellsL, encKey, mkKey]
theorem mkKeys_length (k m : Nat) : (mkKeys k m).length = m * 2 := by
  unfold mkKeys; rw [cellsL_length encKey_len]; simp
theorem mkKeys_at (k m i j : Nat) (h : i < m) (hj : j < 2) : (mkKeys k m)[i * 2 + j]? = (encKey (mkKey k i))[j]? :=
  cellsL_at encKey_len ((List.range m).map fun i : Nat => mkKey k i) i j (mkKey k i) (by simp [h]) hj
theorem mkKeys_more (k a : Nat) : ∀ d, ∃ r, mkKeys k (a + d) = mkKeys k a ++ r
  | 0 => ⟨[], by simp⟩
  | d + 1 => by
    obtain ⟨r, h⟩ := mkKeys_more k a d
    exact ⟨_, by rw [← Nat.add_assoc, mkKeys_succ, h, List.append_assoc]⟩
theorem mkKeys_take (k a b : Nat) (h : a ≤ b) : (mkKeys k b).take (a * 2) = mkKeys k a := by
  obtain ⟨r, hr⟩ := mkKeys_more k a (b - a)
  rw [show a + (b - a) = b from by omega] at hr
  rw [hr, ← mkKeys_length k a, List.take_left]
theorem markKeys_gen (k i : Nat) (w : World) (hk : k ≤ 4294967296) (hi : i ≤ 8589934592) :
    Calls Tryz.prog 48 #[.int .i64 (k : Int), .int .i64 (i : Int)] w fun e w' => e = .returned (.agg #[.int .i64 (-10 - (k : Int)), .int .i64 (i : Int)]) ∧
      w' = w.alloc (.cells #[.int .i64 (-10 - (k : Int)), .int .i64 (i : Int)] 33) := by
  go_enter Tryz.func48, Tryz.ntmps48
  go_wp2
  exact bodyPost_ret (v := .agg #[.int .i64 (-10 - (k : Int)), .int .i64 (i : Int)]) (by simp [results, Tryz.results48, go_sem]) rfl ⟨rfl, rfl⟩

/-- The rows' contents when the first k of them have been written over. -/
def stKeys (k : Nat) (ls : List (Nat × List Value)) : List (Nat × List Value) := ls.mapIdx fun j x => if j < k then (x.1, mkKeys j x.1) else x
theorem stKeys_at {k j : Nat} {ls : List (Nat × List Value)} {x : Nat × List Value} (h : ls[j]? = some x) : (stKeys k ls)[j]? = some (if j < k then (x.1, mkKeys j x.1) else x) := by
  simp [stKeys, List.getElem?_mapIdx, h]
theorem stKeys_zero (ls : List (Nat × List Value)) : stKeys 0 ls = ls := by
  refine List.ext_getElem? fun j => ?_
  simp [stKeys, List.getElem?_mapIdx]
theorem stKeys_next {k n : Nat} {ls : List (Nat × List Value)} {old : List Value} (h : ls[k]? = some (n, old)) : (stKeys k ls).set k (n, mkKeys k n) = stKeys (k + 1) ls := by
  refine List.ext_getElem? fun j => ?_
  rw [List.getElem?_set]
  by_cases e : k = j
  · subst e
    have hl : k < (stKeys k ls).length := by simp [stKeys]; exact (List.getElem?_eq_some_iff.1 h).1
    rw [if_pos rfl, if_pos hl, stKeys_at h]; simp
  · rw [if_neg e]
    simp only [stKeys, List.getElem?_mapIdx]
    cases ls[j]? with
    | none => rfl
    | some x =>
      simp
      by_cases h1 : j < k
      · rw [if_pos h1, if_pos (by omega)]
      · rw [if_neg h1, if_neg (by omega)]

theorem set_app (P Q : List Value) (n j : Nat) (v : Value) (h : P.length = n) : (P ++ Q).set (n + j) v = P ++ Q.set j v := by
  rw [List.set_append_right _ _ (by omega), h, Nat.add_sub_cancel_left]
theorem mkKeys_put {k i n : Nat} {old : List Value} (hi : i < n) (hl : old.length = n * 2) :
    ((mkKeys k i ++ old.drop (i * 2)).set (i * 2) (.int .i64 (-10 - (k : Int)))).set (i * 2 + 1) (.int .i64 (i : Int)) = mkKeys k (i + 1) ++ old.drop ((i + 1) * 2) := by
  have hp := mkKeys_length k i
  have e0 := set_app (mkKeys k i) (old.drop (i * 2)) (i * 2) 0 (.int .i64 (-10 - (k : Int))) hp
  rw [Nat.add_zero] at e0
  rw [e0, set_app _ _ _ _ _ hp, mkKeys_succ, List.append_assoc]
  congr 1
  have hd : old.drop ((i + 1) * 2) = (old.drop (i * 2)).drop 2 := by rw [List.drop_drop]; congr 1; omega
  have hq : 2 ≤ (old.drop (i * 2)).length := by rw [List.length_drop]; omega
  rw [hd]
  generalize old.drop (i * 2) = q at hq
  match q, hq with
  | q0 :: q1 :: r, _ => rfl

theorem Tryz.sltOutKeys : SlT Tryz.prog 30 40 1 24 := ⟨Tryz.underlying30, ⟨.slice none 0 0, by kernel_rfl, rfl⟩, by decide, by decide⟩
set_option maxRecDepth 100000 in
set_option maxHeartbeats 4000000 in
theorem apartKeys_any (A : Option Addr) (N cap B : Nat) (vs : List Value) (ls : List (Nat × List Value)) (w : World) (ha : Sl w A N 1 vs) (hA : ∀ ad, A = some ad → ¬ OwnS vs ad.block) (hr : RowsOf w B 33 2 vs ls)
    (hn : ∀ x, x ∈ ls → x.1 ≤ 4294967296) (hN : N ≤ 4294967296) (hB : B ≤ w.heap.size) :
    Calls Tryz.prog 15 #[.slice A N cap] w fun e w' => e = .returned (.bool true) ∧ Mod (OwnS vs) w w' := by
  have hvl : vs.length = N := by have := ha.len; omega
  have hll : ls.length = N := by rw [← hr.len]; exact hvl
  have HN := Lib.hid hn
  have HVL := Lib.hid hvl
  have HLL := Lib.hid hll
  have HA := Lib.hid hA
  have HR0 := Lib.hid hr
  clear hn hvl hll hA
  go_enter Tryz.func15, Tryz.ntmps15
  go_wp2
  go_loopw [3] (fun k wr => ∃ k' : Nat, k' ≤ N ∧ k = .int .i64 (k' : Int) ∧ RowsOf wr B 33 2 vs (stKeys k' ls) ∧ Mod (OwnS vs) w wr) (fun k _ => N - (intOf k).toNat)
  case atStart => exact ⟨0, Nat.zero_le _, rfl, by rw [stKeys_zero]; exact hr, Mod.refl _ _⟩
  case round =>
    obtain ⟨k, hk, rfl, hrw, hw⟩ := hrel
    have HRW := Lib.hid hrw
    clear hrw
    by_cases hlt : k < N
    · obtain ⟨b, off, v, rfl, hv, hcv⟩ := (ha.kept hw HA.out).at1 hlt
      obtain ⟨⟨n, old⟩, hx⟩ : ∃ x, ls[k]? = some x := ⟨_, List.getElem?_eq_getElem (by rw [HLL.out]; exact hlt)⟩
      have hn4 : n ≤ 4294967296 := HN.out _ (List.mem_of_getElem? hx)
      have hown := HRW.out.own k v (n, old) hv (by rw [stKeys_at hx]; simp)
      obtain ⟨RA, rc, rfl⟩ := own_shape hown
      have hrel0 : RowsOf wr B 33 2 vs ((stKeys k ls).set k (n, mkKeys k 0 ++ old.drop (0 * 2))) := by
        have e : (stKeys k ls).set k (n, mkKeys k 0 ++ old.drop (0 * 2)) = stKeys k ls := by
          refine List.ext_getElem? fun j => ?_
          rw [List.getElem?_set]
          by_cases e : k = j
          · subst e
            have hl : k < (stKeys k ls).length := by simp [stKeys]; rw [HLL.out]; exact hlt
            rw [if_pos rfl, if_pos hl, stKeys_at hx]; simp [mkKeys, cellsL]
          · rw [if_neg e]
        rw [e]; exact HRW.out
      have HV := Lib.hid hv
      have HX := Lib.hid hx
      have hol : old.length = n * 2 := by have := hown.1; simpa using this
      have HL0 := Lib.hid hol
      clear hol
      have H0 := Lib.hid hrel0
      clear hv hx hrel0
      obtain ⟨wo, rfl⟩ : ∃ wo : World, wo = wr := ⟨_, rfl⟩
      go_wp2
      go_loopw [4] (fun i wr' => ∃ i' : Nat, i' ≤ n ∧ i = .int .i64 (i' : Int) ∧ RowsOf wr' B 33 2 vs ((stKeys k ls).set k (n, mkKeys k i' ++ old.drop (i' * 2))) ∧ Mod (OwnS vs) w wr') (fun i _ => n - (intOf i).toNat)
      case atStart => exact ⟨0, Nat.zero_le _, rfl, H0.out, hw⟩
      case round =>
        obtain ⟨i, hi, rfl, hri, hwi⟩ := hrel
        have hcv2 : wr.cell? ⟨b, off + k, none⟩ = some (.slice RA n rc) := by
          obtain ⟨b', off', v', he, hv', hc'⟩ := (ha.kept hwi HA.out).at1 hlt
          rw [HV.out] at hv'
          injection he with he
          injection he with he1 he2
          injection hv' with hv'
          subst he1 he2 hv'
          exact hc'
        by_cases hlt2 : i < n
        · have hsl : k < (stKeys k ls).length := by simp [stKeys]; rw [HLL.out]; exact hlt
          have hown2 := hri.own k _ (n, mkKeys k i ++ old.drop (i * 2)) HV.out (by simp [hsl])
          obtain ⟨g, rfl, hgB, hgl⟩ : ∃ g, RA = some ⟨g, 0, none⟩ ∧ B ≤ g ∧ g < wr.heap.size := by
            obtain ⟨g, cap, hv, h1, h2⟩ := hown2.form (by omega)
            injection hv with hv
            exact ⟨g, hv, h1, h2⟩
          have hci : ∀ t, t < 2 → ∃ z, wr.cell? ⟨g, i * 2 + t, none⟩ = some z := fun t ht => by
            have hl : i * 2 + t < (mkKeys k i ++ old.drop (i * 2)).length := by have := hown2.1; simp only at this; omega
            exact ⟨_, by rw [hown2.cellAt (i * 2 + t) (by omega), List.getElem?_eq_getElem hl]⟩
          obtain ⟨z0, d0⟩ := hci 0 (by omega)
          obtain ⟨z1, d1⟩ := hci 1 (by omega)
          have f0 := hown2.frozenAt (i * 2 + 0)
          have f1 := hown2.frozenAt (i * 2 + 1)
          simp only [Nat.add_zero] at d0 f0
          have hbl : b < wr.heap.size := World.block_lt_of_cell? wr _ hcv2
          have HRI := Lib.hid hri
          have HO2 := Lib.hid hown2
          clear hri hown2 hsl hci
          go_wp2
          go_region_with (go_at_call 48; refine (markKeys_gen k i _ (by omega) (by omega)).mono ?_; rintro e w2 ⟨rfl, rfl⟩)
          all_goals
            go_wp2
            go_roundw
            case rel =>
              have hsl : k < (stKeys k ls).length := by simp [stKeys]; rw [HLL.out]; exact hlt
              have h1 := HRI.out.store (i := k) HV.out (by simp [hsl]; rfl) (i * 2) (.int .i64 (-10 - (k : Int)))
              rw [List.set_set] at h1
              have h2 := h1.store (i := k) HV.out (by simp [hsl]; rfl) (i * 2 + 1) (.int .i64 (i : Int))
              rw [List.set_set, mkKeys_put hlt2 HL0.out] at h2
              have hS : OwnS vs g := ⟨k, _, HV.out, rfl⟩
              exact ⟨i + 1, by omega, by go_num, h2.new_ ((Mod.refl _ _).alloc _).drew, (((hwi.set_ (p := ⟨g, i * 2, none⟩) (fun _ => hS) _).set_ (p := ⟨g, i * 2 + 1, none⟩) (fun _ => hS) _).alloc _).drew⟩
            case measure => simp [intOf]; omega
        · obtain rfl : i = n := by omega
          have hri2 : RowsOf wr B 33 2 vs (stKeys (k + 1) ls) := by
            rw [← stKeys_next HX.out]
            rwa [List.drop_of_length_le (by have := HL0.out; omega), List.append_nil] at hri
          have HRI := Lib.hid hri2
          clear hri hri2
          go_wp2
          go_roundw
          case rel => exact ⟨k + 1, by omega, by go_num, HRI.out, hwi⟩
          case measure => simp [intOf]; omega
    · obtain rfl : k = N := by omega
      have hrN : RowsOf wr B 33 2 vs (stKeys k ls) := HRW.out
      have hT0 : TwoRows wr B 33 2 mkKeys vs (ls.map (·.1)) [] [] := TwoRows.start hrN (by
        refine List.ext_getElem? fun j => ?_
        rw [List.getElem?_map, List.getElem?_map]
        cases hx : ls[j]? with
        | none => rw [List.getElem?_eq_none (by simp [stKeys]; exact List.getElem?_eq_none_iff.1 hx)]
        | some x => rw [stKeys_at hx]; by_cases hq : j < k <;> simp [hq]) (fun j x hx => by
        have hj : j < ls.length := by have := (List.getElem?_eq_some_iff.1 hx).1; simpa [stKeys] using this
        rw [stKeys_at (List.getElem?_eq_getElem hj)] at hx
        injection hx with hx
        subst hx
        rw [if_pos (by have := HLL.out; omega)])
      have HT0 := Lib.hid hT0
      have hNs : ∀ j n, (ls.map (·.1))[j]? = some n → n ≤ 4294967296 := fun j n h => by
        rw [List.getElem?_map] at h
        obtain ⟨x, hx, rfl⟩ := Option.map_eq_some_iff.1 h
        exact HN.out x (List.mem_of_getElem? hx)
      have HNS := Lib.hid hNs
      have hnl : (ls.map (·.1)).length = k := by simp; exact HLL.out
      have HNL := Lib.hid hnl
      clear hrN hT0 hNs hnl
      generalize hns : ls.map (·.1) = ns at *
      clear hns
      obtain ⟨wo, rfl⟩ : ∃ wo : World, wo = wr := ⟨_, rfl⟩
      have hBo : B ≤ wo.heap.size := Nat.le_trans hB hw.size
      go_wp2
      go_loopw [5, 6] (fun gv i wr => ∃ (j : Nat) (us : List Value) (ms : List Nat), j ≤ k ∧ i = .int .i64 (j : Int) ∧ us.length = j ∧ ms = (ns.take j).map (· + 64) ∧ TwoRows wr B 33 2 mkKeys vs ns us ms ∧ wr.ownsRow wo.heap.size 40 1 gv j us ∧ Mod (OwnS vs) wo wr ∧ (∀ (q : Nat) (u : Value) (b' : Nat), us[q]? = some u → u.ownBlock = some b' → OwnS vs b' ∨ wo.heap.size ≤ b')) (fun _ i _ => k - (intOf i).toNat)
      case atStart => exact ⟨0, [], [], Nat.zero_le _, rfl, rfl, by simp, HT0.out, own_nil _ _ _ _, Mod.refl _ _, fun q u b' hu => by simp at hu⟩
      case round =>
        obtain ⟨j, us, ms, hj, rfl, hul, hms, hT, hgv, hwm, hub⟩ := hrel
        have HUL := Lib.hid hul
        have HMS := Lib.hid hms
        have HT := Lib.hid hT
        have HGV := Lib.hid hgv
        have HUB := Lib.hid hub
        clear hul hms hT hub
        obtain ⟨GA, gc, rfl⟩ := own_shape hgv
        by_cases hjk : j < k
        · obtain ⟨v, hv⟩ : ∃ v, vs[j]? = some v := ⟨_, List.getElem?_eq_getElem (by have := HVL.out; omega)⟩
          obtain ⟨n, hnj⟩ : ∃ n, ns[j]? = some n := ⟨_, List.getElem?_eq_getElem (by have := HNL.out; omega)⟩
          have hn4 := HNS.out j n hnj
          have hT1 := HT.out.push (v := v) (n := n) (by rw [HUL.out]; exact hv) (by rw [HUL.out]; exact hnj)
          obtain ⟨b, off, v', rfl, hv', hcv⟩ := (ha.kept (Mod.trans hw hwm (fun _ _ h => h)) HA.out).at1 (k := j) (by omega)
          rw [hv] at hv'
          injection hv' with hv'
          subst hv'
          obtain ⟨RA, rc, rfl⟩ := own_shape (HT.out.ownv j v n hv hnj)
          have HV := Lib.hid hv
          have HNJ := Lib.hid hnj
          have HT1 := Lib.hid hT1
          clear hv hnj hT1
          obtain ⟨wp, rfl⟩ : ∃ wp : World, wp = wr := ⟨_, rfl⟩
          go_wp2
          go_loopw [7, 8] (fun t i wr => ∃ (i' : Nat) (t' : Value), i' ≤ 64 ∧ i = .int .i64 (i' : Int) ∧ t' = t ∧ TwoRows wr B 33 2 mkKeys vs ns (us ++ [t']) (ms ++ [n + i']) ∧ wr.ownsRow wo.heap.size 40 1 (.slice GA j gc) j us ∧ Mod (OwnS vs) wo wr ∧ (∀ b', t'.ownBlock = some b' → OwnS vs b' ∨ wo.heap.size ≤ b')) (fun _ i _ => 64 - (intOf i).toNat)
          case atStart => exact ⟨0, _, by omega, rfl, rfl, HT1.out, hgv, hwm, fun b' hb => .inl ⟨j, _, HV.out, hb⟩⟩
          case round =>
            obtain ⟨i, t, hi, rfl, rfl, hTi, hgi, hwi, hti⟩ := hrel
            have hown := hTi.ownu us.length t (n + i) (by simp) (by have := HT.out.lenu; rw [this]; simp)
            have HTI := Lib.hid hTi
            have HTT := Lib.hid hti
            clear hTi hti
            by_cases hi64 : i < 64
            · have hcv2 : wr.cell? ⟨b, off + j, none⟩ = some (.slice RA n rc) := by
                obtain ⟨b', off', v', he, hv', hc'⟩ := (ha.kept (Mod.trans hw hwi (fun _ _ h => h)) HA.out).at1 (k := j) (by omega)
                rw [HV.out] at hv'
                injection he with he
                injection he with he1 he2
                injection hv' with hv'
                subst he1 he2 hv'
                exact hc'
              obtain ⟨TA, tc, rfl⟩ := own_shape hown
              have hmk := fun W => markKeys_gen j (n + i) W (by omega) (by omega)
              have hni : ((n + i : Nat) : Int) = (n : Int) + (i : Int) := by omega
              simp only [hni] at hmk
              have HMK := Lib.hid hmk
              clear hmk hni
              go_wp2_with (first
                | (go_at_call 48; refine (HMK.out _).mono ?_; rintro e w2 ⟨rfl, rfl⟩)
                | (at_builtin; go_loud (refine wpList_appm Tryz.sltKeys rfl (.tmp 50) (.tmp 60) rfl B _ (n + i) _ rfl ((hown.alloc _).alloc _) ⟨wr.heap.size + 1, 0, none⟩ 1 1 [.int .i64 (-10 - (j : Int)), .int .i64 ((n : Int) + (i : Int))] (by omega) rfl rfl ?c0 ?c1 ?c2 ?c3 ?_)))
              case c0 => have := cells_new (wr.alloc (.cells #[.int .i64 (-10 - (j : Int)), .int .i64 ((n : Int) + (i : Int))] 33)) [.int .i64 (-10 - (j : Int)), .int .i64 ((n : Int) + (i : Int))] 33; simpa using this
              case c1 => simp [Value.oneCell']
              case c2 => omega
              case c3 => simp; have := hwi.size; omega
              intro t' w3 hown3 hmv
              have hal : Mod (OwnS vs) wo ((wr.alloc (.cells #[.int .i64 (-10 - (j : Int)), .int .i64 ((n : Int) + (i : Int))] 33)).alloc (.cells #[.int .i64 (-10 - (j : Int)), .int .i64 ((n : Int) + (i : Int))] 33)) := (hwi.alloc _).alloc _
              have hm3 : Mod (OwnS vs) wo w3 := by
                rcases hmv with ⟨g, cap, h1, _, hg⟩ | ⟨_, hnew⟩
                · refine Mod.trans hal (Mod.of_grown (S := fun b => b = g) hg (fun k h => by injection h with h; exact h.symm)) (fun x hx h => ?_)
                  subst h
                  rcases HTT.out x (by rw [h1]; rfl) with h2 | h2
                  · exact h2
                  · omega
                · exact Mod.trans hal hnew (fun _ _ h => h.elim)
              have hT3 : TwoRows w3 B 33 2 mkKeys vs ns (us ++ [t']) (ms ++ [n + i + 1]) := by
                have h0 := HTI.out.new_ (((Mod.refl _ wr).alloc (.cells #[.int .i64 (-10 - (j : Int)), .int .i64 ((n : Int) + (i : Int))] 33)).alloc (.cells #[.int .i64 (-10 - (j : Int)), .int .i64 ((n : Int) + (i : Int))] 33))
                have e : (((n + i : Nat) : Int)) = (n : Int) + (i : Int) := by omega
                exact h0.step (n := n) (by decide) (by rw [HUL.out]; exact HV.out) (by rw [HUL.out]; exact HNJ.out) (by omega) (fun a b h => mkKeys_take _ a b h) (by rw [mkKeys_succ, HUL.out, e]) hown3 hmv
              have hg3 : w3.ownsRow wo.heap.size 40 1 (.slice GA j gc) j us := (own_new hgi (((Mod.refl _ wr).alloc _).alloc _)).kept hmv.grown (own_type_ne hgi hown (by decide))
              have ht3 : ∀ b', t'.ownBlock = some b' → OwnS vs b' ∨ wo.heap.size ≤ b' := fun b' hb => by
                rcases hmv.block with h | h
                · rw [h] at hb; exact HTT.out b' hb
                · rw [h] at hb; injection hb with hb; simp at hb; have := hwi.size; omega
              have HT3 := Lib.hid hT3
              have HG3 := Lib.hid hg3
              have HTT3 := Lib.hid ht3
              have HM3 := Lib.hid hm3
              clear hT3 hg3 ht3 hm3 hal hmv hown3
              go_wp2
              go_roundw
              case rel => exact ⟨i + 1, t', by omega, by go_num, rfl, by rw [← Nat.add_assoc]; exact HT3.out, HG3.out, HM3.out, HTT3.out⟩
              case measure => simp [intOf]; omega
            · obtain rfl : i = 64 := by omega
              obtain ⟨TA, tc, rfl⟩ := own_shape hown
              go_wp2_with (at_builtin; go_must (refine wpList_app Tryz.sltOutKeys rfl (.tmp 62) (.tmp 64) rfl wo.heap.size _ j _ rfl (hgi.alloc _) ⟨wr.heap.size, 0, none⟩ 1 1 [.slice TA (n + 64) tc] rfl rfl (cells_new _ _ _) ?c1 ?c2 ?c3 ?_))
              case c1 => simp [Value.oneCell']
              case c2 => omega
              case c3 => simp; have := hwi.size; omega
              intro g' w4 hg4 hgr4 _
              have hT4 : TwoRows w4 B 33 2 mkKeys vs ns (us ++ [.slice TA (n + 64) tc]) (ms ++ [n + 64]) := (HTI.out.new_ ((Mod.refl _ wr).alloc _)).grown hgr4 (fun q x hx => by
                have h0 := HTI.out.new_ ((Mod.refl _ wr).alloc (.cells #[.slice TA (n + 64) tc] 40))
                rcases hx with hx | hx
                · have hj2 : q < ns.length := by rw [← h0.lenv]; exact (List.getElem?_eq_some_iff.1 hx).1
                  exact own_type_ne (h0.ownv q x _ hx (List.getElem?_eq_getElem hj2)) (hgi.alloc _) (by decide)
                · have hj2 : q < (ms ++ [n + 64]).length := by rw [← h0.lenu]; exact (List.getElem?_eq_some_iff.1 hx).1
                  exact own_type_ne (h0.ownu q x _ hx (List.getElem?_eq_getElem hj2)) (hgi.alloc _) (by decide))
              have hm4 : Mod (OwnS vs) wo w4 := Mod.trans (hwi.alloc _) (Mod.of_grown (S := fun b => (Value.slice GA j gc).ownBlock = some b) hgr4 (fun _ h => h)) (fun x hx h => by have := (hgi.lt x h).1; omega)
              have HT4 := Lib.hid hT4
              have HG4 := Lib.hid hg4
              have HM4 := Lib.hid hm4
              clear hT4 hg4 hm4 hgr4
              go_wp2
              go_roundw
              case rel => exact ⟨j + 1, us ++ [.slice TA (n + 64) tc], ms ++ [n + 64], by omega, by go_num, by simp; exact HUL.out, by rw [List.take_add_one, HNJ.out, List.map_append, ← HMS.out]; rfl, HT4.out, HG4.out, HM4.out, fun q u b' hu hb => by
                by_cases hq : q < us.length
                · rw [List.getElem?_append_left hq] at hu; exact HUB.out q u b' hu hb
                · rw [List.getElem?_append_right (by omega)] at hu
                  have hq0 : q - us.length = 0 := by
                    have := (List.getElem?_eq_some_iff.1 hu).1
                    simp at this; omega
                  rw [hq0] at hu
                  simp at hu
                  subst hu
                  exact HTT.out b' hb⟩
              case measure => simp [intOf]; omega
        · obtain rfl : j = k := by omega
          obtain ⟨wz, rfl⟩ : ∃ wz : World, wz = wr := ⟨_, rfl⟩
          have hgs := own_sl hgv
          go_wp2
          go_loopw [9] (fun q wr => ∃ q' : Nat, q' ≤ j ∧ q = .int .i64 (q' : Int) ∧ New wz wr) (fun q _ => j - (intOf q).toNat)
          case atStart => exact ⟨0, Nat.zero_le _, rfl, Mod.refl _ _⟩
          case round =>
            obtain ⟨q, hq, rfl, hwq⟩ := hrel
            by_cases hqj : q < j
            · obtain ⟨v, hv⟩ : ∃ v, vs[q]? = some v := ⟨_, List.getElem?_eq_getElem (by have := HVL.out; omega)⟩
              obtain ⟨n, hnq⟩ : ∃ n, ns[q]? = some n := ⟨_, List.getElem?_eq_getElem (by have := HNL.out; omega)⟩
              obtain ⟨u, hu⟩ : ∃ u, us[q]? = some u := ⟨_, List.getElem?_eq_getElem (by have := HUL.out; omega)⟩
              have hmq : ms[q]? = some (n + 64) := by rw [HMS.out, List.getElem?_map, List.getElem?_take, if_pos hqj, hnq]; rfl
              have hn4 := HNS.out q n hnq
              have hrv := HT.out.ownv q v n hv hnq
              have hru := HT.out.ownu q u (n + 64) hu hmq
              obtain ⟨RA, rc, rfl⟩ := own_shape hrv
              obtain ⟨UA, uc, rfl⟩ := own_shape hru
              obtain ⟨ug, rfl, hugB, hugl⟩ : ∃ g, UA = some ⟨g, 0, none⟩ ∧ B ≤ g ∧ g < wz.heap.size := by
                obtain ⟨g, cap, hv, h1, h2⟩ := hru.form (by omega)
                injection hv with hv
                exact ⟨g, hv, h1, h2⟩
              have hout : ∀ W, New wz W → ∃ b off, A = some ⟨b, off, none⟩ ∧ W.cell? ⟨b, off + q, none⟩ = some (.slice RA n rc) := fun W hW => by
                obtain ⟨b', off', v', he, hv', hc'⟩ := (ha.kept (Mod.trans (Mod.trans hw hwm (fun _ _ h => h)) hW (fun _ _ h => h.elim)) HA.out).at1 (k := q) (by omega)
                rw [hv] at hv'
                injection hv' with hv'
                subst hv'
                exact ⟨b', off', he, hc'⟩
              have hgo : ∀ W, New wz W → ∃ b off, GA = some ⟨b, off, none⟩ ∧ W.cell? ⟨b, off + q, none⟩ = some (.slice (some ⟨ug, 0, none⟩) (n + 64) uc) := fun W hW => by
                obtain ⟨b', off', v', he, hv', hc'⟩ := (hgs.new_ hW).at1 (k := q) hqj
                rw [hu] at hv'
                injection hv' with hv'
                subst hv'
                exact ⟨b', off', he, hc'⟩
              obtain ⟨ob, oo, rfl, hoc⟩ := hout wr hwq
              obtain ⟨gb, go, rfl, hgc⟩ := hgo wr hwq
              have HOUT := Lib.hid hout
              have HGO := Lib.hid hgo
              clear hv hnq hu hmq hout hgo hgs
              obtain ⟨wy, rfl⟩ : ∃ wy : World, wy = wr := ⟨_, rfl⟩
              go_wp2
              go_loopw [10] (fun i wr => ∃ i' : Nat, i' ≤ n + 64 ∧ i = .int .i64 (i' : Int) ∧ New wz wr) (fun i _ => n + 64 - (intOf i).toNat)
              case atStart => exact ⟨0, by omega, rfl, hwq⟩
              case round =>
                obtain ⟨i, hi, rfl, hwi⟩ := hrel
                obtain ⟨b1, o1, he1, hoc2⟩ := HOUT.out wr hwi
                obtain ⟨b2, o2, he2, hgc2⟩ := HGO.out wr hwi
                injection he1 with he1
                injection he1 with he3 he4
                injection he2 with he2
                injection he2 with he5 he6
                subst he3 he4 he5 he6
                by_cases hin : i < n + 64
                · have hmk := fun W => markKeys_gen q i W (by omega) (by omega)
                  have cu : ∀ t v, (encKey (mkKey q i))[t]? = some v → wr.cell? ⟨ug, i * 2 + t, none⟩ = some v := fun t v hv => own_at encKey_len (own_new hru hwi) (by simp [hin]) t v hv
                  have u0 := cu 0 _ rfl
                  have u1 := cu 1 _ rfl
                  simp only [Nat.add_zero] at u0
                  dsimp only [mkKey] at u0 u1
                  have hob := World.block_lt_of_cell? wr _ hoc2
                  have hgb := World.block_lt_of_cell? wr _ hgc2
                  have hub2 := World.block_lt_of_cell? wr _ u0
                  have hd1 : ((-10 - (q : Int)) == (-10 - (q : Int))) = true := by simp
                  have hd2 : ((i : Int) == (i : Int)) = true := by simp
                  clear cu
                  have HMK := Lib.hid hmk
                  clear hmk
                  by_cases hnn : i < n
                  · obtain ⟨rg, rfl, hrgB, hrgl⟩ : ∃ g, RA = some ⟨g, 0, none⟩ ∧ B ≤ g ∧ g < wz.heap.size := by
                      obtain ⟨g, cap, hv, h1, h2⟩ := hrv.form (by omega)
                      injection hv with hv
                      exact ⟨g, hv, h1, h2⟩
                    have cr : ∀ t v, (encKey (mkKey q i))[t]? = some v → wr.cell? ⟨rg, i * 2 + t, none⟩ = some v := fun t v hv => own_at encKey_len (own_new hrv hwi) (by simp [hnn]) t v hv
                    have r0 := cr 0 _ rfl
                    have r1 := cr 1 _ rfl
                    simp only [Nat.add_zero] at r0
                    dsimp only [mkKey] at r0 r1
                    have hrb := World.block_lt_of_cell? wr _ r0
                    clear cr
                    go_wp2_with (go_at_call 48; refine (HMK.out _).mono ?_; rintro e w2 ⟨rfl, rfl⟩)
                    go_quiet (fail)
                    go_wp2
                    go_roundw
                    case rel => exact ⟨i + 1, by omega, by go_num, ((hwi.alloc _).alloc _).drewN _⟩
                    case measure => simp [intOf]; omega
                  · go_wp2_with (go_at_call 48; refine (HMK.out _).mono ?_; rintro e w2 ⟨rfl, rfl⟩)
                    go_quiet (fail)
                    go_wp2
                    go_roundw
                    case rel => exact ⟨i + 1, by omega, by go_num, ((hwi.alloc _).alloc _).drewN _⟩
                    case measure => simp [intOf]; omega
                · go_wp2
                  go_roundw
                  case rel => exact ⟨q + 1, by omega, by go_num, hwi⟩
                  case measure => simp [intOf]; omega
            · go_wp2
              go_ret
              exact ⟨rfl, Mod.trans (Mod.trans hw hwm (fun _ _ h => h)) hwq (fun _ _ h => h.elim)⟩
end Go.Proofs.YtfifalopbfopnaaGreatDoor
