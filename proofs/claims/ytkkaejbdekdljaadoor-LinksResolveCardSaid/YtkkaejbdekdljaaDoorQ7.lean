/- Words and walks, part 7 of 19. -/
import Derived.StillTailTactics
import Derived.Deep.LoopGhost
import Derived.Test.YtkkaejbdekdljaaDoorTie
import Derived.Test.YtkkaejbdekdljaaDoorCards
import Derived.SevenTiedAt
import Derived.Test.YtkkaejbdekdljaaDoorQ2
import Derived.Test.YtkkaejbdekdljaaDoorQ6
/- Walks: ApartInts. -/
set_option linter.unusedVariables false
set_option linter.unusedSimpArgs false
namespace Go.Proofs.YtkkaejbdekdljaaDoor
open Go.RowKit

def mkInts (k m : Nat) : List Value := cellsL encInts ((List.range m).map fun i : Nat => (1000003 * ((k : Int) + 1) + (i : Int)))
theorem mkInts_succ (k m : Nat) : mkInts k (m + 1) = mkInts k m ++ [.int .i64 (1000003 * ((k : Int) + 1) + (m : Int))] := by
  simp [mkInts, List.range_succ, cellsL_append, cellsL, encInts]
theorem mkInts_length (k m : Nat) : (mkInts k m).length = m := by
  unfold mkInts; rw [cellsL_length (sz := 1) (fun _ => rfl)]; simp
theorem mkInts_at (k m i : Nat) (h : i < m) : (mkInts k m)[i]? = some (.int .i64 (1000003 * ((k : Int) + 1) + (i : Int))) := by
  have := cellsL_at (enc := encInts) (sz := 1) (fun _ => rfl) ((List.range m).map fun i : Nat => (1000003 * ((k : Int) + 1) + (i : Int))) i 0 (1000003 * ((k : Int) + 1) + (i : Int)) (by simp [h]) (by omega)
  unfold mkInts
  simpa [encInts] using this
theorem mkInts_take (k a b : Nat) (h : a ≤ b) : (mkInts k b).take (a * 1) = mkInts k a := by
  refine List.ext_getElem? fun i => ?_
  rw [Nat.mul_one, List.getElem?_take]
  by_cases hi : i < a
  · rw [if_pos hi, mkInts_at k b i (by omega), mkInts_at k a i hi]
  · rw [if_neg hi, List.getElem?_eq_none (by rw [mkInts_length]; omega)]
theorem markInts_gen (k i : Nat) (w : World) (hk : k ≤ 4294967296) (hi : i ≤ 8589934592) :
    Calls Tryd.prog 43 #[.int .i64 (k : Int), .int .i64 (i : Int)] w fun e w' => e = .returned (.int .i64 (1000003 * ((k : Int) + 1) + (i : Int))) ∧ w = w' := by
  go_enter Tryd.func43, Tryd.ntmps43
  go_wp2
  go_ret
  exact ⟨rfl, rfl⟩

/-- The rows' contents when the first k of them have been written over. -/
def stInts (k : Nat) (ls : List (Nat × List Value)) : List (Nat × List Value) := ls.mapIdx fun j x => if j < k then (x.1, mkInts j x.1) else x
theorem stInts_at {k j : Nat} {ls : List (Nat × List Value)} {x : Nat × List Value} (h : ls[j]? = some x) : (stInts k ls)[j]? = some (if j < k then (x.1, mkInts j x.1) else x) := by
  simp [stInts, List.getElem?_mapIdx, h]
theorem stInts_zero (ls : List (Nat × List Value)) : stInts 0 ls = ls := by
  refine List.ext_getElem? fun j => ?_
  simp [stInts, List.getElem?_mapIdx]
theorem stInts_next {k n : Nat} {ls : List (Nat × List Value)} {old : List Value} (h : ls[k]? = some (n, old)) : (stInts k ls).set k (n, mkInts k n) = stInts (k + 1) ls := by
  refine List.ext_getElem? fun j => ?_
  rw [List.getElem?_set]
  by_cases e : k = j
  · subst e
    have hl : k < (stInts k ls).length := by simp [stInts]; exact (List.getElem?_eq_some_iff.1 h).1
    rw [if_pos rfl, if_pos hl, stInts_at h]; simp
  · rw [if_neg e]
    simp only [stInts, List.getElem?_mapIdx]
    cases ls[j]? with
    | none => rfl
    | some x =>
      simp
      by_cases h1 : j < k
      · rw [if_pos h1, if_pos (by omega)]
      · rw [if_neg h1, if_neg (by omega)]

theorem own_type_ne {w : World} {b b' : Nat} {e e' : TypeId} {s s' n n' : Nat} {v v' : Value} {xs xs' : List Value} (h : w.ownsRow b e s v n xs) (h' : w.ownsRow b' e' s' v' n' xs') (hne : e ≠ e') : v.ownBlock = none ∨ v.ownBlock ≠ v'.ownBlock := by
  rcases h.2 with ⟨rfl, _⟩ | ⟨g, cap, cur, rfl, _, hh, _⟩
  · exact .inl rfl
  · refine .inr fun hk => ?_
    rcases h'.2 with ⟨rfl, _⟩ | ⟨g', cap', cur', rfl, _, hh', _⟩
    · simp [Value.ownBlock] at hk
    · have : g = g' := by simpa [Value.ownBlock] using hk
      subst this
      rw [hh] at hh'
      injection hh' with hh'
      injection hh' with _ ht
      exact hne ht
theorem mkInts_put {k i n : Nat} {old : List Value} (hi : i < n) (hl : old.length = n) : (mkInts k i ++ old.drop i).set i (.int .i64 (1000003 * ((k : Int) + 1) + (i : Int))) = mkInts k (i + 1) ++ old.drop (i + 1) := by
  rw [List.set_append_right _ _ (by rw [mkInts_length]; omega), mkInts_length, Nat.sub_self, mkInts_succ, List.append_assoc, List.drop_eq_getElem_cons (by omega)]
  rfl

theorem Tryd.sltOutInts : SlT Tryd.prog 35 24 1 24 := ⟨Tryd.underlying35, ⟨.slice none 0 0, by kernel_rfl, rfl⟩, by decide, by decide⟩
set_option maxRecDepth 100000 in
set_option maxHeartbeats 4000000 in
theorem apartInts_any (A : Option Addr) (N cap B : Nat) (vs : List Value) (ls : List (Nat × List Value)) (w : World) (ha : Sl w A N 1 vs) (hA : ∀ ad, A = some ad → ¬ OwnS vs ad.block) (hr : RowsOf w B 3 1 vs ls)
    (hn : ∀ x, x ∈ ls → x.1 ≤ 4294967296) (hN : N ≤ 4294967296) (hB : B ≤ w.heap.size) :
    Calls Tryd.prog 13 #[.slice A N cap] w fun e w' => e = .returned (.bool true) ∧ Mod (OwnS vs) w w' := by
  have hvl : vs.length = N := by have := ha.len; omega
  have hll : ls.length = N := by rw [← hr.len]; exact hvl
  have HN := Lib.hid hn
  have HVL := Lib.hid hvl
  have HLL := Lib.hid hll
  have HA := Lib.hid hA
  have HR0 := Lib.hid hr
  clear hn hvl hll hA
  go_enter Tryd.func13, Tryd.ntmps13
  go_wp2
  go_loopw [3] (fun k wr => ∃ k' : Nat, k' ≤ N ∧ k = .int .i64 (k' : Int) ∧ RowsOf wr B 3 1 vs (stInts k' ls) ∧ Mod (OwnS vs) w wr) (fun k _ => N - (intOf k).toNat)
  case atStart => exact ⟨0, Nat.zero_le _, rfl, by rw [stInts_zero]; exact hr, Mod.refl _ _⟩
  case round =>
    obtain ⟨k, hk, rfl, hrw, hw⟩ := hrel
    have HRW := Lib.hid hrw
    clear hrw
    by_cases hlt : k < N
    · obtain ⟨b, off, v, rfl, hv, hcv⟩ := (ha.kept hw HA.out).at1 hlt
      obtain ⟨⟨n, old⟩, hx⟩ : ∃ x, ls[k]? = some x := ⟨_, List.getElem?_eq_getElem (by rw [HLL.out]; exact hlt)⟩
      have hn4 : n ≤ 4294967296 := HN.out _ (List.mem_of_getElem? hx)
      have hown := HRW.out.own k v (n, old) hv (by rw [stInts_at hx]; simp)
      obtain ⟨RA, rc, rfl⟩ := own_shape hown
      have hrel0 : RowsOf wr B 3 1 vs ((stInts k ls).set k (n, mkInts k 0 ++ old.drop 0)) := by
        have e : (stInts k ls).set k (n, mkInts k 0 ++ old.drop 0) = stInts k ls := by
          refine List.ext_getElem? fun j => ?_
          rw [List.getElem?_set]
          by_cases e : k = j
          · subst e
            have hl : k < (stInts k ls).length := by simp [stInts]; rw [HLL.out]; exact hlt
            rw [if_pos rfl, if_pos hl, stInts_at hx]; simp [mkInts, cellsL]
          · rw [if_neg e]
        rw [e]; exact HRW.out
      have HV := Lib.hid hv
      have HX := Lib.hid hx
      have hol : old.length = n := by have := hown.1; simpa using this
      have HL0 := Lib.hid hol
      clear hol
      have H0 := Lib.hid hrel0
      clear hv hx hrel0
      obtain ⟨wo, rfl⟩ : ∃ wo : World, wo = wr := ⟨_, rfl⟩
      go_wp2
      go_loopw [4] (fun i wr' => ∃ i' : Nat, i' ≤ n ∧ i = .int .i64 (i' : Int) ∧ RowsOf wr' B 3 1 vs ((stInts k ls).set k (n, mkInts k i' ++ old.drop i')) ∧ Mod (OwnS vs) w wr') (fun i _ => n - (intOf i).toNat)
      case atStart => exact ⟨0, Nat.zero_le _, rfl, H0.out, hw⟩
      case round =>
        obtain ⟨i, hi, rfl, hri, hwi⟩ := hrel
        have hcv2 : wr.cell? ⟨b, off + k, none⟩ = some (.slice RA n rc) := by
          obtain ⟨b', off', v', he, hv', hc'⟩ := (ha.kept hwi HA.out).at1 hlt
          rw [HV.out] at hv'
          injection he with he
          injection he with he1 he2
          injection hv' with hv'
          subst he1 he2 hv'
          exact hc'
        by_cases hlt2 : i < n
        · have hsl : k < (stInts k ls).length := by simp [stInts]; rw [HLL.out]; exact hlt
          have hown2 := hri.own k _ (n, mkInts k i ++ old.drop i) HV.out (by simp [hsl])
          obtain ⟨g, rfl, hgB, hgl⟩ : ∃ g, RA = some ⟨g, 0, none⟩ ∧ B ≤ g ∧ g < wr.heap.size := by
            obtain ⟨g, cap, hv, h1, h2⟩ := hown2.form (by omega)
            injection hv with hv
            exact ⟨g, hv, h1, h2⟩
          have hci : ∃ z, wr.cell? ⟨g, i, none⟩ = some z := by
            have hl : i < (mkInts k i ++ old.drop i).length := by have := hown2.1; simp only at this; omega
            exact ⟨_, by rw [hown2.cellAt i (by omega), List.getElem?_eq_getElem hl]⟩
          obtain ⟨z, hci⟩ := hci
          have hfi := hown2.frozenAt i
          have HRI := Lib.hid hri
          have HO2 := Lib.hid hown2
          clear hri hown2 hsl
          go_wp2
          go_region_with (go_at_call 43; refine (markInts_gen k i _ (by omega) (by omega)).mono ?_; rintro e w2 ⟨rfl, rfl⟩)
          all_goals
            go_wp2
            go_roundw
            case rel =>
              have hsl : k < (stInts k ls).length := by simp [stInts]; rw [HLL.out]; exact hlt
              have h1 := HRI.out.store (i := k) HV.out (by simp [hsl]; rfl) i (.int .i64 (1000003 * ((k : Int) + 1) + (i : Int)))
              rw [List.set_set, mkInts_put hlt2 HL0.out] at h1
              exact ⟨i + 1, by omega, by go_num, h1.new_ (Mod.refl _ _).drew, (hwi.set_ (p := ⟨g, i, none⟩) (fun _ => ⟨k, _, HV.out, rfl⟩) _).drew⟩
            case measure => simp [intOf]; omega
        · obtain rfl : i = n := by omega
          have hri2 : RowsOf wr B 3 1 vs (stInts (k + 1) ls) := by
            rw [← stInts_next HX.out]
            rwa [List.drop_of_length_le (by have := HL0.out; omega), List.append_nil] at hri
          have HRI := Lib.hid hri2
          clear hri hri2
          go_wp2
          go_roundw
          case rel => exact ⟨k + 1, by omega, by go_num, HRI.out, hwi⟩
          case measure => simp [intOf]; omega
    · obtain rfl : k = N := by omega
      have hrN : RowsOf wr B 3 1 vs (stInts k ls) := HRW.out
      have hT0 : TwoRows wr B 3 1 mkInts vs (ls.map (·.1)) [] [] := TwoRows.start hrN (by
        refine List.ext_getElem? fun j => ?_
        rw [List.getElem?_map, List.getElem?_map]
        cases hx : ls[j]? with
        | none => rw [List.getElem?_eq_none (by simp [stInts]; exact List.getElem?_eq_none_iff.1 hx)]
        | some x => rw [stInts_at hx]; by_cases hq : j < k <;> simp [hq]) (fun j x hx => by
        have hj : j < ls.length := by have := (List.getElem?_eq_some_iff.1 hx).1; simpa [stInts] using this
        rw [stInts_at (List.getElem?_eq_getElem hj)] at hx
        injection hx with hx
        subst hx
        rw [if_pos (by have := HLL.out; omega)])
      have HT0 := Lib.hid hT0
      have hNs : ∀ j n, (ls.map (·.1))[j]? = some n → n ≤ 4294967296 := fun j n h => by
        rw [List.getElem?_map] at h
        obtain ⟨x, hx, rfl⟩ := Option.map_eq_some_iff.1 h
        exact HN.out x (List.mem_of_getElem? hx)
      have HNS := Lib.hid hNs
      have hnl : (ls.map (·.1)).length = k := by simp; exact HLL.out
      have HNL := Lib.hid hnl
      clear hrN hT0 hNs hnl
      generalize hns : ls.map (·.1) = ns at *
      clear hns
      obtain ⟨wo, rfl⟩ : ∃ wo : World, wo = wr := ⟨_, rfl⟩
      have hBo : B ≤ wo.heap.size := Nat.le_trans hB hw.size
      go_wp2
      go_loopw [5, 6] (fun gv i wr => ∃ (j : Nat) (us : List Value) (ms : List Nat), j ≤ k ∧ i = .int .i64 (j : Int) ∧ us.length = j ∧ ms = (ns.take j).map (· + 64) ∧ TwoRows wr B 3 1 mkInts vs ns us ms ∧ wr.ownsRow wo.heap.size 24 1 gv j us ∧ Mod (OwnS vs) wo wr ∧ (∀ (q : Nat) (u : Value) (b' : Nat), us[q]? = some u → u.ownBlock = some b' → OwnS vs b' ∨ wo.heap.size ≤ b')) (fun _ i _ => k - (intOf i).toNat)
      case atStart => exact ⟨0, [], [], Nat.zero_le _, rfl, rfl, by simp, HT0.out, own_nil _ _ _ _, Mod.refl _ _, fun q u b' hu => by simp at hu⟩
      case round =>
        obtain ⟨j, us, ms, hj, rfl, hul, hms, hT, hgv, hwm, hub⟩ := hrel
        have HUL := Lib.hid hul
        have HMS := Lib.hid hms
        have HT := Lib.hid hT
        have HGV := Lib.hid hgv
        have HUB := Lib.hid hub
        clear hul hms hT hub
        obtain ⟨GA, gc, rfl⟩ := own_shape hgv
        by_cases hjk : j < k
        · obtain ⟨v, hv⟩ : ∃ v, vs[j]? = some v := ⟨_, List.getElem?_eq_getElem (by have := HVL.out; omega)⟩
          obtain ⟨n, hnj⟩ : ∃ n, ns[j]? = some n := ⟨_, List.getElem?_eq_getElem (by have := HNL.out; omega)⟩
          have hn4 := HNS.out j n hnj
          have hT1 := HT.out.push (v := v) (n := n) (by rw [HUL.out]; exact hv) (by rw [HUL.out]; exact hnj)
          obtain ⟨b, off, v', rfl, hv', hcv⟩ := (ha.kept (Mod.trans hw hwm (fun _ _ h => h)) HA.out).at1 (k := j) (by omega)
          rw [hv] at hv'
          injection hv' with hv'
          subst hv'
          obtain ⟨RA, rc, rfl⟩ := own_shape (HT.out.ownv j v n hv hnj)
          have HV := Lib.hid hv
          have HNJ := Lib.hid hnj
          have HT1 := Lib.hid hT1
          clear hv hnj hT1
          obtain ⟨wp, rfl⟩ : ∃ wp : World, wp = wr := ⟨_, rfl⟩
          go_wp2
          go_loopw [7, 8] (fun t i wr => ∃ (i' : Nat) (t' : Value), i' ≤ 64 ∧ i = .int .i64 (i' : Int) ∧ t' = t ∧ TwoRows wr B 3 1 mkInts vs ns (us ++ [t']) (ms ++ [n + i']) ∧ wr.ownsRow wo.heap.size 24 1 (.slice GA j gc) j us ∧ Mod (OwnS vs) wo wr ∧ (∀ b', t'.ownBlock = some b' → OwnS vs b' ∨ wo.heap.size ≤ b')) (fun _ i _ => 64 - (intOf i).toNat)
          case atStart => exact ⟨0, _, by omega, rfl, rfl, HT1.out, hgv, hwm, fun b' hb => .inl ⟨j, _, HV.out, hb⟩⟩
          case round =>
            obtain ⟨i, t, hi, rfl, rfl, hTi, hgi, hwi, hti⟩ := hrel
            have hown := hTi.ownu us.length t (n + i) (by simp) (by have := HT.out.lenu; rw [this]; simp)
            have HTI := Lib.hid hTi
            have HTT := Lib.hid hti
            clear hTi hti
            by_cases hi64 : i < 64
            · have hcv2 : wr.cell? ⟨b, off + j, none⟩ = some (.slice RA n rc) := by
                obtain ⟨b', off', v', he, hv', hc'⟩ := (ha.kept (Mod.trans hw hwi (fun _ _ h => h)) HA.out).at1 (k := j) (by omega)
                rw [HV.out] at hv'
                injection he with he
                injection he with he1 he2
                injection hv' with hv'
                subst he1 he2 hv'
                exact hc'
              obtain ⟨TA, tc, rfl⟩ := own_shape hown
              have hmk := fun W => markInts_gen j (n + i) W (by omega) (by omega)
              have hni : ((n + i : Nat) : Int) = (n : Int) + (i : Int) := by omega
              simp only [hni] at hmk
              have HMK := Lib.hid hmk
              clear hmk hni
              go_wp2_with (first
                | (go_at_call 43; refine (HMK.out _).mono ?_; rintro e w2 ⟨rfl, rfl⟩)
                | (at_builtin; go_loud (refine wpList_appm Tryd.sltInts rfl (.tmp 50) (.tmp 60) rfl B _ (n + i) _ rfl (hown.alloc _) ⟨wr.heap.size, 0, none⟩ 1 1 [.int .i64 (1000003 * ((j : Int) + 1) + ((n : Int) + (i : Int)))] (by omega) rfl rfl (cells_new _ _ _) ?c1 ?c2 ?c3 ?_)))
              case c1 => simp [Value.oneCell']
              case c2 => omega
              case c3 => simp; have := hwi.size; omega
              intro t' w3 hown3 hmv
              have hal : Mod (OwnS vs) wo (wr.alloc (.cells #[.int .i64 (1000003 * ((j : Int) + 1) + ((n : Int) + (i : Int)))] 3)) := hwi.alloc _
              have hm3 : Mod (OwnS vs) wo w3 := by
                rcases hmv with ⟨g, cap, h1, _, hg⟩ | ⟨_, hnew⟩
                · refine Mod.trans hal (Mod.of_grown (S := fun b => b = g) hg (fun k h => by injection h with h; exact h.symm)) (fun x hx h => ?_)
                  subst h
                  rcases HTT.out x (by rw [h1]; rfl) with h2 | h2
                  · exact h2
                  · omega
                · exact Mod.trans hal hnew (fun _ _ h => h.elim)
              have hT3 : TwoRows w3 B 3 1 mkInts vs ns (us ++ [t']) (ms ++ [n + i + 1]) := by
                have h0 := HTI.out.new_ ((Mod.refl _ wr).alloc (.cells #[.int .i64 (1000003 * ((j : Int) + 1) + ((n : Int) + (i : Int)))] 3))
                have e : (((n + i : Nat) : Int)) = (n : Int) + (i : Int) := by omega
                exact h0.step (n := n) (by decide) (by rw [HUL.out]; exact HV.out) (by rw [HUL.out]; exact HNJ.out) (by omega) (fun a b h => mkInts_take _ a b h) (by rw [mkInts_succ, HUL.out, e]) hown3 hmv
              have hg3 : w3.ownsRow wo.heap.size 24 1 (.slice GA j gc) j us := (own_new hgi ((Mod.refl _ wr).alloc _)).kept hmv.grown (own_type_ne hgi hown (by decide))
              have ht3 : ∀ b', t'.ownBlock = some b' → OwnS vs b' ∨ wo.heap.size ≤ b' := fun b' hb => by
                rcases hmv.block with h | h
                · rw [h] at hb; exact HTT.out b' hb
                · rw [h] at hb; injection hb with hb; simp at hb; have := hwi.size; omega
              have HT3 := Lib.hid hT3
              have HG3 := Lib.hid hg3
              have HTT3 := Lib.hid ht3
              have HM3 := Lib.hid hm3
              clear hT3 hg3 ht3 hm3 hal hmv hown3
              go_wp2
              go_roundw
              case rel => exact ⟨i + 1, t', by omega, by go_num, rfl, by rw [← Nat.add_assoc]; exact HT3.out, HG3.out, HM3.out, HTT3.out⟩
              case measure => simp [intOf]; omega
            · obtain rfl : i = 64 := by omega
              obtain ⟨TA, tc, rfl⟩ := own_shape hown
              go_wp2_with (at_builtin; go_must (refine wpList_app Tryd.sltOutInts rfl (.tmp 62) (.tmp 64) rfl wo.heap.size _ j _ rfl (hgi.alloc _) ⟨wr.heap.size, 0, none⟩ 1 1 [.slice TA (n + 64) tc] rfl rfl (cells_new _ _ _) ?c1 ?c2 ?c3 ?_))
              case c1 => simp [Value.oneCell']
              case c2 => omega
              case c3 => simp; have := hwi.size; omega
              intro g' w4 hg4 hgr4 _
              have hT4 : TwoRows w4 B 3 1 mkInts vs ns (us ++ [.slice TA (n + 64) tc]) (ms ++ [n + 64]) := (HTI.out.new_ ((Mod.refl _ wr).alloc _)).grown hgr4 (fun q x hx => by
                have h0 := HTI.out.new_ ((Mod.refl _ wr).alloc (.cells #[.slice TA (n + 64) tc] 24))
                rcases hx with hx | hx
                · have hj2 : q < ns.length := by rw [← h0.lenv]; exact (List.getElem?_eq_some_iff.1 hx).1
                  exact own_type_ne (h0.ownv q x _ hx (List.getElem?_eq_getElem hj2)) (hgi.alloc _) (by decide)
                · have hj2 : q < (ms ++ [n + 64]).length := by rw [← h0.lenu]; exact (List.getElem?_eq_some_iff.1 hx).1
                  exact own_type_ne (h0.ownu q x _ hx (List.getElem?_eq_getElem hj2)) (hgi.alloc _) (by decide))
              have hm4 : Mod (OwnS vs) wo w4 := Mod.trans (hwi.alloc _) (Mod.of_grown (S := fun b => (Value.slice GA j gc).ownBlock = some b) hgr4 (fun _ h => h)) (fun x hx h => by have := (hgi.lt x h).1; omega)
              have HT4 := Lib.hid hT4
              have HG4 := Lib.hid hg4
              have HM4 := Lib.hid hm4
              clear hT4 hg4 hm4 hgr4
              go_wp2
              go_roundw
              case rel => exact ⟨j + 1, us ++ [.slice TA (n + 64) tc], ms ++ [n + 64], by omega, by go_num, by simp; exact HUL.out, by rw [List.take_add_one, HNJ.out, List.map_append, ← HMS.out]; rfl, HT4.out, HG4.out, HM4.out, fun q u b' hu hb => by
                by_cases hq : q < us.length
                · rw [List.getElem?_append_left hq] at hu; exact HUB.out q u b' hu hb
                · rw [List.getElem?_append_right (by omega)] at hu
                  have hq0 : q - us.length = 0 := by
                    have := (List.getElem?_eq_some_iff.1 hu).1
                    simp at this; omega
                  rw [hq0] at hu
                  simp at hu
                  subst hu
                  exact HTT.out b' hb⟩
              case measure => simp [intOf]; omega
        · obtain rfl : j = k := by omega
          obtain ⟨wz, rfl⟩ : ∃ wz : World, wz = wr := ⟨_, rfl⟩
          have hgs := own_sl hgv
          go_wp2
          go_loopw [9] (fun q wr => ∃ q' : Nat, q' ≤ j ∧ q = .int .i64 (q' : Int) ∧ New wz wr) (fun q _ => j - (intOf q).toNat)
          case atStart => exact ⟨0, Nat.zero_le _, rfl, Mod.refl _ _⟩
          case round =>
            obtain ⟨q, hq, rfl, hwq⟩ := hrel
            by_cases hqj : q < j
            · obtain ⟨v, hv⟩ : ∃ v, vs[q]? = some v := ⟨_, List.getElem?_eq_getElem (by have := HVL.out; omega)⟩
              obtain ⟨n, hnq⟩ : ∃ n, ns[q]? = some n := ⟨_, List.getElem?_eq_getElem (by have := HNL.out; omega)⟩
              obtain ⟨u, hu⟩ : ∃ u, us[q]? = some u := ⟨_, List.getElem?_eq_getElem (by have := HUL.out; omega)⟩
              have hmq : ms[q]? = some (n + 64) := by rw [HMS.out, List.getElem?_map, List.getElem?_take, if_pos hqj, hnq]; rfl
              have hn4 := HNS.out q n hnq
              have hrv := HT.out.ownv q v n hv hnq
              have hru := HT.out.ownu q u (n + 64) hu hmq
              obtain ⟨RA, rc, rfl⟩ := own_shape hrv
              obtain ⟨UA, uc, rfl⟩ := own_shape hru
              obtain ⟨ug, rfl, hugB, hugl⟩ : ∃ g, UA = some ⟨g, 0, none⟩ ∧ B ≤ g ∧ g < wz.heap.size := by
                obtain ⟨g, cap, hv, h1, h2⟩ := hru.form (by omega)
                injection hv with hv
                exact ⟨g, hv, h1, h2⟩
              have hout : ∀ W, New wz W → ∃ b off, A = some ⟨b, off, none⟩ ∧ W.cell? ⟨b, off + q, none⟩ = some (.slice RA n rc) := fun W hW => by
                obtain ⟨b', off', v', he, hv', hc'⟩ := (ha.kept (Mod.trans (Mod.trans hw hwm (fun _ _ h => h)) hW (fun _ _ h => h.elim)) HA.out).at1 (k := q) (by omega)
                rw [hv] at hv'
                injection hv' with hv'
                subst hv'
                exact ⟨b', off', he, hc'⟩
              have hgo : ∀ W, New wz W → ∃ b off, GA = some ⟨b, off, none⟩ ∧ W.cell? ⟨b, off + q, none⟩ = some (.slice (some ⟨ug, 0, none⟩) (n + 64) uc) := fun W hW => by
                obtain ⟨b', off', v', he, hv', hc'⟩ := (hgs.new_ hW).at1 (k := q) hqj
                rw [hu] at hv'
                injection hv' with hv'
                subst hv'
                exact ⟨b', off', he, hc'⟩
              obtain ⟨ob, oo, rfl, hoc⟩ := hout wr hwq
              obtain ⟨gb, go, rfl, hgc⟩ := hgo wr hwq
              have HOUT := Lib.hid hout
              have HGO := Lib.hid hgo
              clear hv hnq hu hmq hout hgo hgs
              obtain ⟨wy, rfl⟩ : ∃ wy : World, wy = wr := ⟨_, rfl⟩
              go_wp2
              go_loopw [10] (fun i wr => ∃ i' : Nat, i' ≤ n + 64 ∧ i = .int .i64 (i' : Int) ∧ New wz wr) (fun i _ => n + 64 - (intOf i).toNat)
              case atStart => exact ⟨0, by omega, rfl, hwq⟩
              case round =>
                obtain ⟨i, hi, rfl, hwi⟩ := hrel
                obtain ⟨b1, o1, he1, hoc2⟩ := HOUT.out wr hwi
                obtain ⟨b2, o2, he2, hgc2⟩ := HGO.out wr hwi
                injection he1 with he1
                injection he1 with he3 he4
                injection he2 with he2
                injection he2 with he5 he6
                subst he3 he4 he5 he6
                by_cases hin : i < n + 64
                · have hmk := fun W => markInts_gen q i W (by omega) (by omega)
                  have cu : wr.cell? ⟨ug, i, none⟩ = some (.int .i64 (1000003 * ((q : Int) + 1) + (i : Int))) := by
                    rw [(own_new hru hwi).cellAt i (by omega)]; exact mkInts_at q (n + 64) i hin
                  have hd : ((1000003 * ((q : Int) + 1) + (i : Int)) != (1000003 * ((q : Int) + 1) + (i : Int))) = false := by simp
                  have HMK := Lib.hid hmk
                  clear hmk
                  by_cases hnn : i < n
                  · obtain ⟨rg, rfl, hrgB, hrgl⟩ : ∃ g, RA = some ⟨g, 0, none⟩ ∧ B ≤ g ∧ g < wz.heap.size := by
                      obtain ⟨g, cap, hv, h1, h2⟩ := hrv.form (by omega)
                      injection hv with hv
                      exact ⟨g, hv, h1, h2⟩
                    have cr : wr.cell? ⟨rg, i, none⟩ = some (.int .i64 (1000003 * ((q : Int) + 1) + (i : Int))) := by
                      rw [(own_new hrv hwi).cellAt i (by omega)]; exact mkInts_at q n i hnn
                    go_wp2_with (go_at_call 43; refine (HMK.out _).mono ?_; rintro e w2 ⟨rfl, rfl⟩)
                    go_roundw
                    case rel => exact ⟨i + 1, by omega, by go_num, hwi⟩
                    case measure => simp [intOf]; omega
                  · go_wp2_with (go_at_call 43; refine (HMK.out _).mono ?_; rintro e w2 ⟨rfl, rfl⟩)
                    go_roundw
                    case rel => exact ⟨i + 1, by omega, by go_num, hwi⟩
                    case measure => simp [intOf]; omega
                · go_wp2
                  go_roundw
                  case rel => exact ⟨q + 1, by omega, by go_num, hwi⟩
                  case measure => simp [intOf]; omega
            · go_wp2
              go_ret
              exact ⟨rfl, Mod.trans (Mod.trans hw hwm (fun _ _ h => h)) hwq (fun _ _ h => h.elim)⟩
end Go.Proofs.YtkkaejbdekdljaaDoor
/- Walks: the law LinksGroups. -/
set_option linter.unusedVariables false
set_option linter.unusedSimpArgs false
namespace Go.Proofs.YtkkaejbdekdljaaDoor
open Go.RowKit

theorem twos_eq (l : List (Int × Int)) : twos l = cellsL encTwos l := rfl
theorem nats_eq (r : List Nat) : nats r = nums (r.map fun x : Nat => (x : Int)) := by simp [nats, nums]
theorem RowsOf.two {w : World} {B C sz : Nat} {e : TypeId} {a b : Value} {n m : Nat} {xs ys : List Value} (ha : w.ownsRow B e sz a n xs) (hb : w.ownsRow C e sz b m ys) (hC : B ≤ C) (hne : ∀ x, a.ownBlock = some x → b.ownBlock ≠ some x) :
    RowsOf w B e sz [a, b] [(n, xs), (m, ys)] := by
  refine ⟨rfl, fun i v x hv hx => ?_, fun i j v u x hij hv hu hx => ?_⟩
  · match i with
    | 0 => simp at hv hx; subst hv hx; exact ha
    | 1 => simp at hv hx; subst hv hx; exact own_mono hb hC
    | i + 2 => simp at hv
  · match i, j with
    | 0, 0 => exact absurd rfl hij
    | 0, 1 => simp at hv hu; subst hv hu; exact hne x hx
    | 1, 0 => simp at hv hu; subst hv hu; exact fun h => hne x h hx
    | 1, 1 => exact absurd rfl hij
    | i + 2, _ => simp at hv
    | 0, j + 2 => simp at hu
    | 1, j + 2 => simp at hu

set_option maxRecDepth 100000 in
set_option maxHeartbeats 4000000 in
theorem linksGroupsLaw_any (n : Int) (A : Option Addr) (m c : Nat) (l : List (Int × Int)) (w : World) (ha : Sl w A m 2 (twos l)) (hg : ErrVar w) :
    Calls Tryd.prog 3 #[.int .i64 n, .slice A m c] w fun e w' => e = .returned (.bool true) ∧ New w w' := by
  have hm := ha.le
  by_cases hbig : 300 < m
  · go_enter Tryd.func3, Tryd.ntmps3
    go_wp2_with (go_at_call 7; refine (works_any _).mono ?_; rintro e w1 ⟨rfl, hw1⟩)
    go_ret
    exact ⟨rfl, hw1⟩
  · go_enter Tryd.func3, Tryd.ntmps3
    go_wp2_with fail
    refine (refGroups_any n A m c l _ ha).mono ?_
    rintro e w1 ⟨v, r, rfl, hv, hr, hw1⟩
    obtain ⟨VA, vc, rfl⟩ := own_shape hv
    have hsv := own_sl hv
    rw [nats_eq] at hsv
    have HR := Lib.hid hr
    clear hr hv
    generalize hno : (grpErr n l).1 = no
    generalize hat : (grpErr n l).2 = at'
    have HNO := Lib.hid hno
    have HAT := Lib.hid hat
    clear hno hat
    go_wp2_with fail
    refine (lentTwos_any A m c l _ (ha.new_ hw1) (by omega)).mono ?_
    rintro e w2 ⟨g, cap, rfl, hL, hw2⟩
    have n2 := New.trans hw1 hw2
    have hcap := hL.cap
    have hsl : Sl w2 (some ⟨g, 0, none⟩) m 2 (twos l) := by
      have h := hL
      rw [cellsL_append] at h
      exact h.sl (by rw [cellsL_length encTwos_len, ha.length encTwos_len (by decide)])
    have HL := Lib.hid hL
    clear hL hcap
    go_wp2_with fail
    refine (linksGroups_any n _ m cap l _ hsl).mono ?_
    rintro e w3 ⟨va, ea, ra, rfl, hea, hva, hra, hw3⟩
    have hr1 := hra.unique HR.out
    subst hr1
    clear hra
    have n3 := New.trans n2 hw3
    go_wp2_with fail
    refine (linksGroups_any n _ m cap l _ (hsl.new_ hw3)).mono ?_
    rintro e w4 ⟨vb, eb, rb, rfl, heb, hvb, hrb, hw4⟩
    have hr1 := hrb.unique HR.out
    subst hr1
    clear hrb
    rw [HNO.out, HAT.out] at hea heb
    have n4 := New.trans n3 hw4
    obtain ⟨AA, ac, rfl⟩ := own_shape hva
    obtain ⟨BA, bc, rfl⟩ := own_shape hvb
    have hrows : RowsOf w4 w2.heap.size 3 1 [.slice AA rb.length ac, .slice BA rb.length bc] [(rb.length, nats rb), (rb.length, nats rb)] := RowsOf.two (own_new hva hw4) hvb hw3.size (fun x hx hx2 => by
      have h1 := (hva.lt x hx).2
      have h2 := (hvb.lt x hx2).1
      omega)
    have hsa : Sl w4 AA rb.length 1 (nums (rb.map fun x : Nat => (x : Int))) := by have := own_sl (own_new hva hw4); rwa [nats_eq] at this
    have hsb : Sl w4 BA rb.length 1 (nums (rb.map fun x : Nat => (x : Int))) := by have := own_sl hvb; rwa [nats_eq] at this
    have HLEN := Lib.hid (show rb.length ≤ 4294967296 by
      have := HR.out
      unfold GrpOut at this
      split at this
      · rename_i h0
        have h1 : n.toNat ≤ 4096 := by
          have h2 : ¬ n < 0 ∧ ¬ 4096 < n := by
            refine ⟨fun h => ?_, fun h => ?_⟩
            · simp [grpErr, h] at h0
            · have h3 : ¬ n < 0 := by omega
              simp [grpErr, h, h3] at h0
          omega
        omega
      · rw [this]; simp)
    have HROWS := Lib.hid hrows
    clear hva hvb hrows
    have hsv4 := hsv.new_ (New.trans (New.trans hw2 hw3) hw4)
    clear hsv
    go_wp2_with fail
    refine (told_any hea _ (hg.new_ n4)).mono ?_
    rintro e w5 ⟨rfl, hw5⟩
    go_wp2_with fail
    refine (told_any heb _ ((hg.new_ n4).new_ hw5)).mono ?_
    rintro e w6 ⟨rfl, hw6⟩
    have n46 := New.trans hw5 hw6
    go_wp2_with fail
    refine (sameInts_any AA VA _ _ ac vc _ _ _ (hsa.new_ n46) (hsv4.new_ n46)).mono ?_
    rintro e w7 ⟨rfl, hw7⟩
    have n47 := New.trans n46 hw7
    go_wp2_with fail
    refine (sameInts_any BA VA _ _ bc vc _ _ _ (hsb.new_ n47) (hsv4.new_ n47)).mono ?_
    rintro e w8 ⟨rfl, hw8⟩
    have n48 := New.trans n47 hw8
    go_wp2_with fail
    refine (works_any _).mono ?_
    rintro e w9 ⟨rfl, hw9⟩
    have n49 := New.trans n48 hw9
    go_wp2_with fail
    refine (apartInts_any (some ⟨w9.heap.size, 0, none⟩) 2 2 w2.heap.size [.slice AA rb.length ac, .slice BA rb.length bc] _ _ (Sl.lit w9 24 _ 2 1 rfl (by omega)) (fun ad had hown => by
        injection had with had
        subst had
        have := (HROWS.out.owns hown).2.1
        have := n49.size
        simp only at *
        omega) (HROWS.out.new_ (New.trans n49 ((Mod.refl _ _).alloc _))) (fun x hx => by
        simp at hx
        rw [hx]; exact HLEN.out) (by omega) (by simp; have := n49.size; have := (New.trans hw3 hw4).size; omega)).mono ?_
    rintro e w10 ⟨rfl, hw10⟩
    have hLk : Lent w10 w1.heap.size 67 2 g m cap (cellsL encTwos (l ++ marksTwos 16)) := by
      have h1 := ((HL.out.new_ (New.trans hw3 hw4)).new_ n49).new_ ((Mod.refl (fun _ => False) w9).alloc (.cells #[.slice AA rb.length ac, .slice BA rb.length bc] 24))
      exact own_mod h1 hw10 (fun x hx hown => by
        have h2 := HROWS.out.owns hown
        have h3 := (HL.out.lt x hx).2
        omega)
    have n10 : New w w10 := Mod.trans (New.trans (New.trans n4 n49) ((Mod.refl _ _).alloc _)) hw10 (fun i hi hown => by
      have h2 := (HROWS.out.owns hown).1
      have := n2.size
      omega)
    go_wp2_with fail
    refine (keptTwos_any g A m cap c _ l _ hLk (ha.new_ n10) (by omega)).mono ?_
    rintro e w11 ⟨rfl, hw11⟩
    go_wp2
    go_ret
    exact ⟨rfl, New.trans n10 hw11⟩
end Go.Proofs.YtkkaejbdekdljaaDoor
/-
  custodylaw23.LinksGroups returns true for every number and every list of pairs, and leaves the list as it was: links.Groups answers what the document's Groups answers (the number of the error with its place; else the least label of each thing's group), twice, in memory of its own.
  Conditions: the row's own (the listed variable errors.errorType starts as the program's text lays it: the card ties it). No other.
-/
set_option linter.unusedVariables false
set_option linter.unusedSimpArgs false
namespace Go.Proofs.YtkkaejbdekdljaaDoor
open Go.ChangeShapes Go.WideShapes Go.RowKit

set_option maxRecDepth 100000 in
theorem hone_two {H : Type} {enc : TypeId × Value → H} {W : World} : ∀ (fuel : Nat) (cs : List Value) (x : DataW H × List MemPlace), cs.length = 2 → DataW.trod enc Tryd.prog W 0 (fun _ => true) true fuel 67 cs = some x → ∃ q : Int × Int, cs = encTwos q := fun fuel cs x hl h => by
  obtain ⟨xs, m, _, _, _, hxl, hi⟩ := DataW.trod_array Tryd.underlying67 h
  match cs, hl with
  | [c0, c1], _ =>
    have h0 := hi 0 (by omega)
    have h1 := hi 1 (by omega)
    rw [show Tryd.prog.cellsOf 3 = 1 from by kernel_rfl] at h0 h1
    rw [List.getElem?_eq_getElem (by omega)] at h0 h1
    obtain ⟨a, ha, _, _⟩ := DataW.trod_int Tryd.underlying3 h0
    obtain ⟨b, hb, _, _⟩ := DataW.trod_int Tryd.underlying3 h1
    simp at ha hb
    subst ha hb
    exact ⟨(a, b), rfl⟩

set_option maxRecDepth 100000 in
theorem groups_lifted (os : Os) (started : os.Started) (H : Type) (enc : TypeId × Value → H) :
    ReturnsInHanded {} Tryd.checked os 3 .any (fun w args => (Rows.linksGroupsSpec.pre enc Tryd.prog Tryd.f3 [] false w args ∧ laidMetH Tryd.prog [("errors.errorType", Rows.laid_errors_errorType)] w) ∧ sizedMet enc Tryd.prog Tryd.f3 (OpenSpec.ofChange Rows.linksGroupsSpec) false w args)
      (Rows.linksGroupsSpec.post enc Tryd.prog Tryd.f3 false true false false) := by
  refine returnsInHanded_of_change_and (C := Tryd.checked) (X := fun w _ => laidMetH Tryd.prog [("errors.errorType", Rows.laid_errors_errorType)] w) (fun _ _ _ hh h => h.of_heap hh) Tryd.own started (by kernel_rfl) Tryd.func3
    (ChangeSpec.witness_at (enc := enc) (C := Tryd.checked) (os := os) (X := fun w _ => laidMetH Tryd.prog [("errors.errorType", Rows.laid_errors_errorType)] w) false (laidWorld os) #[.int .i64 0, .slice none 0 0] 8 rfl (by kernel_rfl) (by kernel_rfl) (by kernel_rfl) (by kernel_rfl) (by kernel_rfl) (laidWorld_met os _)) ?_
  intro W base args ds gs before hval0 hW _ _ hL _
  have hval : ∀ (j : Nat) t v, Tryd.f3.params[j]? = some t → args[j]? = some v → Value.okWide Tryd.prog W .any base t v := hval0
  have hW' := hW
  obtain ⟨p, q, hA0, hV0, rfl, hfz, hnd⟩ := hW
  have hA : DataW.TrodAll enc Tryd.prog W 0 (fun _ => true) true Tryd.f3.params.toList args.toList ds p := hA0
  have hV : DataW.TrodVars enc Tryd.prog W (fun _ => true) [] gs q := hV0
  rw [Tryd.params3] at hA hval
  obtain ⟨v0, v1, d0, d1, p0, p1, rfl, rfl, rfl, h0, h1⟩ := trodAll_two hA
  obtain ⟨n, rfl, rfl, rfl, hwn⟩ := open_int Tryd.underlying3 (hval 0 3 v0 rfl rfl) h0
  obtain ⟨a0, len, cap, rfl⟩ := okWide_slice Tryd.underlying22 (hval 1 22 v1 rfl rfl)
  have hg := handle_of_laid hL
  obtain ⟨rfl, rfl⟩ : gs = [] ∧ q = [] := by
    cases gs with
    | nil => exact ⟨rfl, hV⟩
    | cons g r => exact absurd hV (by intro h; cases h)
  obtain ⟨l, hsl⟩ := open_sl encTwos_len (by decide) Tryd.underlying22 (by kernel_rfl) hone_two h1
  have e1 : Rows.linksGroupsSpec.fn H ([.lit (.int .i64 n), d1] ++ []) = { results := [.lit (.bool true)], args := [.lit (.int .i64 n), d1] } := by simp [Rows.linksGroupsSpec]
  refine (linksGroupsLaw_any n a0 len cap l W hsl hg).mono fun e W' ⟨he, hw⟩ => ?_
  have hb := ends_row hw
  have hlt : ∀ x ∈ p1, x.block < W.heap.size := fun x hx => hW'.lt x (by simp [hx])
  subst he
  refine ⟨_, rfl, _, _, _, [], [] ++ p1, [], hW', ?_, ?_, ?_, hb.frame _, fun h => by cases h⟩
  · rw [e1]; exact trodAll_mk1 (shut_bool Tryd.underlying4 true)
  · rw [e1]; exact trodAll_mk2 (shut_int Tryd.underlying3 hwn) (Below.trod Tryd.laidOut (by kernel_rfl) (by rw [Tryd.ntypes]; decide) h1 hb hlt)
  · rw [e1]; rfl

theorem groups_row : Rows.LinksGroupsSaid :=
  OpenClaim.holds_of_wide 3 Tryd.f3 rfl rfl rfl rfl rfl rfl rfl ⟨rfl, rfl, rfl, rfl, rfl⟩ rfl rfl rfl rfl rfl (by kernel_rfl) Tryd.func3 (by kernel_rfl)
    (of_decide_eq_true (by kernel_rfl)) (by unfold Func.isWrapper; rw [if_neg (of_decide_eq_false (by kernel_rfl))]; exact ⟨rfl, rfl⟩)
    (fun os started H enc _ => groups_lifted os started H enc)

theorem linksGroups_holds : Rows.LinksGroupsCardSaid :=
  Claim7.holds_tied_plain_at .later [] [.handle] true Rows.linksGroupsCard.stood.harness true
    groups_row (fun _ h => by cases h) (by kernel_rfl) (fun _ h => by cases h) linksGroups_row_tie rfl ⟨rfl, rfl⟩ (by kernel_rfl) rfl
    (fun f fn hf hfn => by
      obtain rfl : f = 3 := Option.some.inj ((show Tryd.prog.funcNamed "custody/custodylaw23.LinksGroups" = some 3 by kernel_rfl).symm.trans hf) |>.symm
      obtain rfl : fn = Tryd.f3 := (Option.some.inj (Tryd.func3.symm.trans hfn)).symm
      refine ⟨by kernel_rfl, fun j t ht => ?_⟩
      rw [Tryd.params3] at ht
      match j, ht with
      | 0, ht => simp at ht; subst ht; exact (show Tryd.prog.wantsStandIn 3 = false by kernel_rfl)
      | 1, ht => simp at ht; subst ht; exact (show Tryd.prog.wantsStandIn 22 = false by kernel_rfl)
      | j + 2, ht => simp at ht)
    (by kernel_rfl)
#print axioms linksGroups_holds
end Go.Proofs.YtkkaejbdekdljaaDoor
/- Words: a slice of slices that reads as a list of lists. -/
set_option linter.unusedVariables false
set_option linter.unusedSimpArgs false
namespace Go.Proofs.YtkkaejbdekdljaaDoor
open Go.RowKit

/-- A slice of n slices that reads as these lists. -/
structure Nest {α : Type} (enc : α → List Value) (sz : Nat) (w : World) (A : Option Addr) (n : Nat) (vs : List Value) (ls : List (List α)) : Prop where
  outer : Sl w A n 1 vs
  len : ls.length = n
  row : ∀ (i : Nat) (v : Value) (l : List α), vs[i]? = some v → ls[i]? = some l → ∃ R c, v = .slice R l.length c ∧ Sl w R l.length sz (cellsL enc l)

section
variable {α : Type} {enc : α → List Value} {sz : Nat} {w w' : World} {A : Option Addr} {n : Nat} {vs : List Value} {ls : List (List α)}
theorem Nest.new_ (h : Nest enc sz w A n vs ls) (hm : New w w') : Nest enc sz w' A n vs ls :=
  ⟨h.outer.new_ hm, h.len, fun i v l hv hl => by
    obtain ⟨R, c, e, hs⟩ := h.row i v l hv hl
    exact ⟨R, c, e, hs.new_ hm⟩⟩
theorem Nest.at_ (h : Nest enc sz w A n vs ls) {k : Nat} (hk : k < n) : ∃ b off R c l, A = some ⟨b, off, none⟩ ∧ ls[k]? = some l ∧ w.cell? ⟨b, off + k, none⟩ = some (.slice R l.length c) ∧ Sl w R l.length sz (cellsL enc l) ∧ vs[k]? = some (.slice R l.length c) := by
  obtain ⟨b, off, u, e, hu, hc⟩ := h.outer.at1 hk
  have hl : ls[k]? = some (ls[k]'(by rw [h.len]; exact hk)) := List.getElem?_eq_getElem _
  obtain ⟨R, c, rfl, hs⟩ := h.row k u _ hu hl
  exact ⟨b, off, R, c, _, e, hl, hc, hs, hu⟩
theorem own_at {B : Nat} {e : TypeId} {g n cap : Nat} {l : List α} {p : α} {k : Nat} (hs : ∀ p, (enc p).length = sz) (h : w.ownsRow B e sz (.slice (some ⟨g, 0, none⟩) n cap) n (cellsL enc l)) (hp : l[k]? = some p) :
    ∀ j v, (enc p)[j]? = some v → w.cell? ⟨g, k * sz + j, none⟩ = some v := fun j v hv => by
  have hj : j < sz := by have := (List.getElem?_eq_some_iff.1 hv).1; rwa [hs] at this
  have hc : (cellsL enc l)[k * sz + j]? = some v := by rw [cellsL_at hs l k j p hp hj]; exact hv
  rcases h.2 with ⟨h1, _⟩ | ⟨g', cap', cur, h1, _⟩
  · cases h1
  · injection h1 with h1
    injection h1 with h1
    injection h1 with h1
    subst h1
    have := h.cells (g := g) rfl _ v hc
    rwa [add_plain, Nat.zero_add] at this
theorem cellsL_set (hs : ∀ p, (enc p).length = sz) (l : List α) (k j : Nat) (p q : α) (h : l[k]? = some p) (hj : j < sz) (v : Value) (hq : (enc p).set j v = enc q) : (cellsL enc l).set (k * sz + j) v = cellsL enc (l.set k q) := by
  induction l generalizing k with
  | nil => simp at h
  | cons r l ih =>
    cases k with
    | zero =>
      simp at h; subst h
      simp only [cellsL, List.flatMap_cons, Nat.zero_mul, Nat.zero_add, List.set_cons_zero]
      rw [List.set_append_left _ _ (by rw [hs]; exact hj), hq]
    | succ k =>
      have := ih k (by simpa using h)
      simp only [cellsL, List.flatMap_cons, List.set_cons_succ] at this ⊢
      rw [List.set_append_right _ _ (by rw [hs, Nat.add_mul]; omega), hs, show (k + 1) * sz + j - sz = k * sz + j from by rw [Nat.add_mul]; omega, this]
end
end Go.Proofs.YtkkaejbdekdljaaDoor
