/- Walks: the document's store (custodyref11): Less, Keys. -/
import Derived.Test.YtfifalopbfopnaaGreatDoorUh
import Derived.IntWalk
set_option linter.unusedVariables false
set_option linter.unusedSimpArgs false
namespace Go.Proofs.YtfifalopbfopnaaGreatDoor
open Go.RowKit

theorem own_frozen {w : World} {B n sz g cap o : Nat} {e : TypeId} {xs : List Value} (h : w.ownsRow B e sz (.slice (some ⟨g, 0, none⟩) n cap) n xs) : w.frozen? ⟨g, o, none⟩ = false := by
  rcases h.2 with ⟨h1, _⟩ | ⟨g', cap', cur, h1, _, hh, _⟩
  · cases h1
  · injection h1 with h1
    injection h1 with h1
    injection h1 with h1
    subst h1
    simp [World.frozen?, hh]
theorem refLess_any (x y : Key2) (w : World) :
    Calls Tryz.prog 47 #[.agg #[.int .i64 x.1, .int .i64 x.2], .agg #[.int .i64 y.1, .int .i64 y.2]] w fun e w' => e = .returned (.bool (keyLess x y)) ∧ New w w' := by
  obtain ⟨x1, x2⟩ := x
  obtain ⟨y1, y2⟩ := y
  unfold keyLess
  simp only
  by_cases h1 : x1 < y1
  · have d1 : decide (x1 < y1) = true := by simpa using h1
    rw [d1]
    go_enter Tryz.func47, Tryz.ntmps47
    go_wp2
    go_ret
    exact ⟨rfl, ((Mod.refl _ _).alloc _).alloc _⟩
  · have d1 : decide (x1 < y1) = false := by simpa using h1
    by_cases h2 : x1 = y1
    · subst h2
      have d2 : (x1 == x1) = true := by simp
      by_cases h3 : x2 < y2
      · have d3 : decide (x2 < y2) = true := by simpa using h3
        simp only [d1, d3, decide_true, Bool.and_self, Bool.or_true]
        go_enter Tryz.func47, Tryz.ntmps47
        go_wp2
        go_ret
        exact ⟨rfl, ((Mod.refl _ _).alloc _).alloc _⟩
      · have d3 : decide (x2 < y2) = false := by simpa using h3
        simp only [d1, d3, decide_true, Bool.and_false, Bool.or_self]
        go_enter Tryz.func47, Tryz.ntmps47
        go_wp2
        go_ret
        exact ⟨rfl, ((Mod.refl _ _).alloc _).alloc _⟩
    · have d2 : (x1 == y1) = false := by simpa using h2
      have d4 : decide (x1 = y1) = false := by simpa using h2
      simp only [d1, d4, Bool.false_and, Bool.or_self]
      go_enter Tryz.func47, Tryz.ntmps47
      go_wp2
      go_ret
      exact ⟨rfl, ((Mod.refl _ _).alloc _).alloc _⟩

theorem insK_split {x : Key2} : ∀ {a b : List Key2}, (∀ z ∈ a, keyLess x z = false) → (∀ z ∈ b, keyLess x z = true) → insK x (a ++ b) = a ++ x :: b
  | [], [], _, _ => rfl
  | [], z :: b, _, hb => by
    have := hb z (by simp)
    simp only [List.nil_append]
    unfold insK
    rw [if_pos this]
  | z :: a, b, ha, hb => by
    have h1 := ha z (by simp)
    simp only [List.cons_append]
    unfold insK
    rw [if_neg (by rw [h1]; simp), insK_split (fun y hy => ha y (by simp [hy])) hb]
theorem keysOf_next {α : Type} {rs : RowsV α} {k : Nat} {x : Key2 × List (Int × α)} (h : rs[k]? = some x) : keysOf (rs.take (k + 1)) = insK x.1 (keysOf (rs.take k)) := by
  unfold keysOf
  rw [List.take_add_one, h]; simp
theorem keysOf_take_up {α : Type} {rs : RowsV α} (hn : (keysL rs).Nodup) (k : Nat) : KeysUp (keysOf (rs.take k)) ∧ (keysOf (rs.take k)).length = (rs.take k).length := by
  have h1 : ((rs.take k).map (·.1)).Nodup := by
    rw [List.map_take]; exact List.Pairwise.sublist (List.take_sublist _ _) hn
  obtain ⟨h2, _, h3⟩ := keysOf_up h1
  exact ⟨h2, h3⟩
/-- Two elements have been exchanged. -/
theorem swap_cells (a b : List Key2) (x y : Key2) : ((((cellsL encKey (a ++ y :: x :: b)).set ((a.length + 1) * 2) (.int .i64 y.1)).set ((a.length + 1) * 2 + 1) (.int .i64 y.2)).set (a.length * 2) (.int .i64 x.1)).set (a.length * 2 + 1) (.int .i64 x.2) = cellsL encKey (a ++ x :: y :: b) := by
  have l0 : (a ++ y :: x :: b)[a.length + 1]? = some x := by rw [List.getElem?_append_right (by omega)]; simp
  have e1 := cellsL_set encKey_len (a ++ y :: x :: b) (a.length + 1) 0 x (y.1, x.2) l0 (by omega) (.int .i64 y.1) rfl
  rw [Nat.add_zero] at e1
  rw [e1]
  have s1 : (a ++ y :: x :: b).set (a.length + 1) (y.1, x.2) = a ++ y :: (y.1, x.2) :: b := by rw [List.set_append_right _ _ (by omega)]; simp
  rw [s1]
  have l1 : (a ++ y :: (y.1, x.2) :: b)[a.length + 1]? = some (y.1, x.2) := by rw [List.getElem?_append_right (by omega)]; simp
  rw [cellsL_set encKey_len _ (a.length + 1) 1 (y.1, x.2) y l1 (by omega) (.int .i64 y.2) rfl]
  have s2 : (a ++ y :: (y.1, x.2) :: b).set (a.length + 1) y = a ++ y :: y :: b := by rw [List.set_append_right _ _ (by omega)]; simp
  rw [s2]
  have l2 : (a ++ y :: y :: b)[a.length]? = some y := by rw [List.getElem?_append_right (by omega)]; simp
  have e3 := cellsL_set encKey_len (a ++ y :: y :: b) a.length 0 y (x.1, y.2) l2 (by omega) (.int .i64 x.1) rfl
  rw [Nat.add_zero] at e3
  rw [e3]
  have s3 : (a ++ y :: y :: b).set a.length (x.1, y.2) = a ++ (x.1, y.2) :: y :: b := by rw [List.set_append_right _ _ (by omega)]; simp
  rw [s3]
  have l3 : (a ++ (x.1, y.2) :: y :: b)[a.length]? = some (x.1, y.2) := by rw [List.getElem?_append_right (by omega)]; simp
  rw [cellsL_set encKey_len _ a.length 1 (x.1, y.2) x l3 (by omega) (.int .i64 x.2) rfl, List.set_append_right _ _ (by omega)]
  simp

set_option maxRecDepth 100000 in
set_option maxHeartbeats 4000000 in
theorem refKeys_any (R : RLay) (N m : Nat) (st : StS) (w : World) (h : RefAt w R N m st) :
    Calls Tryz.prog 14 #[.pointer (some ⟨R.s, 0, none⟩)] w (KeysPost w (keysOf st.rows)) := by
  have hle := h.rowsN
  have hbig := h.bigN
  have c1 := h.blk.cell 1
  obtain ⟨A, cap, hrv⟩ := own_shape h.rows
  simp only [List.getElem?_cons_zero, List.getElem?_cons_succ, hrv] at c1
  have hrows := h.rows
  rw [hrv] at hrows
  have HS := Lib.hid (own_sl hrows)
  have HK := Lib.hid (fun (j : Nat) (p : Key2 × Value) (hp : R.ks[j]? = some p) => h.key hp)
  have HND := Lib.hid (show (keysL st.rows).Nodup from h.ok.nodup)
  have hlen := h.len
  obtain ⟨q, hq⟩ : ∃ q, R.ks.length = q := ⟨_, rfl⟩
  have HQ := Lib.hid (show st.rows.length = q from by rw [← hlen, hq])
  rw [hq] at c1 HS
  have hqN : q ≤ N := by omega
  have HC1 := Lib.hid c1
  obtain ⟨s0, hs0⟩ : ∃ s0, R.s = s0 := ⟨_, rfl⟩
  rw [hs0] at HC1 ⊢
  have HLESS := Lib.hid refLess_any
  clear hrv hrows h hq c1 hlen hle hs0
  go_enter Tryz.func14, Tryz.ntmps14
  go_wp2
  go_loopw [3, 4] (fun v i wr => ∃ (k : Nat), k ≤ q ∧ i = .int .i64 (k : Int) ∧ wr.ownsRow w.heap.size 33 2 v k (cellsL encKey (keysOf (st.rows.take k))) ∧ New w wr) (fun _ i _ => q - (intOf i).toNat)
  case atStart => exact ⟨0, Nat.zero_le _, rfl, own_nil _ _ _ _, Mod.refl _ _⟩
  case round =>
    obtain ⟨i, hi, rfl, hown, hw⟩ := hrel
    have d1 := hw.cell HC1.out (fun h => h)
    by_cases hlt : i < q
    · obtain ⟨b, off, ⟨x, v⟩, rfl, hp, hc⟩ := (HS.out.new_ hw).elem encRow_len (by decide) hlt
      obtain ⟨l, hl⟩ := HK.out i _ hp
      have r0 := hc 0 _ rfl
      have r1 := hc 1 _ rfl
      simp only [Nat.add_zero] at r0
      have HNX := Lib.hid (keysOf_next hl)
      have hup := keysOf_take_up HND.out i
      obtain ⟨acc, hacc⟩ : ∃ acc, keysOf (st.rows.take i) = acc := ⟨_, rfl⟩
      rw [hacc] at HNX hup hown
      have HAL := Lib.hid (show acc.length = i from by rw [hup.2, List.length_take, HQ.out]; omega)
      have HUP := Lib.hid hup.1
      simp only at HNX
      have hxm : (x : Key2) = x := rfl
      obtain ⟨x1, x2⟩ := x
      have HOWN := Lib.hid hown
      clear hp hc hl hacc hup hxm hown
      go_wp2_with (at_builtin; go_must (refine wpList_app Tryz.sltKeys rfl (.tmp 16) (.tmp 25) rfl w.heap.size _ i _ rfl (HOWN.out.alloc _) ⟨wr.heap.size, 0, none⟩ 1 1 [.int .i64 x1, .int .i64 x2] rfl rfl (cells_new _ _ _) ?c1 ?c2 ?c3 ?_))
      case c1 => simp [Value.oneCell']
      case c2 => omega
      case c3 => have := hw.size; first | omega | (simp; omega)
      intro v4 w4 hown4 hg4 _
      have hw4 : New w w4 := New.grown (hw.alloc _) (HOWN.out.alloc _) (Nat.le_refl _) hg4
      obtain ⟨g, cp, rfl, hgb, hgl⟩ := hown4.form (by omega)
      have HO4 := Lib.hid (show w4.ownsRow w.heap.size 33 2 (.slice (some ⟨g, 0, none⟩) (i + 1) cp) (i + 1) (cellsL encKey (acc ++ (x1, x2) :: [])) from by
        rw [cellsL_append, cellsL_one]; exact hown4)
      obtain ⟨wo, rfl⟩ : ∃ wo : World, wo = w4 := ⟨_, rfl⟩
      clear hg4 hown4
      go_wp2
      go_loopw [5] (fun kk wr => ∃ (a b : List Key2), acc = a ++ b ∧ kk = .int .i64 (a.length : Int) ∧ wr.ownsRow w.heap.size 33 2 (.slice (some ⟨g, 0, none⟩) (i + 1) cp) (i + 1) (cellsL encKey (a ++ (x1, x2) :: b)) ∧ (∀ z ∈ b, keyLess (x1, x2) z = true) ∧ New w wr) (fun kk _ => (intOf kk).toNat)
      case atStart => exact ⟨acc, [], by simp, by rw [HAL.out], HO4.out, fun z hz => (by cases hz), hw4⟩
      case round =>
        obtain ⟨a, b, hab, rfl, hown, hall, hwr⟩ := hrel
        have HAB := Lib.hid hab
        have HALL := Lib.hid hall
        have hal : a.length ≤ i := by have := congrArg List.length hab; simp at this; have := HAL.out; omega
        clear hab hall
        rcases List.eq_nil_or_concat a with rfl | ⟨a', y, rfl⟩
        · have HF := Lib.hid (show cellsL encKey ([] ++ (x1, x2) :: b) = cellsL encKey (keysOf (st.rows.take (i + 1))) from by
            rw [HNX.out, HAB.out, insK_split (fun z hz => by cases hz) HALL.out])
          have HO := Lib.hid hown
          clear hown hal
          simp only [List.length_nil, Int.natCast_zero]
          go_wp2
          go_quiet (fail)
          go_wp2
          go_roundw
          case rel => exact ⟨i + 1, by omega, by go_num, by rw [← HF.out]; exact own_new HO.out (Mod.drewN (Mod.refl _ _) _), hwr.drewN _⟩
          case measure => simp [intOf]; omega
        · rw [List.concat_eq_append] at *
          have hlen : (a' ++ [y]).length = a'.length + 1 := by simp
          rw [hlen] at hal ⊢
          obtain ⟨j, hj⟩ : ∃ j, a'.length = j := ⟨_, rfl⟩
          have HJ := Lib.hid hj
          rw [hj] at hal ⊢
          have HO := Lib.hid (show wr.ownsRow w.heap.size 33 2 (.slice (some ⟨g, 0, none⟩) (i + 1) cp) (i + 1) (cellsL encKey (a' ++ y :: (x1, x2) :: b)) from by simpa using hown)
          have o1 := own_at encKey_len HO.out (k := j) (p := y) (by rw [← hj]; simp)
          have o2 := own_at encKey_len HO.out (k := j + 1) (p := (x1, x2)) (by rw [← hj, List.getElem?_append_right (by omega)]; simp)
          obtain ⟨y1, y2⟩ := y
          have p0 := o1 0 _ rfl
          have p1 := o1 1 _ rfl
          have q0 := o2 0 _ rfl
          have q1 := o2 1 _ rfl
          simp only [Nat.add_zero] at p0 q0
          push_cast
          clear hown hlen hj o1 o2
          have HLX := Lib.hid (fun W => HLESS.out (x1, x2) (y1, y2) W)
          obtain ⟨lt, hlt2⟩ : ∃ lt, keyLess (x1, x2) (y1, y2) = lt := ⟨_, rfl⟩
          have HLT := Lib.hid hlt2
          rw [hlt2] at HLX
          clear hlt2
          have z1 : (0 : Int) ≤ (j : Int) + 1 := by omega
          have z2 : (j : Int) + 1 < (i : Int) + 1 := by omega
          have z3 : (0 : Int) ≤ (j : Int) := by omega
          have z4 : (j : Int) < (i : Int) + 1 := by omega
          have z5 : IntKind.i64.wrap (j : Int) = (j : Int) := IntWalk.i64_in _ (by omega)
          have z6 : IntKind.i64.wrap ((j : Int) + 1) = (j : Int) + 1 := IntWalk.i64_in _ (by omega)
          have z7 : ((j : Int) + 1).toNat = j + 1 := by omega
          go_wp2
          go_region_held3 (fun w' => (w'.cell? ⟨g, j * 2, none⟩ = some (.int .i64 y1) ∧ w'.cell? ⟨g, j * 2 + 1, none⟩ = some (.int .i64 y2) ∧ w'.cell? ⟨g, (j + 1) * 2, none⟩ = some (.int .i64 x1) ∧ w'.cell? ⟨g, (j + 1) * 2 + 1, none⟩ = some (.int .i64 x2)) ∧ New wr w') ((first | exact ⟨⟨‹_›, ‹_›, ‹_›, ‹_›⟩, (Mod.refl _ _).drew⟩ | (refine four_step ?_ hw9; assumption))) ((go_at_call 47; refine (HLX.out _).mono ?_; rintro e w9 ⟨rfl, hw9⟩))
          all_goals
            obtain ⟨⟨k0, k1, k2, k3⟩, hn⟩ := ‹_ ∧ New wr _›
            have ho9 := own_new HO.out hn
            have hn9 := New.trans hwr hn
            have HO9 := Lib.hid ho9
            cases lt with
            | false =>
              have HF := Lib.hid (show cellsL encKey (a' ++ (y1, y2) :: (x1, x2) :: b) = cellsL encKey (keysOf (st.rows.take (i + 1))) from by
                rw [HNX.out, HAB.out, insK_split (fun z hz => ?_) HALL.out]
                · simp
                · rcases List.mem_append.1 hz with hz | hz
                  · cases hxz : keyLess (x1, x2) z with
                    | false => rfl
                    | true =>
                      have h1 : keyLess z (y1, y2) = true := by
                        have := HUP.out
                        rw [HAB.out] at this
                        exact (List.pairwise_append.1 (List.pairwise_append.1 this).1).2.2 z hz _ (by simp)
                      have := keyLess_trans hxz h1
                      rw [HLT.out] at this; cases this
                  · simp at hz; subst hz; exact HLT.out)
              clear ho9
              go_wp2
              go_roundw
              case rel => exact ⟨i + 1, by omega, by go_num, by rw [← HF.out]; exact HO9.out, hn9⟩
              case measure => simp [intOf]; omega
            | true =>
              have hoa := ho9.alloc (.cells #[.int .i64 x1, .int .i64 x2] 33)
              have hna : New w (w9.alloc (.cells #[.int .i64 x1, .int .i64 x2] 33)) := hn9.alloc _
              have hswap := swap_cells a' b (x1, x2) (y1, y2)
              rw [HJ.out] at hswap
              have hst := (((((ho9.stored ((j + 1) * 2) (.int .i64 y1)).1).stored ((j + 1) * 2 + 1) (.int .i64 y2)).1.stored (j * 2) (.int .i64 x1)).1.stored (j * 2 + 1) (.int .i64 x2)).1
              rw [hswap] at hst
              have HST := Lib.hid (hst.alloc (.cells #[.int .i64 x1, .int .i64 x2] 33))
              have HNW := Lib.hid (((((hn9.set_ (p := ⟨g, (j + 1) * 2, none⟩) (fun h => by simp only at h; omega) (.int .i64 y1)).set_ (p := ⟨g, (j + 1) * 2 + 1, none⟩) (fun h => by simp only at h; omega) (.int .i64 y2)).set_ (p := ⟨g, j * 2, none⟩) (fun h => by simp only at h; omega) (.int .i64 x1)).set_ (p := ⟨g, j * 2 + 1, none⟩) (fun h => by simp only at h; omega) (.int .i64 x2)).alloc (.cells #[.int .i64 x1, .int .i64 x2] 33))
              have hgw9 : g < w9.heap.size := (ho9.lt g rfl).2
              have hgne : ¬ (g = w9.heap.size) := by omega
              have hgne2 : ¬ (w9.heap.size = g) := by omega
              have fz : ∀ o, w9.frozen? ⟨g, o, none⟩ = false := fun o => own_frozen ho9
              have f0 := fz (j * 2)
              have f1 := fz (j * 2 + 1)
              have f2 := fz ((j + 1) * 2)
              have f3 := fz ((j + 1) * 2 + 1)
              have nb := Blk.new w9 33 [.int .i64 x1, .int .i64 x2]
              have m0 := nb.cell 0
              have m1 := nb.cell 1
              simp only [List.getElem?_cons_zero, List.getElem?_cons_succ] at m0 m1
              have v0 := ((Mod.refl (fun _ => False) w9).alloc (.cells #[.int .i64 x1, .int .i64 x2] 33)).cell k0 (fun h => h)
              have v1 := ((Mod.refl (fun _ => False) w9).alloc (.cells #[.int .i64 x1, .int .i64 x2] 33)).cell k1 (fun h => h)
              have v2 := ((Mod.refl (fun _ => False) w9).alloc (.cells #[.int .i64 x1, .int .i64 x2] 33)).cell k2 (fun h => h)
              have v3 := ((Mod.refl (fun _ => False) w9).alloc (.cells #[.int .i64 x1, .int .i64 x2] 33)).cell k3 (fun h => h)
              clear ho9 hoa hna hswap hst fz nb hn9
              go_wp2
              go_roundw
              case rel => exact ⟨a', (y1, y2) :: b, by rw [HAB.out]; simp, by rw [HJ.out], HST.out, fun z hz => by
                rcases List.mem_cons.1 hz with rfl | hz
                · exact HLT.out
                · exact HALL.out z hz, HNW.out⟩
              case measure => simp [intOf]
    · obtain rfl : i = q := by omega
      obtain ⟨A, cp, rfl⟩ := own_shape hown
      have HF := Lib.hid (show keysOf (st.rows.take i) = keysOf st.rows from by rw [List.take_of_length_le (by have := HQ.out; omega)])
      have HL := Lib.hid (show (keysOf st.rows).length = i from by
        rw [← HF.out, (keysOf_take_up HND.out i).2, List.length_take, HQ.out]; omega)
      rw [HF.out] at hown
      have HO := Lib.hid hown
      clear hown
      go_wp2
      go_ret
      exact ⟨_, rfl, by rw [HL.out]; exact HO.out, hw⟩
end Go.Proofs.YtfifalopbfopnaaGreatDoor
