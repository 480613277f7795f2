/- Walks: the document's order and Order. -/
import Derived.Test.YtkkaejbdekdljaaDoorLh
import Derived.RegionTactic
set_option linter.unusedVariables false
set_option linter.unusedSimpArgs false
namespace Go.Proofs.YtkkaejbdekdljaaDoor
open Go.RowKit

/-- What the document's order answers. -/
def RefOrdPost (w : World) (n : Nat) (l : List (Int × Int)) (pr : Nat → Int) (e : Ending) (w' : World) : Prop :=
  ∃ v b, e = .returned (.tuple #[v, .bool b]) ∧ b = decide ((ordered l pr n).length = n) ∧ (b = true → w'.ownsRow w.heap.size 3 1 v (ordered l pr n).length (nats (ordered l pr n))) ∧ New w w'

set_option maxRecDepth 100000 in
set_option maxHeartbeats 4000000 in
theorem refOrder0_any (n : Nat) (A P : Option Addr) (m c pc : Nat) (l : List (Int × Int)) (prio : List Int) (w : World) (hn : n ≤ 4096) (ha : Sl w A m 2 (twos l)) (hin : ∀ p, p ∈ l → 0 ≤ p.1 ∧ p.1 < n ∧ 0 ≤ p.2 ∧ p.2 < n)
    (hp : Sl w P n 1 (nums prio)) (hm4 : m ≤ 4294967296) :
    Calls Tryd.prog 45 #[.int .i64 (n : Int), .slice A m c, .slice P n pc] w (RefOrdPost w n l (prioOf prio)) := by
  have hl : l.length = m := by have := ha.len; rw [twos_length] at this; omega
  have HL := Lib.hid hl
  have HI := Lib.hid hin
  clear hl hin
  have hmk := run_mk_ints Tryd.slt24 (by kernel_rfl) n (by omega)
  have hmk3 := run_mk_slices (z0 := .bool false) (bytes := 1) (e := 4) (t := 110) ⟨Tryd.underlying110, ⟨.bool false, by kernel_rfl, rfl⟩, by decide, by decide⟩ (by kernel_rfl) rfl n (by omega) (by omega)
  go_enter Tryd.func45, Tryd.ntmps45
  go_wp2
  have hgd0 : Blk ((w.alloc (.cells (nats (List.replicate n 0)).toArray 3)).alloc (.cells (List.replicate n (Value.bool false)).toArray 4)) (w.heap.size + 1) 4 (stands n []) := by
    have e : stands n [] = List.replicate n (Value.bool false) := by simp [stands, List.map_const']
    have := Blk.new (w.alloc (.cells (nats (List.replicate n 0)).toArray 3)) 4 (List.replicate n (Value.bool false))
    rw [e]; simpa using this
  have HGD0 := Lib.hid hgd0
  clear hgd0
  go_loopw [10] (fun i wr => ∃ (k : Nat) (ws : List Nat), k ≤ m ∧ i = .int .i64 (k : Int) ∧ ws.length = n ∧ (∀ i, i < n → at_ ws i = (l.take k).countP fun p => p.2.toNat == i) ∧ Blk wr w.heap.size 3 (nats ws) ∧ Blk wr (w.heap.size + 1) 4 (stands n []) ∧ New w wr) (fun i _ => m - (intOf i).toNat)
  case atStart => exact ⟨0, _, Nat.zero_le _, rfl, by simp, fun i hi => by simp [at_repl], (Blk.new _ _ _).alloc _, HGD0.out, ((Mod.refl _ _).alloc _).alloc _⟩
  case round =>
    obtain ⟨k, ws, hk, rfl, hwl, hwa, hg1, hg2, hw⟩ := hrel
    have HWL := Lib.hid hwl
    have HWA := Lib.hid hwa
    clear hwl hwa
    have hs1 := hg1.lt
    have hs2 := hg2.lt
    by_cases hlt : k < m
    · obtain ⟨b, off, p, rfl, hp', hc0, hc1⟩ := (ha.new_ hw).two hlt
      have hpm : p ∈ l := List.mem_of_getElem? hp'
      have hpin := HI.out p hpm
      obtain ⟨x, y⟩ := p
      obtain ⟨x, rfl⟩ := Int.eq_ofNat_of_zero_le hpin.1
      obtain ⟨y, rfl⟩ := Int.eq_ofNat_of_zero_le hpin.2.2.1
      have hx : x < n := by have := hpin.2.1; simpa using this
      have hy : y < n := by have := hpin.2.2.2; simpa using this
      have HP := Lib.hid hp'
      clear hp' hpm hpin
      have cw := hg1.nat (k := y) (by have := HWL.out; omega)
      have fw := hg1.frozen y
      have hwz : at_ ws y ≤ 4294967296 := by
        have h1 := HWA.out y hy
        have h2 : (l.take k).countP (fun p => p.2.toNat == y) ≤ (l.take k).length := List.countP_le_length
        have h3 : (l.take k).length ≤ k := List.length_take_le _ _
        omega
      go_wp2
      go_region
      all_goals
        go_wp2
        go_roundw
        case rel =>
          refine ⟨k + 1, ws.set y (at_ ws y + 1), by omega, by go_num, by simp; exact HWL.out, fun i hi => ?_, ?_, ?_, ?_⟩
          · rw [at_set _ _ _ (by have := HWL.out; omega), cntall_take l k _ HP.out i]
            by_cases e : i = y
            · subst e; rw [put_same, HWA.out i hi]; simp
            · rw [put_other _ _ e, HWA.out i hi]; simp; omega
          · have := hg1.set_ y (.int .i64 ((at_ ws y + 1 : Nat) : Int))
            rw [nats_set] at this
            have e : ((at_ ws y + 1 : Nat) : Int) = (at_ ws y : Int) + 1 := by omega
            rw [e] at this
            exact this
          · exact hg2.far (p := ⟨w.heap.size, y, none⟩) (by simp) _
          · exact (hw.set_ (p := ⟨w.heap.size, y, none⟩) (fun h => by simp at h) _).drew
        case measure => simp [intOf]; omega
    · obtain ⟨wo, rfl⟩ : ∃ wo : World, wo = wr := ⟨_, rfl⟩
      obtain ⟨ws0, rfl⟩ : ∃ x, x = ws := ⟨_, rfl⟩
      have hS0 : Sits wo w.heap.size (w.heap.size + 1) n l [] ws0 := ⟨HWL.out, fun i hi => by
        rw [cnt_nil, HWA.out i hi, List.take_of_length_le (by have := HL.out; omega)], hg1, hg2⟩
      have HS0 := Lib.hid hS0
      clear hS0
      go_wp2
      have HW0 := Lib.hid ((Mod.refl (fun b => b = w.heap.size ∨ b = w.heap.size + 1) wo))
      go_loopg [11] n (fun gk v wl => ∃ (j : Nat) (out ws : List Nat), gk = n - j ∧ j ≤ n ∧ wl.ownsRow wo.heap.size 3 1 v j (nats out) ∧ out.length = j ∧ Stand n out ∧ run l (prioOf prio) n (n - j) out = ordered l (prioOf prio) n ∧
        Sits wl w.heap.size (w.heap.size + 1) n l out ws ∧ Mod (fun b => b = w.heap.size ∨ b = w.heap.size + 1) wo wl)
      case atStart => exact ⟨0, [], ws0, by omega, Nat.zero_le _, own_nil _ _ _ _, rfl, ⟨fun b hb => by simp at hb, by simp⟩, rfl, HS0.out, by have := HW0.out; simpa using this⟩
      case round =>
        obtain ⟨j, out, ws, hgk, hj, hown, hol, hst, hrun, hsit, hwl⟩ := hrel
        obtain ⟨OA, oc, rfl⟩ := own_shape hown
        have HGK := Lib.hid hgk
        have HOL := Lib.hid hol
        have HST := Lib.hid hst
        have HRUN := Lib.hid hrun
        have HSIT := Lib.hid hsit
        have HWL2 := Lib.hid hwl
        clear hgk hol hst hrun hsit hwl
        by_cases hjn : j < n
        · go_wp2
          obtain ⟨wl, rfl⟩ : ∃ wl : World, wl = wr := ⟨_, rfl⟩
          have hnw : New w wl := Mod.trans hw HWL2.out (fun i hi h => by omega)
          have HNW := Lib.hid hnw
          clear hnw
          go_loopw [12, 13] (fun best i wb => ∃ (k : Nat) (q : Int), k ≤ n ∧ i = .int .i64 (k : Int) ∧ best = .int .i64 q ∧ q = pickInt (pick (ready l out) (prioOf prio) k) ∧ New wl wb) (fun _ i _ => n - (intOf i).toNat)
          case atStart => exact ⟨0, -1, Nat.zero_le _, rfl, rfl, rfl, Mod.refl _ _⟩
          case round =>
            obtain ⟨i, q, hi, rfl, rfl, hq, hnb⟩ := hrel
            by_cases hin : i < n
            · have hS := HSIT.out.new_ hnb
              have cd := hS.dblk.cell i
              rw [stands_at out hin] at cd
              have cwt := hS.wblk.nat (k := i) (by have := hS.wlen; omega)
              rw [hS.wat i hin] at cwt
              obtain ⟨pb, poff, rfl, hpr⟩ := (hp.new_ (New.trans HNW.out hnb)).prio hin
              have cp := hpr i hin
              have HPR := Lib.hid hpr
              have HQ := Lib.hid hq
              clear hS hpr hq
              cases hc : out.contains i with
              | true =>
                have HS := Lib.hid (show pick (ready l out) (prioOf prio) (i + 1) = pick (ready l out) (prioOf prio) i from pick_skip (by simp only [ready, hc]; rfl))
                rw [hc] at cd
                clear hc
                go_wp2
                go_quiet (fail)
                go_wp2
                go_roundw
                case rel => exact ⟨i + 1, q, by omega, by go_num, rfl, by rw [HQ.out, HS.out], hnb.drewN _⟩
                case measure => simp [intOf]; omega
              | false =>
                rw [hc] at cd
                by_cases h0 : cnt l out i = 0
                · have hr : ready l out i = true := by simp only [ready, hc, h0]; rfl
                  have HR := Lib.hid hr
                  rw [h0] at cwt
                  clear hc h0 hr
                  cases hpk : pick (ready l out) (prioOf prio) i with
                  | none =>
                    obtain rfl : q = -1 := by rw [HQ.out, hpk]; rfl
                    have HS := Lib.hid (pick_first (prio := prioOf prio) HR.out hpk)
                    clear hpk
                    go_wp2
                    go_quiet (fail)
                    go_wp2
                    go_roundw
                    case rel => exact ⟨i + 1, i, by omega, by go_num, rfl, by rw [HS.out]; rfl, hnb.drewN _⟩
                    case measure => simp [intOf]; omega
                  | some b =>
                    obtain rfl : q = b := by rw [HQ.out, hpk]; rfl
                    have hbn : b < n := by have := (pick_lt hpk).1; omega
                    have cb := HPR.out b hbn
                    by_cases hbi : prioOf prio b < prioOf prio i
                    · have HS := Lib.hid (pick_more (prio := prioOf prio) HR.out hpk hbi)
                      clear hpk
                      go_wp2
                      go_quiet (fail)
                      go_wp2
                      go_roundw
                      case rel => exact ⟨i + 1, i, by omega, by go_num, rfl, by rw [HS.out]; rfl, hnb.drewN _⟩
                      case measure => simp [intOf]; omega
                    · have HS := Lib.hid (pick_stay (r := ready l out) (prio := prioOf prio) hpk hbi)
                      clear hpk
                      go_wp2
                      go_quiet (fail)
                      go_wp2
                      go_roundw
                      case rel => exact ⟨i + 1, b, by omega, by go_num, rfl, by rw [HS.out]; rfl, hnb.drewN _⟩
                      case measure => simp [intOf]; omega
                · have HS := Lib.hid (show pick (ready l out) (prioOf prio) (i + 1) = pick (ready l out) (prioOf prio) i from pick_skip (by simp [ready, h0]))
                  have h0' : ((cnt l out i : Int) == 0) = false := by simp; omega
                  have HZ := Lib.hid h0
                  clear hc h0
                  go_wp2
                  go_quiet (fail)
                  go_wp2
                  go_roundw
                  case rel => exact ⟨i + 1, q, by omega, by go_num, rfl, by rw [HQ.out, HS.out], hnb.drewN _⟩
                  case measure => simp [intOf]; omega
            · obtain rfl : i = n := by omega
              cases hpk : pick (ready l out) (prioOf prio) i with
              | none =>
                obtain rfl : q = -1 := by rw [hq, hpk]; rfl
                have hfin : ordered l (prioOf prio) i = out := by rw [← HRUN.out, run_none hpk]
                have HFIN := Lib.hid hfin
                clear hq hpk hfin
                go_wp2
                go_ret2
                exact ⟨_, false, rfl, by rw [HFIN.out, HOL.out]; simp; omega, (fun h => by cases h), New.trans HNW.out hnb⟩
              | some b =>
                obtain rfl : q = b := by rw [hq, hpk]; rfl
                have hbn := (pick_lt hpk).1
                have HRD := Lib.hid (ready_not (pick_lt hpk).2)
                have HPK := Lib.hid hpk
                have hS := HSIT.out.new_ hnb
                have cd := hS.dblk.cell b
                rw [stands_at out hbn] at cd
                have fd := hS.dblk.frozen b
                have hgdl := hS.dblk.lt
                have hgwl := hS.wblk.lt
                have HS := Lib.hid hS
                have hown1 := own_mod (S := (· = w.heap.size + 1)) (own_new hown hnb) (mod_set wr (w.heap.size + 1) b (.bool true)) (fun x hx => by have := (hown.lt x hx).1; omega)
                clear hq hpk hS
                go_wp2_with (at_builtin; refine wpList_app Tryd.slt24 rfl (.tmp 83) (.tmp 85) rfl wo.heap.size _ j _ rfl (hown1.alloc _) ⟨wr.heap.size, 0, none⟩ 1 1 [.int .i64 (b : Int)] rfl rfl ?c0 ?c1 ?c2 ?c3 ?_)
                case c0 => have := cells_new (wr.setCell ⟨w.heap.size + 1, b, none⟩ (.bool true)) [.int .i64 (b : Int)] 3; simpa using this
                case c1 => simp [Value.oneCell']
                case c2 => omega
                case c3 => simp; have := (New.trans HNW.out hnb).size; have := HWL2.out.size; have := hnb.size; omega
                intro v' w2 hown2 hg2' hat2
                have m1 : Mod (· = w.heap.size + 1) wr ((wr.setCell ⟨w.heap.size + 1, b, none⟩ (.bool true)).alloc (.cells #[.int .i64 (b : Int)] 3)) := (mod_set wr (w.heap.size + 1) b (.bool true)).alloc _
                have m2 : Mod (fun x => (Value.slice OA j oc).ownBlock = some x) ((wr.setCell ⟨w.heap.size + 1, b, none⟩ (.bool true)).alloc (.cells #[.int .i64 (b : Int)] 3)) w2 := Mod.of_grown hg2' (fun _ h => h)
                have hge : ∀ x, (Value.slice OA j oc).ownBlock = some x → wo.heap.size ≤ x := fun x hx => (hown.lt x hx).1
                have hD2 : Blk w2 (w.heap.size + 1) 4 (stands i (out ++ [b])) := by
                  have := ((HS.out.dblk.set_ b (.bool true)).alloc (.cells #[.int .i64 (b : Int)] 3)).kept m2 (fun h => by have := hge _ h; omega)
                  rwa [stands_set _ hbn] at this
                have hW2 : Blk w2 w.heap.size 3 (nats ws) := (HS.out.wblk.kept m1 (fun h => by omega)).kept m2 (fun h => by have := hge _ h; omega)
                have hA2 : New w w2 := Mod.trans (Mod.trans (New.trans HNW.out hnb) m1 (fun x hx h => by omega)) m2 (fun x hx h => by have := hge x h; omega)
                have HD2 := Lib.hid hD2
                have HO2 := Lib.hid hown2
                have HM1 := Lib.hid m1
                have HM2 := Lib.hid m2
                have HA2 := Lib.hid hA2
                have hgwl2 := hW2.lt
                clear hD2 hown2 m1 m2 hg2' hat2 hown1 cd fd hA2
                go_wp2
                go_loopw [14] (fun i' wi => ∃ (t : Nat) (ws' : List Nat), t ≤ m ∧ i' = .int .i64 (t : Int) ∧ ws'.length = i ∧ (∀ z, z < i → at_ ws' z + fromTo (l.take t) b z = cnt l out z) ∧ Blk wi w.heap.size 3 (nats ws') ∧ Mod (· = w.heap.size) w2 wi) (fun i' _ => m - (intOf i').toNat)
                case atStart => exact ⟨0, ws, Nat.zero_le _, rfl, HS.out.wlen, fun z hz => by simp [fromTo]; exact HS.out.wat z hz, hW2, Mod.refl _ _⟩
                case round =>
                  obtain ⟨t, ws', ht, rfl, hwl', hwz, hwb, hmi⟩ := hrel
                  have HWL' := Lib.hid hwl'
                  have HWZ := Lib.hid hwz
                  clear hwl' hwz
                  by_cases htl : t < m
                  · obtain ⟨ab, aoff, p, rfl, hp', hc0, hc1⟩ := (ha.new_ (Mod.trans HA2.out hmi (fun x hx h => by omega))).two htl
                    have hpm : p ∈ l := List.mem_of_getElem? hp'
                    have hpin := HI.out p hpm
                    obtain ⟨x, y⟩ := p
                    obtain ⟨x, rfl⟩ := Int.eq_ofNat_of_zero_le hpin.1
                    obtain ⟨y, rfl⟩ := Int.eq_ofNat_of_zero_le hpin.2.2.1
                    have hx : x < i := by have := hpin.2.1; simpa using this
                    have hy : y < i := by have := hpin.2.2.2; simpa using this
                    have HP := Lib.hid hp'
                    have hfs : ∀ z, fromTo (l.take (t + 1)) b z = fromTo (l.take t) b z + (if x = b ∧ y = z then 1 else 0) := fun z => by
                      rw [List.take_add_one, hp']; simpa using fromTo_snoc (l.take t) ((x : Int), (y : Int)) b z
                    have HFS := Lib.hid hfs
                    clear hp' hpm hpin hfs
                    by_cases hxb : x = b
                    · subst hxb
                      have hdd : ((x : Int) == (x : Int)) = true := by simp
                      have cx := hwb.nat (k := y) (by have := HWL'.out; omega)
                      have fx := hwb.frozen y
                      have hp2 := HWZ.out y hy
                      have hp3 : 1 ≤ at_ ws' y := by
                        have h1 := HFS.out y
                        simp at h1
                        have h2 := fromTo_take_le l (t + 1) x y
                        have h3 := cnt_snoc (l := l) HRD.out y
                        omega
                      have hp4 : at_ ws' y ≤ m := by
                        have h1 : cnt l out y ≤ l.length := List.countP_le_length
                        have := HL.out
                        omega
                      clear hp2
                      go_wp2
                      go_region
                      all_goals
                        go_wp2
                        go_roundw
                        case rel => exact ⟨t + 1, ws'.set y (at_ ws' y - 1), by omega, by go_num, by simp; exact HWL'.out, fun z hz => by
                          rw [at_set _ _ _ (by have := HWL'.out; omega), HFS.out z]
                          have h1 := HWZ.out z hz
                          by_cases e : z = y
                          · subst e; rw [put_same, if_pos (by simp)]; omega
                          · rw [put_other _ _ e, if_neg (fun h => e h.2.symm)]; omega, by
                          have := hwb.set_ y (.int .i64 ((at_ ws' y - 1 : Nat) : Int))
                          rw [nats_set] at this
                          have e : ((at_ ws' y - 1 : Nat) : Int) = (at_ ws' y : Int) - 1 := by omega
                          rw [e] at this
                          exact this, (Mod.trans hmi (mod_set _ _ _ _) (fun _ _ h => h)).drew⟩
                        case measure => simp [intOf]; omega
                    · have hdd : ((x : Int) == (b : Int)) = false := by simp; omega
                      have HXB := Lib.hid hxb
                      clear hxb
                      go_wp2
                      go_roundw
                      case rel => exact ⟨t + 1, ws', by omega, by go_num, HWL'.out, fun z hz => by rw [HFS.out z, if_neg (fun h => HXB.out h.1)]; exact HWZ.out z hz, hwb, hmi⟩
                      case measure => simp [intOf]; omega
                  · go_wp2
                    go_roundg (i - (j + 1))
                    case measure => have := HGK.out; omega
                    case rel => exact ⟨j + 1, out ++ [b], ws', rfl, by omega, by
                      rw [show nats (out ++ [b]) = nats out ++ [.int .i64 (b : Int)] from by simp [nats]]
                      exact own_mod HO2.out hmi (fun x hx h => by have := (HO2.out.lt x hx).1; omega), by simp; exact HOL.out, HST.out.snoc hbn HRD.out, by
                      rw [← HRUN.out, show i - j = (i - (j + 1)) + 1 from by omega, run_some HPK.out], ⟨HWL'.out, fun z hz => by
                        have h1 := HWZ.out z hz
                        rw [List.take_of_length_le (by have := HL.out; omega)] at h1
                        have h2 := cnt_snoc (l := l) HRD.out z
                        omega, hwb, HD2.out.kept hmi (fun h => by omega)⟩, by
                      have q1 := Mod.trans HWL2.out hnb (fun _ _ h => h.elim)
                      have q2 := Mod.trans q1 HM1.out (fun _ _ h => .inr h)
                      have q3 := Mod.trans q2 HM2.out (fun x hx h => by have := hge x h; omega)
                      exact Mod.trans q3 hmi (fun _ _ h => .inl h)⟩
        · obtain rfl : j = n := by omega
          have hfin : ordered l (prioOf prio) j = out := by rw [← HRUN.out]; simp [run]
          have HFIN := Lib.hid hfin
          clear hfin
          go_wp2
          go_ret2
          exact ⟨_, true, rfl, by rw [HFIN.out, HOL.out]; simp, fun _ => by rw [HFIN.out, HOL.out]; exact own_mono hown hw.size, Mod.trans hw HWL2.out (fun i hi h => by omega)⟩
end Go.Proofs.YtkkaejbdekdljaaDoor
