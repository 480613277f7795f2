/- Words and walks, part 11 of 19. -/
import Derived.RegionTactic
import Derived.Deep.QuietTactic
import Derived.BigQuiet
import Derived.Deep.MidRow
import Derived.Deep.WholeRow
import Derived.Test.YtkkaejbdekdljaaDoorQ1
import Derived.Test.YtkkaejbdekdljaaDoorQ4
import Derived.Test.YtkkaejbdekdljaaDoorQ6
import Derived.Test.YtkkaejbdekdljaaDoorQ7
import Derived.Test.YtkkaejbdekdljaaDoorQ9
import Derived.Test.YtkkaejbdekdljaaDoorQ10
/- Walks: the document's order and Order. -/
set_option linter.unusedVariables false
set_option linter.unusedSimpArgs false
namespace Go.Proofs.YtkkaejbdekdljaaDoor
open Go.RowKit

/-- What the document's order answers. -/
def RefOrdPost (w : World) (n : Nat) (l : List (Int × Int)) (pr : Nat → Int) (e : Ending) (w' : World) : Prop :=
  ∃ v b, e = .returned (.tuple #[v, .bool b]) ∧ b = decide ((ordered l pr n).length = n) ∧ (b = true → w'.ownsRow w.heap.size 3 1 v (ordered l pr n).length (nats (ordered l pr n))) ∧ New w w'

set_option maxRecDepth 100000 in
set_option maxHeartbeats 4000000 in
theorem refOrder0_any (n : Nat) (A P : Option Addr) (m c pc : Nat) (l : List (Int × Int)) (prio : List Int) (w : World) (hn : n ≤ 4096) (ha : Sl w A m 2 (twos l)) (hin : ∀ p, p ∈ l → 0 ≤ p.1 ∧ p.1 < n ∧ 0 ≤ p.2 ∧ p.2 < n)
    (hp : Sl w P n 1 (nums prio)) (hm4 : m ≤ 4294967296) :
    Calls Tryd.prog 45 #[.int .i64 (n : Int), .slice A m c, .slice P n pc] w (RefOrdPost w n l (prioOf prio)) := by
  have hl : l.length = m := by have := ha.len; rw [twos_length] at this; omega
  have HL := Lib.hid hl
  have HI := Lib.hid hin
  clear hl hin
  have hmk := run_mk_ints Tryd.slt24 (by kernel_rfl) n (by omega)
  have hmk3 := run_mk_slices (z0 := .bool false) (bytes := 1) (e := 4) (t := 110) ⟨Tryd.underlying110, ⟨.bool false, by kernel_rfl, rfl⟩, by decide, by decide⟩ (by kernel_rfl) rfl n (by omega) (by omega)
  go_enter Tryd.func45, Tryd.ntmps45
  go_wp2
  have hgd0 : Blk ((w.alloc (.cells (nats (List.replicate n 0)).toArray 3)).alloc (.cells (List.replicate n (Value.bool false)).toArray 4)) (w.heap.size + 1) 4 (stands n []) := by
    have e : stands n [] = List.replicate n (Value.bool false) := by simp [stands, List.map_const']
    have := Blk.new (w.alloc (.cells (nats (List.replicate n 0)).toArray 3)) 4 (List.replicate n (Value.bool false))
    rw [e]; simpa using this
  have HGD0 := Lib.hid hgd0
  clear hgd0
  go_loopw [10] (fun i wr => ∃ (k : Nat) (ws : List Nat), k ≤ m ∧ i = .int .i64 (k : Int) ∧ ws.length = n ∧ (∀ i, i < n → at_ ws i = (l.take k).countP fun p => p.2.toNat == i) ∧ Blk wr w.heap.size 3 (nats ws) ∧ Blk wr (w.heap.size + 1) 4 (stands n []) ∧ New w wr) (fun i _ => m - (intOf i).toNat)
  case atStart => exact ⟨0, _, Nat.zero_le _, rfl, by simp, fun i hi => by simp [at_repl], (Blk.new _ _ _).alloc _, HGD0.out, ((Mod.refl _ _).alloc _).alloc _⟩
  case round =>
    obtain ⟨k, ws, hk, rfl, hwl, hwa, hg1, hg2, hw⟩ := hrel
    have HWL := Lib.hid hwl
    have HWA := Lib.hid hwa
    clear hwl hwa
    have hs1 := hg1.lt
    have hs2 := hg2.lt
    by_cases hlt : k < m
    · obtain ⟨b, off, p, rfl, hp', hc0, hc1⟩ := (ha.new_ hw).two hlt
      have hpm : p ∈ l := List.mem_of_getElem? hp'
      have hpin := HI.out p hpm
      obtain ⟨x, y⟩ := p
      obtain ⟨x, rfl⟩ := Int.eq_ofNat_of_zero_le hpin.1
      obtain ⟨y, rfl⟩ := Int.eq_ofNat_of_zero_le hpin.2.2.1
      have hx : x < n := by have := hpin.2.1; simpa using this
      have hy : y < n := by have := hpin.2.2.2; simpa using this
      have HP := Lib.hid hp'
      clear hp' hpm hpin
      have cw := hg1.nat (k := y) (by have := HWL.out; omega)
      have fw := hg1.frozen y
      have hwz : at_ ws y ≤ 4294967296 := by
        have h1 := HWA.out y hy
        have h2 : (l.take k).countP (fun p => p.2.toNat == y) ≤ (l.take k).length := List.countP_le_length
        have h3 : (l.take k).length ≤ k := List.length_take_le _ _
        omega
      go_wp2
      go_region
      all_goals
        go_wp2
        go_roundw
        case rel =>
          refine ⟨k + 1, ws.set y (at_ ws y + 1), by omega, by go_num, by simp; exact HWL.out, fun i hi => ?_, ?_, ?_, ?_⟩
          · rw [at_set _ _ _ (by have := HWL.out; omega), cntall_take l k _ HP.out i]
            by_cases e : i = y
            · subst e; rw [put_same, HWA.out i hi]; simp
            · rw [put_other _ _ e, HWA.out i hi]; simp; omega
          · have := hg1.set_ y (.int .i64 ((at_ ws y + 1 : Nat) : Int))
            rw [nats_set] at this
            have e : ((at_ ws y + 1 : Nat) : Int) = (at_ ws y : Int) + 1 := by omega
            rw [e] at this
            exact this
          · exact hg2.far (p := ⟨w.heap.size, y, none⟩) (by simp) _
          · exact (hw.set_ (p := ⟨w.heap.size, y, none⟩) (fun h => by simp at h) _).drew
        case measure => simp [intOf]; omega
    · obtain ⟨wo, rfl⟩ : ∃ wo : World, wo = wr := ⟨_, rfl⟩
      obtain ⟨ws0, rfl⟩ : ∃ x, x = ws := ⟨_, rfl⟩
      have hS0 : Sits wo w.heap.size (w.heap.size + 1) n l [] ws0 := ⟨HWL.out, fun i hi => by
        rw [cnt_nil, HWA.out i hi, List.take_of_length_le (by have := HL.out; omega)], hg1, hg2⟩
      have HS0 := Lib.hid hS0
      clear hS0
      go_wp2
      have HW0 := Lib.hid ((Mod.refl (fun b => b = w.heap.size ∨ b = w.heap.size + 1) wo))
      go_loopg [11] n (fun gk v wl => ∃ (j : Nat) (out ws : List Nat), gk = n - j ∧ j ≤ n ∧ wl.ownsRow wo.heap.size 3 1 v j (nats out) ∧ out.length = j ∧ Stand n out ∧ run l (prioOf prio) n (n - j) out = ordered l (prioOf prio) n ∧
        Sits wl w.heap.size (w.heap.size + 1) n l out ws ∧ Mod (fun b => b = w.heap.size ∨ b = w.heap.size + 1) wo wl)
      case atStart => exact ⟨0, [], ws0, by omega, Nat.zero_le _, own_nil _ _ _ _, rfl, ⟨fun b hb => by simp at hb, by simp⟩, rfl, HS0.out, by have := HW0.out; simpa using this⟩
      case round =>
        obtain ⟨j, out, ws, hgk, hj, hown, hol, hst, hrun, hsit, hwl⟩ := hrel
        obtain ⟨OA, oc, rfl⟩ := own_shape hown
        have HGK := Lib.hid hgk
        have HOL := Lib.hid hol
        have HST := Lib.hid hst
        have HRUN := Lib.hid hrun
        have HSIT := Lib.hid hsit
        have HWL2 := Lib.hid hwl
        clear hgk hol hst hrun hsit hwl
        by_cases hjn : j < n
        · go_wp2
          obtain ⟨wl, rfl⟩ : ∃ wl : World, wl = wr := ⟨_, rfl⟩
          have hnw : New w wl := Mod.trans hw HWL2.out (fun i hi h => by omega)
          have HNW := Lib.hid hnw
          clear hnw
          go_loopw [12, 13] (fun best i wb => ∃ (k : Nat) (q : Int), k ≤ n ∧ i = .int .i64 (k : Int) ∧ best = .int .i64 q ∧ q = pickInt (pick (ready l out) (prioOf prio) k) ∧ New wl wb) (fun _ i _ => n - (intOf i).toNat)
          case atStart => exact ⟨0, -1, Nat.zero_le _, rfl, rfl, rfl, Mod.refl _ _⟩
          case round =>
            obtain ⟨i, q, hi, rfl, rfl, hq, hnb⟩ := hrel
            by_cases hin : i < n
            · have hS := HSIT.out.new_ hnb
              have cd := hS.dblk.cell i
              rw [stands_at out hin] at cd
              have cwt := hS.wblk.nat (k := i) (by have := hS.wlen; omega)
              rw [hS.wat i hin] at cwt
              obtain ⟨pb, poff, rfl, hpr⟩ := (hp.new_ (New.trans HNW.out hnb)).prio hin
              have cp := hpr i hin
              have HPR := Lib.hid hpr
              have HQ := Lib.hid hq
              clear hS hpr hq
              cases hc : out.contains i with
              | true =>
                have HS := Lib.hid (show pick (ready l out) (prioOf prio) (i + 1) = pick (ready l out) (prioOf prio) i from pick_skip (by simp only [ready, hc]; rfl))
                rw [hc] at cd
                clear hc
                go_wp2
                go_quiet (fail)
                go_wp2
                go_roundw
                case rel => exact ⟨i + 1, q, by omega, by go_num, rfl, by rw [HQ.out, HS.out], hnb.drewN _⟩
                case measure => simp [intOf]; omega
              | false =>
                rw [hc] at cd
                by_cases h0 : cnt l out i = 0
                · have hr : ready l out i = true := by simp only [ready, hc, h0]; rfl
                  have HR := Lib.hid hr
                  rw [h0] at cwt
                  clear hc h0 hr
                  cases hpk : pick (ready l out) (prioOf prio) i with
                  | none =>
                    obtain rfl : q = -1 := by rw [HQ.out, hpk]; rfl
                    have HS := Lib.hid (pick_first (prio := prioOf prio) HR.out hpk)
                    clear hpk
                    go_wp2
                    go_quiet (fail)
                    go_wp2
                    go_roundw
                    case rel => exact ⟨i + 1, i, by omega, by go_num, rfl, by rw [HS.out]; rfl, hnb.drewN _⟩
                    case measure => simp [intOf]; omega
                  | some b =>
                    obtain rfl : q = b := by rw [HQ.out, hpk]; rfl
                    have hbn : b < n := by have := (pick_lt hpk).1; omega
                    have cb := HPR.out b hbn
                    by_cases hbi : prioOf prio b < prioOf prio i
                    · have HS := Lib.hid (pick_more (prio := prioOf prio) HR.out hpk hbi)
                      clear hpk
                      go_wp2
                      go_quiet (fail)
                      go_wp2
                      go_roundw
                      case rel => exact ⟨i + 1, i, by omega, by go_num, rfl, by rw [HS.out]; rfl, hnb.drewN _⟩
                      case measure => simp [intOf]; omega
                    · have HS := Lib.hid (pick_stay (r := ready l out) (prio := prioOf prio) hpk hbi)
                      clear hpk
                      go_wp2
                      go_quiet (fail)
                      go_wp2
                      go_roundw
                      case rel => exact ⟨i + 1, b, by omega, by go_num, rfl, by rw [HS.out]; rfl, hnb.drewN _⟩
                      case measure => simp [intOf]; omega
                · have HS := Lib.hid (show pick (ready l out) (prioOf prio) (i + 1) = pick (ready l out) (prioOf prio) i from pick_skip (by simp [ready, h0]))
                  have h0' : ((cnt l out i : Int) == 0) = false := by simp; omega
                  have HZ := Lib.hid h0
                  clear hc h0
                  go_wp2
                  go_quiet (fail)
                  go_wp2
                  go_roundw
                  case rel => exact ⟨i + 1, q, by omega, by go_num, rfl, by rw [HQ.out, HS.out], hnb.drewN _⟩
                  case measure => simp [intOf]; omega
            · obtain rfl : i = n := by omega
              cases hpk : pick (ready l out) (prioOf prio) i with
              | none =>
                obtain rfl : q = -1 := by rw [hq, hpk]; rfl
                have hfin : ordered l (prioOf prio) i = out := by rw [← HRUN.out, run_none hpk]
                have HFIN := Lib.hid hfin
                clear hq hpk hfin
                go_wp2
                go_ret2
                exact ⟨_, false, rfl, by rw [HFIN.out, HOL.out]; simp; omega, (fun h => by cases h), New.trans HNW.out hnb⟩
              | some b =>
                obtain rfl : q = b := by rw [hq, hpk]; rfl
                have hbn := (pick_lt hpk).1
                have HRD := Lib.hid (ready_not (pick_lt hpk).2)
                have HPK := Lib.hid hpk
                have hS := HSIT.out.new_ hnb
                have cd := hS.dblk.cell b
                rw [stands_at out hbn] at cd
                have fd := hS.dblk.frozen b
                have hgdl := hS.dblk.lt
                have hgwl := hS.wblk.lt
                have HS := Lib.hid hS
                have hown1 := own_mod (S := (· = w.heap.size + 1)) (own_new hown hnb) (mod_set wr (w.heap.size + 1) b (.bool true)) (fun x hx => by have := (hown.lt x hx).1; omega)
                clear hq hpk hS
                go_wp2_with (at_builtin; refine wpList_app Tryd.slt24 rfl (.tmp 83) (.tmp 85) rfl wo.heap.size _ j _ rfl (hown1.alloc _) ⟨wr.heap.size, 0, none⟩ 1 1 [.int .i64 (b : Int)] rfl rfl ?c0 ?c1 ?c2 ?c3 ?_)
                case c0 => have := cells_new (wr.setCell ⟨w.heap.size + 1, b, none⟩ (.bool true)) [.int .i64 (b : Int)] 3; simpa using this
                case c1 => simp [Value.oneCell']
                case c2 => omega
                case c3 => simp; have := (New.trans HNW.out hnb).size; have := HWL2.out.size; have := hnb.size; omega
                intro v' w2 hown2 hg2' hat2
                have m1 : Mod (· = w.heap.size + 1) wr ((wr.setCell ⟨w.heap.size + 1, b, none⟩ (.bool true)).alloc (.cells #[.int .i64 (b : Int)] 3)) := (mod_set wr (w.heap.size + 1) b (.bool true)).alloc _
                have m2 : Mod (fun x => (Value.slice OA j oc).ownBlock = some x) ((wr.setCell ⟨w.heap.size + 1, b, none⟩ (.bool true)).alloc (.cells #[.int .i64 (b : Int)] 3)) w2 := Mod.of_grown hg2' (fun _ h => h)
                have hge : ∀ x, (Value.slice OA j oc).ownBlock = some x → wo.heap.size ≤ x := fun x hx => (hown.lt x hx).1
                have hD2 : Blk w2 (w.heap.size + 1) 4 (stands i (out ++ [b])) := by
                  have := ((HS.out.dblk.set_ b (.bool true)).alloc (.cells #[.int .i64 (b : Int)] 3)).kept m2 (fun h => by have := hge _ h; omega)
                  rwa [stands_set _ hbn] at this
                have hW2 : Blk w2 w.heap.size 3 (nats ws) := (HS.out.wblk.kept m1 (fun h => by omega)).kept m2 (fun h => by have := hge _ h; omega)
                have hA2 : New w w2 := Mod.trans (Mod.trans (New.trans HNW.out hnb) m1 (fun x hx h => by omega)) m2 (fun x hx h => by have := hge x h; omega)
                have HD2 := Lib.hid hD2
                have HO2 := Lib.hid hown2
                have HM1 := Lib.hid m1
                have HM2 := Lib.hid m2
                have HA2 := Lib.hid hA2
                have hgwl2 := hW2.lt
                clear hD2 hown2 m1 m2 hg2' hat2 hown1 cd fd hA2
                go_wp2
                go_loopw [14] (fun i' wi => ∃ (t : Nat) (ws' : List Nat), t ≤ m ∧ i' = .int .i64 (t : Int) ∧ ws'.length = i ∧ (∀ z, z < i → at_ ws' z + fromTo (l.take t) b z = cnt l out z) ∧ Blk wi w.heap.size 3 (nats ws') ∧ Mod (· = w.heap.size) w2 wi) (fun i' _ => m - (intOf i').toNat)
                case atStart => exact ⟨0, ws, Nat.zero_le _, rfl, HS.out.wlen, fun z hz => by simp [fromTo]; exact HS.out.wat z hz, hW2, Mod.refl _ _⟩
                case round =>
                  obtain ⟨t, ws', ht, rfl, hwl', hwz, hwb, hmi⟩ := hrel
                  have HWL' := Lib.hid hwl'
                  have HWZ := Lib.hid hwz
                  clear hwl' hwz
                  by_cases htl : t < m
                  · obtain ⟨ab, aoff, p, rfl, hp', hc0, hc1⟩ := (ha.new_ (Mod.trans HA2.out hmi (fun x hx h => by omega))).two htl
                    have hpm : p ∈ l := List.mem_of_getElem? hp'
                    have hpin := HI.out p hpm
                    obtain ⟨x, y⟩ := p
                    obtain ⟨x, rfl⟩ := Int.eq_ofNat_of_zero_le hpin.1
                    obtain ⟨y, rfl⟩ := Int.eq_ofNat_of_zero_le hpin.2.2.1
                    have hx : x < i := by have := hpin.2.1; simpa using this
                    have hy : y < i := by have := hpin.2.2.2; simpa using this
                    have HP := Lib.hid hp'
                    have hfs : ∀ z, fromTo (l.take (t + 1)) b z = fromTo (l.take t) b z + (if x = b ∧ y = z then 1 else 0) := fun z => by
                      rw [List.take_add_one, hp']; simpa using fromTo_snoc (l.take t) ((x : Int), (y : Int)) b z
                    have HFS := Lib.hid hfs
                    clear hp' hpm hpin hfs
                    by_cases hxb : x = b
                    · subst hxb
                      have hdd : ((x : Int) == (x : Int)) = true := by simp
                      have cx := hwb.nat (k := y) (by have := HWL'.out; omega)
                      have fx := hwb.frozen y
                      have hp2 := HWZ.out y hy
                      have hp3 : 1 ≤ at_ ws' y := by
                        have h1 := HFS.out y
                        simp at h1
                        have h2 := fromTo_take_le l (t + 1) x y
                        have h3 := cnt_snoc (l := l) HRD.out y
                        omega
                      have hp4 : at_ ws' y ≤ m := by
                        have h1 : cnt l out y ≤ l.length := List.countP_le_length
                        have := HL.out
                        omega
                      clear hp2
                      go_wp2
                      go_region
                      all_goals
                        go_wp2
                        go_roundw
                        case rel => exact ⟨t + 1, ws'.set y (at_ ws' y - 1), by omega, by go_num, by simp; exact HWL'.out, fun z hz => by
                          rw [at_set _ _ _ (by have := HWL'.out; omega), HFS.out z]
                          have h1 := HWZ.out z hz
                          by_cases e : z = y
                          · subst e; rw [put_same, if_pos (by simp)]; omega
                          · rw [put_other _ _ e, if_neg (fun h => e h.2.symm)]; omega, by
                          have := hwb.set_ y (.int .i64 ((at_ ws' y - 1 : Nat) : Int))
                          rw [nats_set] at this
                          have e : ((at_ ws' y - 1 : Nat) : Int) = (at_ ws' y : Int) - 1 := by omega
                          rw [e] at this
                          exact this, (Mod.trans hmi (mod_set _ _ _ _) (fun _ _ h => h)).drew⟩
                        case measure => simp [intOf]; omega
                    · have hdd : ((x : Int) == (b : Int)) = false := by simp; omega
                      have HXB := Lib.hid hxb
                      clear hxb
                      go_wp2
                      go_roundw
                      case rel => exact ⟨t + 1, ws', by omega, by go_num, HWL'.out, fun z hz => by rw [HFS.out z, if_neg (fun h => HXB.out h.1)]; exact HWZ.out z hz, hwb, hmi⟩
                      case measure => simp [intOf]; omega
                  · go_wp2
                    go_roundg (i - (j + 1))
                    case measure => have := HGK.out; omega
                    case rel => exact ⟨j + 1, out ++ [b], ws', rfl, by omega, by
                      rw [show nats (out ++ [b]) = nats out ++ [.int .i64 (b : Int)] from by simp [nats]]
                      exact own_mod HO2.out hmi (fun x hx h => by have := (HO2.out.lt x hx).1; omega), by simp; exact HOL.out, HST.out.snoc hbn HRD.out, by
                      rw [← HRUN.out, show i - j = (i - (j + 1)) + 1 from by omega, run_some HPK.out], ⟨HWL'.out, fun z hz => by
                        have h1 := HWZ.out z hz
                        rw [List.take_of_length_le (by have := HL.out; omega)] at h1
                        have h2 := cnt_snoc (l := l) HRD.out z
                        omega, hwb, HD2.out.kept hmi (fun h => by omega)⟩, by
                      have q1 := Mod.trans HWL2.out hnb (fun _ _ h => h.elim)
                      have q2 := Mod.trans q1 HM1.out (fun _ _ h => .inr h)
                      have q3 := Mod.trans q2 HM2.out (fun x hx h => by have := hge x h; omega)
                      exact Mod.trans q3 hmi (fun _ _ h => .inl h)⟩
        · obtain rfl : j = n := by omega
          have hfin : ordered l (prioOf prio) j = out := by rw [← HRUN.out]; simp [run]
          have HFIN := Lib.hid hfin
          clear hfin
          go_wp2
          go_ret2
          exact ⟨_, true, rfl, by rw [HFIN.out, HOL.out]; simp, fun _ => by rw [HFIN.out, HOL.out]; exact own_mono hown hw.size, Mod.trans hw HWL2.out (fun i hi h => by omega)⟩
end Go.Proofs.YtkkaejbdekdljaaDoor
/- Walks: custodyref23.lists. -/
set_option linter.unusedVariables false
set_option linter.unusedSimpArgs false
namespace Go.Proofs.YtkkaejbdekdljaaDoor
open Go.RowKit

/-- Slices that own these lists. -/
def ReadRows (w : World) (B : Nat) (us : List Value) (ls : List (List Nat)) : Prop := us.length = ls.length ∧ ∀ (i : Nat) (v : Value) (l : List Nat), us[i]? = some v → ls[i]? = some l → w.ownsRow B 3 1 v l.length (nats l)
def intsOf (l : List Nat) : List Int := l.map fun x : Nat => (x : Int)
theorem cells_ints (l : List Nat) : cellsL encInts (intsOf l) = nats l := by
  induction l with
  | nil => rfl
  | cons a l ih => simp only [intsOf, cellsL, List.map_cons, List.flatMap_cons, nats] at ih ⊢; rw [ih]; rfl
theorem ReadRows.nil (w : World) (B : Nat) : ReadRows w B [] [] := ⟨rfl, fun i v l h => by simp at h⟩
theorem ReadRows.new_ {w w' : World} {B : Nat} {us : List Value} {ls : List (List Nat)} (h : ReadRows w B us ls) (hm : New w w') : ReadRows w' B us ls := ⟨h.1, fun i v l hv hl => own_new (h.2 i v l hv hl) hm⟩
theorem ReadRows.grown {w w' : World} {B C m : Nat} {us xs : List Value} {ls : List (List Nat)} {o : Value} (h : ReadRows w B us ls) (ho : w.ownsRow C 24 1 o m xs) (hg : w.grownBy w' o.ownBlock) : ReadRows w' B us ls :=
  ⟨h.1, fun i v l hv hl => (h.2 i v l hv hl).kept hg (own_type_ne (h.2 i v l hv hl) ho (by decide))⟩
theorem ReadRows.snoc {w : World} {B : Nat} {us : List Value} {ls : List (List Nat)} {v : Value} {l : List Nat} (h : ReadRows w B us ls) (hv : w.ownsRow B 3 1 v l.length (nats l)) : ReadRows w B (us ++ [v]) (ls ++ [l]) := by
  refine ⟨by simp [h.1], fun i u m hu hm => ?_⟩
  by_cases hi : i < us.length
  · rw [List.getElem?_append_left hi] at hu
    rw [List.getElem?_append_left (by rw [← h.1]; exact hi)] at hm
    exact h.2 i u m hu hm
  · have hi2 : i = us.length := by have := (List.getElem?_eq_some_iff.1 hu).1; simp at this; omega
    subst hi2
    rw [List.getElem?_append_right (Nat.le_refl _), Nat.sub_self] at hu
    rw [h.1, List.getElem?_append_right (Nat.le_refl _), Nat.sub_self] at hm
    simp at hu hm
    subst hu hm
    exact hv
theorem ReadRows.nest {w : World} {B n : Nat} {A : Option Addr} {us : List Value} {ls : List (List Nat)} (h : ReadRows w B us ls) (ho : Sl w A n 1 us) : Nest encInts 1 w A n us (ls.map intsOf) :=
  ⟨ho, by rw [List.length_map, ← h.1]; have := ho.len; omega, fun i v l hv hl => by
    rw [List.getElem?_map] at hl
    obtain ⟨m, hm, rfl⟩ := Option.map_eq_some_iff.1 hl
    have h0 := h.2 i v m hv hm
    obtain ⟨R, c, rfl⟩ := own_shape h0
    refine ⟨R, c, by simp [intsOf], ?_⟩
    rw [cells_ints]
    simpa [intsOf] using own_sl h0⟩
/-- The lists of an order. -/
def listsOf (R : Nat → Nat) (n : Nat) (OL : List Nat) : List (List Nat) := (OL.filter (isHead R)).map (mem R n)
theorem listsOf_snoc_head {R : Nat → Nat} {n x : Nat} {OL : List Nat} (h : isHead R x = true) : listsOf R n (OL ++ [x]) = listsOf R n OL ++ [mem R n x] := by simp [listsOf, h]
theorem listsOf_snoc_other {R : Nat → Nat} {n x : Nat} {OL : List Nat} (h : isHead R x = false) : listsOf R n (OL ++ [x]) = listsOf R n OL := by simp [listsOf, h]
/-- What lists answers. -/
def ListsPost (r : List Nat) (E : List (Int × Int)) (ps : List Int) (n : Nat) (w : World) (e : Ending) (w' : World) : Prop :=
  New w w' ∧ (((ordered E (prioOf ps) n).length = n ∧ ∃ A c us, e = .returned (.tuple #[.slice A (listsOf (at_ r) n (ordered E (prioOf ps) n)).length c, .int .i64 0, .int .i64 0, .int .i64 0]) ∧
      Nest encInts 1 w' A (listsOf (at_ r) n (ordered E (prioOf ps) n)).length us ((listsOf (at_ r) n (ordered E (prioOf ps) n)).map intsOf)) ∨
    ((ordered E (prioOf ps) n).length ≠ n ∧ e = .returned (.tuple #[.slice none 0 0, .int .i64 12, .int .i64 0, .int .i64 0])))
theorem Sl.natAt {w : World} {A : Option Addr} {n : Nat} {r : List Nat} (h : Sl w A n 1 (nats r)) {k : Nat} (hk : k < n) : ∃ b off, A = some ⟨b, off, none⟩ ∧ ∀ i, i < n → w.cell? ⟨b, off + i, none⟩ = some (.int .i64 (at_ r i : Int)) := by
  obtain ⟨b, off, e, hc⟩ := h.cells (by omega)
  have hl : r.length = n := by have := h.len; simpa [nats] using this
  exact ⟨b, off, e, fun i hi => hc i _ (nats_at r i (by omega))⟩

theorem results_tmp4 {fn : Func} {t u v x : Tmp} (h : fn.results = #[.tmp t, .tmp u, .tmp v, .tmp x]) (tmps : Array Value) (P : Program) (w : World) :
    (results fn tmps).run P w = .ok (.tuple #[tmps.getD t undef, tmps.getD u undef, tmps.getD v undef, tmps.getD x undef]) w := by
  simp [results, h]

set_option maxRecDepth 100000 in
set_option maxHeartbeats 4000000 in
theorem lists_any (H E P : Option Addr) (n m hc ec pc : Nat) (r : List Nat) (l : List (Int × Int)) (ps : List Int) (w : World) (hn : n ≤ 4096) (hh : Sl w H n 1 (nats r)) (he : Sl w E m 2 (twos l)) (hin : ∀ p, p ∈ l → 0 ≤ p.1 ∧ p.1 < n ∧ 0 ≤ p.2 ∧ p.2 < n) (hp : Sl w P n 1 (nums ps)) (hm4 : m ≤ 4294967296) :
    Calls Tryd.prog 56 #[.slice H n hc, .slice E m ec, .slice P n pc] w (ListsPost r l ps n w) := by
  have hord := refOrder0_any n E P m ec pc l ps w hn he hin hp hm4
  have hst := ordered_stand l (prioOf ps) n
  have hrl : r.length = n := by have := hh.len; simpa [nats] using this
  unfold ListsPost
  obtain ⟨OL, hOL⟩ : ∃ OL, ordered l (prioOf ps) n = OL := ⟨_, rfl⟩
  rw [hOL] at hst ⊢
  have HST := Lib.hid hst
  have hOLl := stand_length hst
  have HRL := Lib.hid hrl
  by_cases hfull : OL.length = n
  · have hord2 : Calls Tryd.prog 45 #[.int .i64 (n : Int), .slice E m ec, .slice P n pc] w fun e w' => ∃ ov, e = .returned (.tuple #[ov, .bool true]) ∧ w'.ownsRow w.heap.size 3 1 ov OL.length (nats OL) ∧ New w w' := by
      refine hord.mono ?_
      rintro e w' ⟨ov, b, rfl, hb, hov, hw'⟩
      rw [hOL] at hb hov
      rw [decide_eq_true hfull] at hb
      exact ⟨ov, by rw [hb], hov hb, hw'⟩
    have HORD := Lib.hid hord2
    have HF := Lib.hid hfull
    clear hord hord2 hOL hst he hp hin hrl hfull
    go_enter Tryd.func56, Tryd.ntmps56
    go_wp2_with (go_at_call 45; refine HORD.out.mono ?_; rintro e w1 ⟨ov, rfl, hov, hw1⟩; obtain ⟨OA, oc, rfl⟩ := own_shape hov)
    have HOV := Lib.hid hov
    have HH1 := Lib.hid (hh.new_ hw1)
    have HW1 := Lib.hid hw1
    clear hov hh hw1
    go_loopw [12, 13] (fun v i wr => ∃ (k : Nat) (us : List Value), k ≤ OL.length ∧ i = .int .i64 (k : Int) ∧ wr.ownsRow w1.heap.size 24 1 v us.length us ∧ ReadRows wr w1.heap.size us (listsOf (at_ r) n (OL.take k)) ∧ New w1 wr) (fun _ i _ => OL.length - (intOf i).toNat)
    case atStart => exact ⟨0, [], Nat.zero_le _, rfl, own_nil _ _ _ _, ReadRows.nil _ _, Mod.refl _ _⟩
    case round =>
      obtain ⟨k, us, hk, rfl, hown, hrd, hw⟩ := hrel
      have HRD := Lib.hid hrd
      clear hrd
      by_cases hlt : k < OL.length
      · have hov := own_new HOV.out hw
        obtain ⟨gO, rfl, hgO, hgO2⟩ := own_form hov (by omega)
        have hcO := own_nat hov hlt
        have hxn : at_ OL k < n := by
          have h2 : at_ OL k = OL[k] := by simp [at_, List.getD_eq_getElem?_getD, List.getElem?_eq_getElem hlt]
          rw [h2]; exact HST.out.lt _ (List.getElem_mem hlt)
        obtain ⟨x, hx⟩ : ∃ x, at_ OL k = x := ⟨_, rfl⟩
        rw [hx] at hcO hxn
        have HX := Lib.hid (show OL.take (k + 1) = OL.take k ++ [x] by
          rw [List.take_add_one, List.getElem?_eq_getElem hlt, ← hx]
          simp [at_, List.getD_eq_getElem?_getD, List.getElem?_eq_getElem hlt])
        obtain ⟨b, off, rfl, hcs⟩ := (HH1.out.new_ hw).natAt hxn
        have hcx := hcs x hxn
        have hcs2 := hcs
        clear hcs hx
        have hul : us.length ≤ OL.length := by
          have h1 := HRD.out.1
          have h2 : (listsOf (at_ r) n (OL.take k)).length ≤ OL.length := by
            have h3 := List.length_filter_le (isHead (at_ r)) (OL.take k)
            have h4 := List.length_take_le k OL
            simp only [listsOf, List.length_map]; omega
          omega
        cases hhd : isHead (at_ r) x with
        | false =>
          have hd : ((at_ r x : Int) != (x : Int)) = true := by
            have : at_ r x ≠ x := by simpa [isHead] using hhd
            simp; omega
          have HL := Lib.hid (listsOf_snoc_other (n := n) (OL := OL.take k) hhd)
          clear hhd hov
          go_wp2
          go_quiet (fail)
          go_wp2
          go_roundw
          case rel => exact ⟨k + 1, us, by omega, by go_num, own_new hown ((Mod.refl _ _).drewN _), by rw [HX.out, HL.out]; exact HRD.out.new_ ((Mod.refl _ _).drewN _), hw.drewN _⟩
          case measure => simp [intOf]; omega
        | true =>
          have hd : ((at_ r x : Int) != (x : Int)) = false := by
            have : at_ r x = x := by simpa [isHead] using hhd
            simp; omega
          have HL := Lib.hid (listsOf_snoc_head (n := n) (OL := OL.take k) hhd)
          clear hhd hov
          have HHX := Lib.hid (show ∀ i, i < n → wr.cell? ⟨b, off + i, none⟩ = some (.int .i64 (at_ r i : Int)) from hcs2)
          clear hcs2
          obtain ⟨wo, rfl⟩ : ∃ wo : World, wo = wr := ⟨_, rfl⟩
          go_wp2
          go_quiet (fail)
          go_wp2
          go_loopw [14, 15] (fun v j wx => ∃ k' : Nat, k' ≤ n ∧ j = .int .i64 (k' : Int) ∧ wx.ownsRow wo.heap.size 3 1 v (mem (at_ r) k' x).length (nats (mem (at_ r) k' x)) ∧ New wo wx) (fun _ j _ => n - (intOf j).toNat)
          case atStart => exact ⟨0, Nat.zero_le _, rfl, own_nil _ _ _ _, (Mod.refl _ _).drewN _⟩
          case round =>
            obtain ⟨k', hk', rfl, hown2, hwx⟩ := hrel
            by_cases hlt' : k' < n
            · have hc1 := hwx.cell hcO (fun h => h)
              have hc2 := hwx.cell (HHX.out k' hlt') (fun h => h)
              have hml := mem_length_le (at_ r) k' x
              by_cases he : at_ r k' = x
              · have hd : ((at_ r k' : Int) == (x : Int)) = true := by simp; omega
                have HM := Lib.hid (show mem (at_ r) (k' + 1) x = mem (at_ r) k' x ++ [k'] by rw [mem_succ, if_pos he])
                clear he
                go_wp2
                go_quiet (fail)
                go_wp2_with (at_builtin; refine wpList_app Tryd.slt24 rfl (.tmp 59) (.tmp 61) rfl wo.heap.size _ (mem (at_ r) k' x).length (nats (mem (at_ r) k' x)) rfl ((own_new hown2 ((Mod.refl _ _).drewN _)).alloc _) ⟨wr.heap.size, 0, none⟩ 1 1 [.int .i64 (k' : Int)] rfl rfl (cells_new _ _ _) ?c1 ?c2 ?c3 ?_)
                case c1 => simp [Value.oneCell']
                case c2 => omega
                case c3 => have := hwx.size; first | omega | (simp; omega)
                intro v8 w8 hown8 hg8 hbl8
                have hz8 : New wo w8 := New.grown ((hwx.drewN _).alloc _) ((own_new hown2 ((Mod.refl _ _).drewN _)).alloc _) (Nat.le_refl _) hg8
                clear hg8 hbl8
                go_wp2
                go_roundw
                case rel => exact ⟨k' + 1, by omega, by go_num, by rw [HM.out, nats_append, List.length_append]; exact hown8, hz8⟩
                case measure => simp [intOf]; omega
              · have hd : ((at_ r k' : Int) == (x : Int)) = false := by simp; omega
                have HM := Lib.hid (show mem (at_ r) (k' + 1) x = mem (at_ r) k' x by rw [mem_succ, if_neg he, List.append_nil])
                clear he
                go_wp2
                go_quiet (fail)
                go_wp2
                go_roundw
                case rel => exact ⟨k' + 1, by omega, by go_num, by rw [HM.out]; exact own_new hown2 ((Mod.refl _ _).drewN _), hwx.drewN _⟩
                case measure => simp [intOf]; omega
            · obtain rfl : n = k' := by omega
              obtain ⟨LA, lc, rfl⟩ := own_shape hown2
              have hown3 := own_new hown hwx
              have hml := mem_length_le (at_ r) n x
              go_wp2_with (at_builtin; go_must (refine wpList_app Tryd.slt35 rfl (.tmp 63) (.tmp 65) rfl w1.heap.size _ us.length us rfl (hown3.alloc _) ⟨wr.heap.size, 0, none⟩ 1 1 [.slice LA (mem (at_ r) n x).length lc] rfl rfl (cells_new _ _ _) ?c1 ?c2 ?c3 ?_))
              case c1 => simp [Value.oneCell']
              case c2 => omega
              case c3 => have := hwx.size; have := hw.size; first | omega | (simp; omega)
              intro v8 w8 hown8 hg8 hbl8
              have hz8 : New w1 w8 := New.grown ((New.trans hw hwx).alloc _) (hown3.alloc _) (Nat.le_refl _) hg8
              have hrd8 := (((HRD.out.new_ hwx).new_ ((Mod.refl (fun _ => False) wr).alloc (.cells #[.slice LA (mem (at_ r) n x).length lc] 24))).snoc ((own_mono hown2 hw.size).alloc _)).grown (hown3.alloc _) hg8
              have HRD8 := Lib.hid hrd8
              clear hg8 hbl8 hrd8
              go_wp2
              go_roundw
              case rel => exact ⟨k + 1, us ++ [.slice LA (mem (at_ r) n x).length lc], by omega, by go_num, by rw [List.length_append]; exact hown8, by rw [HX.out, HL.out]; exact HRD8.out, hz8⟩
              case measure => simp [intOf]; omega
      · obtain rfl : k = OL.length := by omega
        have hrd := HRD.out
        rw [List.take_length] at hrd
        have hul := hrd.1
        obtain ⟨VA, vc, rfl⟩ := own_shape hown
        rw [hul] at hown
        have HRD2 := Lib.hid hrd
        rw [hul]
        clear hrd hul
        go_wp2
        (try simp only [Exit.inBlock, Exit.then])
        refine bodyPost_ret (results_tmp4 rfl _ _ _) rfl ?_
        exact ⟨New.trans HW1.out hw, .inl ⟨HF.out, _, _, us, rfl, HRD2.out.nest (own_sl hown)⟩⟩
  · have hord2 : Calls Tryd.prog 45 #[.int .i64 (n : Int), .slice E m ec, .slice P n pc] w fun e w' => ∃ ov, e = .returned (.tuple #[ov, .bool false]) ∧ New w w' := by
      refine hord.mono ?_
      rintro e w' ⟨ov, b, rfl, hb, hov, hw'⟩
      rw [hOL] at hb hov
      rw [decide_eq_false hfull] at hb
      exact ⟨ov, by rw [hb], hw'⟩
    have HORD := Lib.hid hord2
    have HF := Lib.hid hfull
    clear hord hord2 hOL hst he hp hin hrl hfull hh
    go_enter Tryd.func56, Tryd.ntmps56
    go_wp2_with (go_at_call 45; refine HORD.out.mono ?_; rintro e w1 ⟨ov, rfl, hw1⟩)
    (try simp only [Exit.inBlock, Exit.then])
    refine bodyPost_ret (results_tmp4 rfl _ _ _) rfl ?_
    exact ⟨hw1, .inr ⟨HF.out, rfl⟩⟩
end Go.Proofs.YtkkaejbdekdljaaDoor
/- Walks: SameNotice at two notices that are one but for where their links lie. -/
set_option linter.unusedVariables false
set_option linter.unusedSimpArgs false
namespace Go.Proofs.YtkkaejbdekdljaaDoor
open Go.RowKit

theorem Tryd.eqU8 (d : Nat) (a : Int) (w : World) : (Op.equalIn (d + 1) 5 (.int .u8 a) (.int .u8 a)).run Tryd.prog w = .ok true w := by
  simp [Op.equalIn, run_underlying Tryd.underlying5]
theorem eqItems_refl {P : Program} {d : Nat} {e : TypeId} {c : Nat} {xs : Array Value} {w : World} : ∀ (is : List Nat), (∀ j, j ∈ is → ∃ a, (part e xs (j * c)).run P w = .ok a w ∧ (Op.equalIn d e a a).run P w = .ok true w) → (Op.eqItems d e c xs xs is).run P w = .ok true w
  | [], _ => by simp [Op.eqItems]
  | j :: is, h => by
    obtain ⟨a, h1, h2⟩ := h j (by simp)
    simp only [Op.eqItems, Sem.run_bind, h1, Result.andThen_ok, h2, Bool.not_true, Bool.false_eq_true, if_false]
    exact eqItems_refl is fun j hj => h j (by simp [hj])
theorem Tryd.cellsU8 : Tryd.prog.cellsOf 5 = 1 := by kernel_rfl
theorem Tryd.neq12 (c : Code12) (w : World) : (binOp .neq 54 (.agg #[.int .u8 c.c0, .int .u8 c.c1, .int .u8 c.c2, .int .u8 c.c3, .int .u8 c.c4, .int .u8 c.c5, .int .u8 c.c6, .int .u8 c.c7, .int .u8 c.c8, .int .u8 c.c9, .int .u8 c.c10, .int .u8 c.c11])
    (.agg #[.int .u8 c.c0, .int .u8 c.c1, .int .u8 c.c2, .int .u8 c.c3, .int .u8 c.c4, .int .u8 c.c5, .int .u8 c.c6, .int .u8 c.c7, .int .u8 c.c8, .int .u8 c.c9, .int .u8 c.c10, .int .u8 c.c11])).run Tryd.prog w = .ok (.bool false) w := by
  have h : (Op.equalIn (9999 + 1) 54 (.agg #[.int .u8 c.c0, .int .u8 c.c1, .int .u8 c.c2, .int .u8 c.c3, .int .u8 c.c4, .int .u8 c.c5, .int .u8 c.c6, .int .u8 c.c7, .int .u8 c.c8, .int .u8 c.c9, .int .u8 c.c10, .int .u8 c.c11])
    (.agg #[.int .u8 c.c0, .int .u8 c.c1, .int .u8 c.c2, .int .u8 c.c3, .int .u8 c.c4, .int .u8 c.c5, .int .u8 c.c6, .int .u8 c.c7, .int .u8 c.c8, .int .u8 c.c9, .int .u8 c.c10, .int .u8 c.c11])).run Tryd.prog w = .ok true w := by
    obtain ⟨i, hi⟩ : ∃ i, Tryd.prog.info? 5 = some i := Option.isSome_iff_exists.1 (by kernel_rfl)
    rw [run_equalIn_array (P := Tryd.prog) w 9999 _ _ Tryd.underlying54 hi, Tryd.cellsU8]
    refine eqItems_refl _ fun j hj => ?_
    have hj : j < 12 := List.mem_range.1 hj
    match j, hj with
    | 0, _ => exact ⟨.int .u8 c.c0, by kernel_rfl, Tryd.eqU8 9998 _ w⟩
    | 1, _ => exact ⟨.int .u8 c.c1, by kernel_rfl, Tryd.eqU8 9998 _ w⟩
    | 2, _ => exact ⟨.int .u8 c.c2, by kernel_rfl, Tryd.eqU8 9998 _ w⟩
    | 3, _ => exact ⟨.int .u8 c.c3, by kernel_rfl, Tryd.eqU8 9998 _ w⟩
    | 4, _ => exact ⟨.int .u8 c.c4, by kernel_rfl, Tryd.eqU8 9998 _ w⟩
    | 5, _ => exact ⟨.int .u8 c.c5, by kernel_rfl, Tryd.eqU8 9998 _ w⟩
    | 6, _ => exact ⟨.int .u8 c.c6, by kernel_rfl, Tryd.eqU8 9998 _ w⟩
    | 7, _ => exact ⟨.int .u8 c.c7, by kernel_rfl, Tryd.eqU8 9998 _ w⟩
    | 8, _ => exact ⟨.int .u8 c.c8, by kernel_rfl, Tryd.eqU8 9998 _ w⟩
    | 9, _ => exact ⟨.int .u8 c.c9, by kernel_rfl, Tryd.eqU8 9998 _ w⟩
    | 10, _ => exact ⟨.int .u8 c.c10, by kernel_rfl, Tryd.eqU8 9998 _ w⟩
    | 11, _ => exact ⟨.int .u8 c.c11, by kernel_rfl, Tryd.eqU8 9998 _ w⟩
  simp only [binOp]
  simp [Op.equal, Op.maxDepth, h]

set_option maxHeartbeats 400000 in
theorem sameLinks_any (A B : Option Addr) (n c d : Nat) (l : List (Int × ByteArray)) (w : World) (ha : Sl w A n 2 (cellsL encLinks l)) (hb : Sl w B n 2 (cellsL encLinks l)) :
    Calls Tryd.prog 61 #[.slice A n c, .slice B n d] w fun e w' => e = .returned (.bool true) ∧ New w w' := by
  have hn := ha.le
  have hd : ((n : Int) != (n : Int)) = false := by simp
  go_enter Tryd.func61, Tryd.ntmps61
  go_wp2
  go_loopw [5] (fun i wr => ∃ k : Nat, k ≤ n ∧ i = .int .i64 k ∧ New w wr) (fun i _ => n - (intOf i).toNat)
  case atStart => exact ⟨0, Nat.zero_le _, rfl, Mod.refl _ _⟩
  case round =>
    obtain ⟨k, hk, rfl, hw⟩ := hrel
    by_cases hlt : k < n
    · obtain ⟨b1, o1, ⟨x0, x1⟩, rfl, hp, hc⟩ := (ha.new_ hw).elem encLinks_len (by decide) hlt
      obtain ⟨b2, o2, q, rfl, hq, hc'⟩ := (hb.new_ hw).elem encLinks_len (by decide) hlt
      rw [hp] at hq
      injection hq with hq
      subst hq
      have c0 := hc 0 _ rfl
      have c1 := hc 1 _ rfl
      have d0 := hc' 0 _ rfl
      have d1 := hc' 1 _ rfl
      simp only [Nat.add_zero] at c0 d0
      clear hp hc hc'
      go_wp2
      go_quiet (fail)
      go_wp2
      go_roundw
      case rel => exact ⟨k + 1, by omega, by go_num, hw.drewN _⟩
      case measure => simp [intOf]; omega
    · go_wp2
      go_ret
      exact ⟨rfl, hw⟩

set_option maxRecDepth 100000 in
set_option maxHeartbeats 4000000 in
theorem sameNotice_any (b : NoticeB) (R R' : Option Addr) (cap cap' : Nat) (l : List (Int × ByteArray)) (w : World) (ha : LinksOk w ⟨b, R, cap, l⟩) (hb : LinksOk w ⟨b, R', cap', l⟩) :
    Calls Tryd.prog 31 #[.agg (encNotice ⟨b, R, cap, l⟩).toArray, .agg (encNotice ⟨b, R', cap', l⟩).toArray] w fun e w' => e = .returned (.bool true) ∧ New w w' := by
  have hneq := Tryd.neq12 b.code
  unfold encNotice
  go_enter Tryd.func31, Tryd.ntmps31
  go_wp2_with (go_at_call 61; refine (sameLinks_any R R' _ cap cap' l _ (Sl.new_ ha (((Mod.refl _ _).alloc _).alloc _)) (Sl.new_ hb (((Mod.refl _ _).alloc _).alloc _))).mono ?_; rintro e w3 ⟨rfl, hw3⟩)
  go_ret
  exact ⟨rfl, New.trans (((Mod.refl _ _).alloc _).alloc _) hw3⟩
end Go.Proofs.YtkkaejbdekdljaaDoor
/- Walks: slices.ContainsFunc at the notices with too many links. -/
set_option linter.unusedVariables false
set_option linter.unusedSimpArgs false
namespace Go.Proofs.YtkkaejbdekdljaaDoor
open Go.RowKit

theorem tooMany_any (v : NoticeV) (w : World) (hv : v.links.length ≤ 9223372036854775807) :
    Calls Tryd.prog 73 #[.agg (encNotice v).toArray] w fun e w' => e = .returned (.bool (decide (16 < v.links.length))) ∧ New w w' := by
  unfold encNotice
  by_cases h : 16 < v.links.length
  · have hd := Lib.hid (show decide (16 < v.links.length) = true by simpa using h)
    go_enter Tryd.func73, Tryd.ntmps73
    go_wp2
    go_ret
    exact ⟨ret_bool (by rw [hd.out]; simp; omega), (Mod.refl _ _).alloc _⟩
  · have hd := Lib.hid (show decide (16 < v.links.length) = false by simpa using h)
    go_enter Tryd.func73, Tryd.ntmps73
    go_wp2
    go_ret
    exact ⟨ret_bool (by rw [hd.out]; simp; omega), (Mod.refl _ _).alloc _⟩
end Go.Proofs.YtkkaejbdekdljaaDoor
/- Words: a struct of many cells, loaded and stored whole. -/
set_option linter.unusedVariables false
set_option linter.unusedSimpArgs false
namespace Go.Proofs.YtkkaejbdekdljaaDoor
open Go.RowKit

section
variable {P : Program} {ops : Array Oper} {rest : List Oper} {op : Oper} {a : Act} {Q : Exit → Act → World → Prop} {w : World}
theorem wpList_load_cells (hgd : op.guard = none) (ty : TypeId) (x : Operand) (ho : op.op = .load ty x)
    (b o : Nat) (hx : a.eval x = .pointer (some ⟨b, o, none⟩)) (cs : List Value) (hc : ∀ j v, cs[j]? = some v → w.cell? ⟨b, o + j, none⟩ = some v)
    (d : TypeDesc) (hu : P.underlying ty = some d) (hd : d.isRow = true) (hi : (P.info? ty).map (·.size) = some cs.length)
    (h : wpList P ops Q rest (a.put op.dst (.agg cs.toArray)) w) : wpList P ops Q (op :: rest) a w := wpList_load_mid hgd ty x ho b o hx cs d hc hu hd hi h
theorem wpList_store_fresh {c : Array Value} {t : TypeId} (hgd : op.guard = none) (x y : Operand) (ho : op.op = .store t x y) (cs : List Value) (hx : a.eval x = .pointer (some ⟨w.heap.size, 0, none⟩)) (hy : a.eval y = .agg cs.toArray)
    (hi : (P.info? t).map (·.size) = some cs.length) (hz : c.size = cs.length) (h1 : ∀ u ∈ cs, u.oneCell' = true)
    (h : ∀ w', Blk w' w.heap.size t cs → New w w' → w'.heap.size = w.heap.size + 1 → wpList P ops Q rest (a.put op.dst undef) w') : wpList P ops Q (op :: rest) a (w.alloc (.cells c t)) := by
  refine wpList_plain hgd fun K hK => ?_
  unfold Oper.wp execOp
  simp only [ho, hx, hy, Instr.storeAt, Instr.sureAddr, Sem.run_bind, Sem.run_pure, Result.andThen_ok, run_storeVar_new w t c cs.toArray (by simpa using hi) (by simpa using hz) (all_oneCell_toArray h1)]
  exact hK _ _ (h _ (Blk.new w t cs) ((Mod.refl _ _).alloc _) (by simp))
end
end Go.Proofs.YtkkaejbdekdljaaDoor
