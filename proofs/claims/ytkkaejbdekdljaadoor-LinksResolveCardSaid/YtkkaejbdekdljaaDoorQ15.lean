/- Words and walks, part 15 of 19. -/
import Derived.Test.YtkkaejbdekdljaaDoorQ9
/- Walks: custodyref23.wrong. -/
set_option linter.unusedVariables false
set_option linter.unusedSimpArgs false
namespace Go.Proofs.YtkkaejbdekdljaaDoor
open Go.RowKit

def WrongPost (w : World) (x : Int × Nat × Nat) (e : Ending) (w' : World) : Prop := e = .returned (.tuple #[.int .i64 x.1, .int .i64 (x.2.1 : Int), .int .i64 (x.2.2 : Int)]) ∧ New w w'
def wrongTail : Option Nat → Option (Int × Nat × Nat) → Int × Nat × Nat
  | some i, _ => (11, 0, i)
  | none, some x => x
  | none, none => (0, 0, 0)
theorem wrong_tail {ls : List NoticeV} (h1 : ¬ 4096 < ls.length) (h2 : ls.any (fun v => decide (16 < v.links.length)) = false) : wrongOf ls = wrongTail (twiceFrom ls ls 0) (noticesBad ls ls 0) := by
  unfold wrongOf; rw [if_neg h1, if_neg (by rw [h2]; simp)]
  cases twiceFrom ls ls 0 <;> cases noticesBad ls ls 0 <;> rfl
set_option maxRecDepth 100000 in
set_option maxHeartbeats 4000000 in
theorem wrong_any (A : Option Addr) (n c : Nat) (ls : List NoticeV) (w : World) (ha : Notices w A n ls) :
    Calls Tryd.prog 54 #[.slice A n c] w (WrongPost w (wrongOf ls)) := by
  have hn := ha.sl.le
  have hlen := ha.len
  by_cases hbig : 4096 < n
  · have HP : ∀ w', New w w' → WrongPost w (wrongOf ls) (.returned (.tuple #[.int .i64 5, .int .i64 0, .int .i64 0])) w' := fun w' hw => ⟨by unfold wrongOf; rw [if_pos (by omega)]; rfl, hw⟩
    have HH := Lib.hid HP
    clear HP hlen
    go_enter Tryd.func54, Tryd.ntmps54
    go_wp2
    go_ret3
    exact HH.out _ (Mod.refl _ _)
  have HLEN := Lib.hid hlen
  cases hany : ls.any (fun v => decide (16 < v.links.length)) with
  | true =>
    have HP : ∀ w', New w w' → WrongPost w (wrongOf ls) (.returned (.tuple #[.int .i64 5, .int .i64 0, .int .i64 0])) w' := fun w' hw => ⟨by unfold wrongOf; rw [if_neg (by omega), if_pos hany]; rfl, hw⟩
    have HH := Lib.hid HP
    have HA := Lib.hid hany
    clear HP hlen hany
    go_enter Tryd.func54, Tryd.ntmps54
    go_wp2
    go_loopw [5] (fun i wr => ∃ k : Nat, k ≤ n ∧ i = .int .i64 (k : Int) ∧ (ls.drop k).any (fun v => decide (16 < v.links.length)) = true ∧ New w wr) (fun i _ => n - (intOf i).toNat)
    case atStart => exact ⟨0, Nat.zero_le _, rfl, HA.out, Mod.refl _ _⟩
    case round =>
      obtain ⟨k, hk, rfl, hf, hw⟩ := hrel
      by_cases hlt : k < n
      · obtain ⟨b, off, v, rfl, hp, hc⟩ := (ha.sl.new_ hw).elem encNotice_len (by decide) hlt
        have c0 := hc 26 _ rfl
        have hll := (ha.ok k v hp).le
        have hd := left_inner' hp
        rw [hd, List.any_cons] at hf
        by_cases h16 : 16 < v.links.length
        · clear hf hd hp hc
          go_wp2
          go_ret3
          exact HH.out _ hw
        · have hf2 : (ls.drop (k + 1)).any (fun v => decide (16 < v.links.length)) = true := by simpa [h16] using hf
          have HF := Lib.hid hf2
          clear hf hd hp hc hf2
          go_wp2
          go_roundw
          case rel => exact ⟨k + 1, by omega, by go_num, HF.out, hw⟩
          case measure => simp [intOf]; omega
      · exfalso
        rw [List.drop_of_length_le (by have := HLEN.out; omega)] at hf
        simp at hf
  | false =>
    have h16 : ∀ (i : Nat) (v : NoticeV), ls[i]? = some v → v.links.length ≤ 16 := fun i v hv => by
      have := List.any_eq_false.1 hany v (List.mem_of_getElem? hv)
      simpa using this
    have hwr := wrong_tail (ls := ls) (by omega) hany
    generalize htw : twiceFrom ls ls 0 = tw at hwr
    generalize hnb : noticesBad ls ls 0 = nb at hwr
    have H16 := Lib.hid h16
    have HTW := Lib.hid htw
    have HNB := Lib.hid hnb
    have HWR := Lib.hid hwr
    clear h16 htw hnb hwr hany hlen
    go_enter Tryd.func54, Tryd.ntmps54
    go_wp2
    go_loopw [5] (fun i wr => ∃ k : Nat, k ≤ n ∧ i = .int .i64 (k : Int) ∧ New w wr) (fun i _ => n - (intOf i).toNat)
    case atStart => exact ⟨0, Nat.zero_le _, rfl, Mod.refl _ _⟩
    case round =>
      obtain ⟨k, hk, rfl, hw⟩ := hrel
      by_cases hlt : k < n
      · obtain ⟨b, off, v, rfl, hp, hc⟩ := (ha.sl.new_ hw).elem encNotice_len (by decide) hlt
        have c0 := hc 26 _ rfl
        have h16 := H16.out k v hp
        clear hp hc
        go_wp2
        go_roundw
        case rel => exact ⟨k + 1, by omega, by go_num, hw⟩
        case measure => simp [intOf]; omega
      · go_wp2
        obtain ⟨wo, rfl⟩ : ∃ wo : World, wo = wr := ⟨_, rfl⟩
        go_loopw [6] (fun i wr => ∃ k : Nat, k ≤ n ∧ i = .int .i64 (k : Int) ∧ twiceFrom ls (ls.drop k) k = tw ∧ New w wr) (fun i _ => n - (intOf i).toNat)
        case atStart => exact ⟨0, Nat.zero_le _, rfl, HTW.out, hw⟩
        case round =>
          obtain ⟨i, hi, rfl, ht, hw⟩ := hrel
          have HT := Lib.hid ht
          clear ht
          by_cases hlt : i < n
          · obtain ⟨b, off, v, rfl, hp, hc⟩ := (ha.sl.new_ hw).elem encNotice_len (by decide) hlt
            have c0 := hc 0 _ rfl
            simp only [Nat.add_zero] at c0
            have hfi := fun W hW => find_any (some ⟨b, off, none⟩) n c ls v.b.ref W hW
            by_cases he : findAt ls v.b.ref.toList = some i
            · have HH := Lib.hid (show twiceFrom ls (ls.drop (i + 1)) (i + 1) = tw by rw [← HT.out, twice_miss hp he])
              simp only [he, idxInt] at hfi
              have HFI := Lib.hid hfi
              clear hp hc hfi he
              go_wp2_with (go_at_call 55; refine (HFI.out _ (ha.new_ hw)).mono ?_; rintro e w3 ⟨rfl, hw3⟩)
              go_roundw
              case rel => exact ⟨i + 1, by omega, by go_num, HH.out, New.trans hw hw3⟩
              case measure => simp [intOf]; omega
            · have HH := Lib.hid (show wrongOf ls = (11, 0, i) by
                have : tw = some i := by rw [← HT.out, twice_hit hp he]
                rw [HWR.out, this]; rfl)
              have hd : (idxInt (findAt ls v.b.ref.toList) != (i : Int)) = true := by
                cases hq : findAt ls v.b.ref.toList with
                | none => simp [idxInt]
                | some z => simp [idxInt]; intro e; exact he (by rw [hq]; exact congrArg some (by omega))
              generalize idxInt (findAt ls v.b.ref.toList) = q at hfi hd
              have HFI := Lib.hid hfi
              clear hp hc hfi he
              go_wp2_with (go_at_call 55; refine (HFI.out _ (ha.new_ hw)).mono ?_; rintro e w3 ⟨rfl, hw3⟩)
              go_ret3
              exact ⟨by rw [HH.out]; rfl, New.trans hw hw3⟩
          · obtain rfl : i = n := by omega
            have htn : tw = none := by rw [← HT.out, List.drop_of_length_le (by have := HLEN.out; omega)]; rfl
            subst htn
            go_wp2
            obtain ⟨wp, rfl⟩ : ∃ wp : World, wp = wr := ⟨_, rfl⟩
            go_loopw [7] (fun i' wr => ∃ k : Nat, k ≤ i ∧ i' = .int .i64 (k : Int) ∧ noticesBad ls (ls.drop k) k = nb ∧ New w wr) (fun i' _ => i - (intOf i').toNat)
            case atStart => exact ⟨0, Nat.zero_le _, rfl, HNB.out, hw⟩
            case round =>
              obtain ⟨m, hm, rfl, hnb, hw⟩ := hrel
              have HNB2 := Lib.hid hnb
              clear hnb
              by_cases hlt : m < i
              · obtain ⟨b, off, v, rfl, hp, hc⟩ := (ha.sl.new_ hw).elem encNotice_len (by decide) hlt
                have HP := Lib.hid hp
                have h16 := H16.out m v hp
                clear hp hc
                obtain ⟨wq, rfl⟩ : ∃ wq : World, wq = wr := ⟨_, rfl⟩
                obtain ⟨lb, hlb⟩ : ∃ t, linksBad ls v.links 0 = t := ⟨_, rfl⟩
                have HLB := Lib.hid hlb
                clear hlb
                go_wp2
                go_loopw [8] (fun i' wr => ∃ k : Nat, k ≤ v.links.length ∧ i' = .int .i64 (k : Int) ∧ linksBad ls (v.links.drop k) k = lb ∧ New w wr) (fun i' _ => v.links.length - (intOf i').toNat)
                case atStart => exact ⟨0, Nat.zero_le _, rfl, HLB.out, hw⟩
                case round =>
                  obtain ⟨j, hj, rfl, hlj, hw⟩ := hrel
                  have HLJ := Lib.hid hlj
                  clear hlj
                  obtain ⟨b2, off2, v2, he2, hp2, hc2⟩ := (ha.sl.new_ hw).elem encNotice_len (by decide) hlt
                  injection he2 with he2
                  injection he2 with he2 he3
                  subst he2 he3
                  rw [HP.out] at hp2
                  injection hp2 with hp2
                  subst hp2
                  have c26 := hc2 26 _ rfl
                  clear hc2
                  by_cases hjl : j < v.links.length
                  · obtain ⟨lb3, lo3, ⟨x0, x1⟩, hR, hx, hxc⟩ := Sl.elem (sz := 2) encLinks_len (by decide) ((ha.ok m v HP.out).new_ hw) hjl
                    have d0 := hxc 0 _ rfl
                    have d1 := hxc 1 _ rfl
                    simp only [Nat.add_zero] at d0
                    rw [hR] at c26
                    have hfi := fun W hW => find_any (some ⟨b, off, none⟩) i c ls x1 W hW
                    have HX := Lib.hid hx
                    clear hxc hx
                    by_cases hkind : x0 ≠ 1 ∧ x0 ≠ 2 ∧ x0 ≠ 3
                    · have HH := Lib.hid (show wrongOf ls = (24, m, j) by
                        have hb : linkBad ls (x0, x1) = 24 := by unfold linkBad; rw [if_pos hkind]
                        have h1 : lb = some (24, j) := by rw [← HLJ.out, linksBad_hit HX.out (by rw [hb]; decide), hb]
                        have h2 : nb = some (24, m, j) := by rw [← HNB2.out, noticesBad_hit HP.out (by rw [HLB.out, h1])]
                        rw [HWR.out, h2]; rfl)
                      have g1 : (x0 != 1) = true := by simpa using hkind.1
                      have g2 : (x0 != 2) = true := by simpa using hkind.2.1
                      have g3 : (x0 != 3) = true := by simpa using hkind.2.2
                      clear hkind hfi
                      go_wp2
                      go_ret3
                      exact ⟨by rw [HH.out]; rfl, hw.alloc _⟩
                    · have hk3 : x0 = 1 ∨ x0 = 2 ∨ x0 = 3 := by omega
                      cases hf : findAt ls x1.toList with
                      | none =>
                        have HH := Lib.hid (show wrongOf ls = (10, m, j) by
                          have hb : linkBad ls (x0, x1) = 10 := by unfold linkBad; rw [if_neg hkind, if_pos hf]
                          have h1 : lb = some (10, j) := by rw [← HLJ.out, linksBad_hit HX.out (by rw [hb]; decide), hb]
                          have h2 : nb = some (10, m, j) := by rw [← HNB2.out, noticesBad_hit HP.out (by rw [HLB.out, h1])]
                          rw [HWR.out, h2]; rfl)
                        simp only [hf, idxInt] at hfi
                        have HFI := Lib.hid hfi
                        clear hfi hf hkind
                        rcases hk3 with rfl | rfl | rfl
                        all_goals
                          go_wp2_with (go_at_call 55; refine (HFI.out _ (ha.new_ (hw.alloc _))).mono ?_; rintro e w3 ⟨rfl, hw3⟩)
                          go_ret3
                          exact ⟨by rw [HH.out]; rfl, New.trans (hw.alloc _) hw3⟩
                      | some z =>
                        have HH := Lib.hid (show linksBad ls (v.links.drop (j + 1)) (j + 1) = lb by
                          have hb : linkBad ls (x0, x1) = 0 := by unfold linkBad; rw [if_neg hkind, if_neg (by rw [hf]; simp)]
                          rw [← HLJ.out, linksBad_miss HX.out hb])
                        simp only [hf, idxInt] at hfi
                        have HFI := Lib.hid hfi
                        clear hfi hf hkind
                        rcases hk3 with rfl | rfl | rfl
                        all_goals
                          go_wp2_with (go_at_call 55; refine (HFI.out _ (ha.new_ (hw.alloc _))).mono ?_; rintro e w3 ⟨rfl, hw3⟩)
                          go_roundw
                          case rel => exact ⟨j + 1, by omega, by go_num, HH.out, New.trans (hw.alloc _) hw3⟩
                          case measure => simp [intOf]; omega
                  · obtain rfl : j = v.links.length := by omega
                    have HH := Lib.hid (show noticesBad ls (ls.drop (m + 1)) (m + 1) = nb by
                      have h1 : lb = none := by rw [← HLJ.out, List.drop_length]; rfl
                      rw [← HNB2.out, noticesBad_miss HP.out (by rw [HLB.out, h1])])
                    go_wp2
                    go_roundw
                    case rel => exact ⟨m + 1, by omega, by go_num, HH.out, hw⟩
                    case measure => simp [intOf]; omega
              · obtain rfl : m = i := by omega
                have HH := Lib.hid (show wrongOf ls = (0, 0, 0) by
                  have : nb = none := by rw [← HNB2.out, List.drop_of_length_le (by have := HLEN.out; omega)]; rfl
                  rw [HWR.out, this]; rfl)
                go_wp2
                go_ret3
                exact ⟨by rw [HH.out]; rfl, hw⟩
end Go.Proofs.YtkkaejbdekdljaaDoor
