/- Words and walks, part 4 of 19. -/
import Derived.Deep.LoopGhost
import Derived.Deep.RegionLaw
import Derived.Test.YtkkaejbdekdljaaDoorQ1
import Derived.Test.YtkkaejbdekdljaaDoorQ3
/- Walks: the document's Groups (size, names, lost, groups, Groups). -/
set_option linter.unusedVariables false
set_option linter.unusedSimpArgs false
namespace Go.Proofs.YtkkaejbdekdljaaDoor
open Go.RowKit

theorem refSize_any (n : Int) (w : World) :
    Calls Tryd.prog 33 #[.int .i64 n] w fun e w' => e = .returned (.int .i64 (if n < 0 then 1 else if 4096 < n then 5 else 0)) ∧ w' = w := by
  by_cases h1 : n < 0
  · rw [if_pos h1]
    go_enter Tryd.func33, Tryd.ntmps33
    go_wp2
    go_ret
    exact ⟨rfl, rfl⟩
  · rw [if_neg h1]
    by_cases h2 : 4096 < n
    · rw [if_pos h2]
      go_enter Tryd.func33, Tryd.ntmps33
      go_wp2
      go_ret
      exact ⟨rfl, rfl⟩
    · rw [if_neg h2]
      go_enter Tryd.func33, Tryd.ntmps33
      go_wp2
      go_ret
      exact ⟨rfl, rfl⟩

theorem refNames_any (n : Nat) (x y : Int) (w : World) :
    Calls Tryd.prog 62 #[.int .i64 (n : Int), .agg #[.int .i64 x, .int .i64 y]] w fun e w' => e = .returned (.bool (names n (x, y))) ∧ New w w' := by
  have HP : ∀ b w', New w w' → names n (x, y) = b → (Ending.returned (.bool b) = .returned (.bool (names n (x, y))) ∧ New w w') := fun b w' hw h => ⟨by rw [h], hw⟩
  have HH := Lib.hid HP
  clear HP
  by_cases h1 : 0 ≤ x
  · by_cases h2 : x < n
    · by_cases h3 : 0 ≤ y
      · by_cases h4 : y < n
        · go_enter Tryd.func62, Tryd.ntmps62
          go_wp2
          go_ret
          exact HH.out _ _ ((Mod.refl _ _).alloc _) (by simp [names]; omega)
        · go_enter Tryd.func62, Tryd.ntmps62
          go_wp2
          go_ret
          exact HH.out _ _ ((Mod.refl _ _).alloc _) (by simp [names]; omega)
      · go_enter Tryd.func62, Tryd.ntmps62
        go_wp2
        go_ret
        exact HH.out _ _ ((Mod.refl _ _).alloc _) (by simp [names]; omega)
    · go_enter Tryd.func62, Tryd.ntmps62
      go_wp2
      go_ret
      exact HH.out _ _ ((Mod.refl _ _).alloc _) (by simp [names]; omega)
  · go_enter Tryd.func62, Tryd.ntmps62
    go_wp2
    go_ret
    exact HH.out _ _ ((Mod.refl _ _).alloc _) (by simp [names]; omega)

/-- What lost answers. -/
def lostInt : Option Nat → Int
  | none => -1
  | some k => k
set_option maxHeartbeats 1000000 in
theorem refLost_any (n : Nat) (A : Option Addr) (m c : Nat) (l : List (Int × Int)) (w : World) (ha : Sl w A m 2 (twos l)) :
    Calls Tryd.prog 34 #[.int .i64 (n : Int), .slice A m c] w fun e w' => e = .returned (.int .i64 (lostInt (lostFrom n 0 l))) ∧ New w w' := by
  have hl : l.length = m := by have := ha.len; rw [twos_length] at this; omega
  have hm := ha.le
  have HL := Lib.hid hl
  clear hl
  go_enter Tryd.func34, Tryd.ntmps34
  go_wp2
  go_loopw [5] (fun i wr => ∃ k : Nat, k ≤ m ∧ i = .int .i64 (k : Int) ∧ lostFrom n 0 l = lostFrom n k (l.drop k) ∧ New w wr) (fun i _ => m - (intOf i).toNat)
  case atStart => exact ⟨0, Nat.zero_le _, rfl, by simp, Mod.refl _ _⟩
  case round =>
    obtain ⟨k, hk, rfl, hlost, hw⟩ := hrel
    have HR := Lib.hid hlost
    clear hlost
    by_cases hlt : k < m
    · obtain ⟨b, off, p, rfl, hp, hc0, hc1⟩ := (ha.new_ hw).two hlt
      have hdrop : l.drop k = p :: l.drop (k + 1) := by
        rw [List.drop_eq_getElem_cons (by have := HL.out; omega)]
        congr 1
        rw [List.getElem?_eq_getElem (by have := HL.out; omega)] at hp
        injection hp
      have HD := Lib.hid hdrop
      clear hdrop hp
      obtain ⟨x, y⟩ := p
      have hn := fun w => refNames_any n x y w
      cases hb : names n (x, y) with
      | true =>
        simp only [hb] at hn
        have HN := Lib.hid hn
        have HB := Lib.hid hb
        clear hn hb
        go_wp2_with (go_at_call 62; refine (HN.out _).mono ?_; rintro e w1 ⟨rfl, hw1⟩)
        go_roundw
        case rel => exact ⟨k + 1, by omega, by go_num, by rw [HR.out, HD.out, lostFrom_yes HB.out], New.trans hw hw1⟩
        case measure => simp [intOf]; omega
      | false =>
        simp only [hb] at hn
        have HN := Lib.hid hn
        have HB := Lib.hid hb
        clear hn hb
        go_wp2_with (go_at_call 62; refine (HN.out _).mono ?_; rintro e w1 ⟨rfl, hw1⟩)
        go_ret
        exact ⟨by rw [HR.out, HD.out, lostFrom_no HB.out]; rfl, New.trans hw hw1⟩
    · go_wp2
      go_ret
      exact ⟨by rw [HR.out, List.drop_of_length_le (by have := HL.out; omega)]; rfl, hw⟩

theorem own_form {w : World} {base n sz : Nat} {e : TypeId} {A : Option Addr} {c : Nat} {xs : List Value} (h : w.ownsRow base e sz (.slice A n c) n xs) (hn : 0 < n) : ∃ g, A = some ⟨g, 0, none⟩ ∧ base ≤ g ∧ g < w.heap.size := by
  obtain ⟨g, cap, hv, h1, h2⟩ := h.form hn
  injection hv with hv
  exact ⟨g, hv, h1, h2⟩
theorem own_nat {w : World} {base g c : Nat} {e : TypeId} {f : List Nat} {n : Nat} (h : w.ownsRow base e 1 (.slice (some ⟨g, 0, none⟩) n c) n (nats f)) {x : Nat} (hx : x < n) : w.cell? ⟨g, x, none⟩ = some (.int .i64 (at_ f x : Int)) := by
  rw [h.cellAt x (by omega), nats_at f x (by have := h.1; simp [nats] at this; omega)]
theorem own_set {w : World} {base g c : Nat} {e : TypeId} {f : List Nat} {n : Nat} (h : w.ownsRow base e 1 (.slice (some ⟨g, 0, none⟩) n c) n (nats f)) (x v : Nat) :
    (w.setCell ⟨g, x, none⟩ (.int .i64 (v : Int))).ownsRow base e 1 (.slice (some ⟨g, 0, none⟩) n c) n (nats (f.set x v)) := by
  have := (h.stored x (.int .i64 (v : Int))).1
  rwa [nats_set] at this

/-- All pairs of a list have one label. -/
def Evn (l : List (Int × Int)) (f : List Nat) : Prop := ∀ p, p ∈ l → at_ f p.1.toNat = at_ f p.2.toNat
theorem Evn.snoc {l : List (Int × Int)} {f : List Nat} {k : Nat} {p : Int × Int} (h : Evn (l.take k) f) (hp : l[k]? = some p) (e : at_ f p.1.toNat = at_ f p.2.toNat) : Evn (l.take (k + 1)) f := by
  intro q hq
  rw [List.take_add_one, hp] at hq
  rcases List.mem_append.1 hq with hq | hq
  · exact h q hq
  · simp at hq; subst hq; exact e

def GrsPost (w : World) (n : Nat) (l : List (Int × Int)) (e : Ending) (w' : World) : Prop :=
  ∃ v r, e = .returned v ∧ w'.ownsRow w.heap.size 3 1 v n (nats r) ∧ r.length = n ∧ Least n l (at_ r) ∧ New w w'

set_option maxHeartbeats 2000000 in
theorem refGroups0_any (n : Nat) (A : Option Addr) (m c : Nat) (l : List (Int × Int)) (w : World) (hn : n ≤ 4096) (ha : Sl w A m 2 (twos l)) (hin : ∀ p, p ∈ l → 0 ≤ p.1 ∧ p.1 < n ∧ 0 ≤ p.2 ∧ p.2 < n) :
    Calls Tryd.prog 35 #[.int .i64 (n : Int), .slice A m c] w (GrsPost w n l) := by
  have hl : l.length = m := by have := ha.len; rw [twos_length] at this; omega
  have hm := ha.le
  have HL := Lib.hid hl
  have HI := Lib.hid hin
  clear hl hin
  go_enter Tryd.func35, Tryd.ntmps35
  go_wp2
  go_loopw [5, 6] (fun v i wr => ∃ k : Nat, k ≤ n ∧ i = .int .i64 (k : Int) ∧ wr.ownsRow w.heap.size 3 1 v k (nats (List.range k)) ∧ New w wr) (fun _ i _ => n - (intOf i).toNat)
  case atStart => exact ⟨0, Nat.zero_le _, rfl, own_nil _ _ _ _, Mod.refl _ _⟩
  case round =>
    obtain ⟨k, hk, rfl, hown, hw⟩ := hrel
    by_cases hlt : k < n
    · go_wp2_with (at_builtin; refine wpList_app Tryd.slt24 rfl (.tmp 16) (.tmp 18) rfl w.heap.size _ k _ rfl (hown.alloc _) ⟨wr.heap.size, 0, none⟩ 1 1 [.int .i64 (k : Int)] rfl rfl (cells_new _ _ _) ?c1 ?c2 ?c3 ?_)
      case c1 => simp [Value.oneCell']
      case c2 => omega
      case c3 => simp; have := hw.size; omega
      intro v' w1 hown1 hg1 _
      have hw1 : New w w1 := New.grown (hw.alloc _) (hown.alloc _) (Nat.le_refl _) hg1
      clear hg1
      go_wp2
      go_roundw
      case rel => exact ⟨k + 1, by omega, by go_num, by
        rw [show nats (List.range (k + 1)) = nats (List.range k) ++ [.int .i64 (k : Int)] from by simp [nats, List.range_succ]]
        exact hown1, hw1⟩
      case measure => simp [intOf]; omega
    · obtain rfl : k = n := by omega
      obtain ⟨B, cc, rfl⟩ := own_shape hown
      go_wp2
      go_loopg [7] ((List.range k).sum + 1) (fun gk b wr => ∃ (b' : Bool) (f : List Nat), b = .bool b' ∧ gk = f.sum + (if b' then 1 else 0) ∧ f.length = k ∧ Label k l (at_ f) ∧ wr.ownsRow w.heap.size 3 1 (.slice B k cc) k (nats f) ∧ New w wr ∧ (b' = false → Evn l f))
      case atStart => exact ⟨true, List.range k, rfl, rfl, by simp, Label.start _ _ _ fun i hi => by simp [at_, List.getD_eq_getElem?_getD, hi], hown, hw, fun h => by cases h⟩
      case round =>
        obtain ⟨b', f, rfl, hgk, hf, hlab, hown, hw, hev⟩ := hrel
        have HG := Lib.hid hgk
        have HF := Lib.hid hf
        have HLB := Lib.hid hlab
        have HE := Lib.hid hev
        clear hgk hf hlab hev
        cases b' with
        | false =>
          go_wp2
          go_ret
          exact ⟨_, f, rfl, hown, HF.out, HLB.out.least (HE.out trivial), hw⟩
        | true =>
          clear HE
          go_wp2
          go_loopw [7, 8] (fun b i wr' => ∃ (j : Nat) (b2 : Bool) (f2 : List Nat), j ≤ m ∧ i = .int .i64 (j : Int) ∧ b = .bool b2 ∧ f2.length = k ∧ Label k l (at_ f2) ∧ wr'.ownsRow w.heap.size 3 1 (.slice B k cc) k (nats f2) ∧ New w wr' ∧ f2.sum ≤ f.sum ∧ (b2 = false → f2 = f ∧ Evn (l.take j) f) ∧ (b2 = true → f2.sum < f.sum)) (fun _ i _ => m - (intOf i).toNat)
          case atStart => exact ⟨0, false, f, Nat.zero_le _, rfl, rfl, HF.out, HLB.out, hown, hw, Nat.le_refl _, fun _ => ⟨rfl, fun p hp => by simp at hp⟩, fun h => by cases h⟩
          case round =>
            obtain ⟨j, b2, f2, hj, rfl, rfl, hf2, hlab2, hown2, hw2, hs2, hno, hyes⟩ := hrel
            have HF2 := Lib.hid hf2
            have HLB2 := Lib.hid hlab2
            have HNO := Lib.hid hno
            have HYES := Lib.hid hyes
            have HS2 := Lib.hid hs2
            clear hf2 hlab2 hno hyes hs2
            by_cases hlt : j < m
            · obtain ⟨b, off, p, rfl, hp, hc0, hc1⟩ := (ha.new_ hw2).two hlt
              have hpm : p ∈ l := List.mem_of_getElem? hp
              have hpin := HI.out p hpm
              obtain ⟨x, y⟩ := p
              obtain ⟨x, rfl⟩ := Int.eq_ofNat_of_zero_le hpin.1
              obtain ⟨y, rfl⟩ := Int.eq_ofNat_of_zero_le hpin.2.2.1
              have hx : x < k := by have := hpin.2.1; simpa using this
              have hy : y < k := by have := hpin.2.2.2; simpa using this
              have HP := Lib.hid hp
              have HPM := Lib.hid hpm
              obtain ⟨g, rfl, hgB, hgl⟩ := own_form hown2 (by omega)
              have ca := own_nat hown2 hx
              have cb := own_nat hown2 hy
              have fa := hown2.frozenAt x
              have fb := hown2.frozenAt y
              clear hp hpm hpin
              by_cases h1 : at_ f2 x < at_ f2 y
              · have hxy : ¬ x = y := fun h => by rw [h] at h1; omega
                have hyx : ¬ y = x := fun h => hxy h.symm
                go_wp2
                go_quiet (fail)
                go_wp2
                go_quiet (fail)
                go_wp2
                go_roundw
                case rel =>
                  have e1 := at_set f2 y (at_ f2 x) (by have := HF2.out; omega)
                  have e2 := sum_set_lt f2 y (at_ f2 x) (by have := HF2.out; omega) h1
                  have e3 := HS2.out
                  exact ⟨j + 1, true, f2.set y (at_ f2 x), by omega, by go_num, rfl, by simp; exact HF2.out, by
                    rw [e1]; exact HLB2.out.left HPM.out (by simpa using hx) (by simpa using hy) (by simpa using h1), own_set hown2 y _, ((hw2.drewN _).set_ (p := ⟨g, y, none⟩) (fun h => by simp at h; omega) _).drewN _, by omega, (fun h => by cases h), fun _ => by omega⟩
                case measure => simp [intOf]; omega
              · by_cases h2 : at_ f2 y < at_ f2 x
                · go_wp2
                  go_quiet (fail)
                  go_wp2
                  go_quiet (fail)
                  go_wp2
                  go_roundw
                  case rel =>
                    have e1 := at_set f2 x (at_ f2 y) (by have := HF2.out; omega)
                    have e2 := sum_set_lt f2 x (at_ f2 y) (by have := HF2.out; omega) h2
                    have e3 := HS2.out
                    exact ⟨j + 1, true, f2.set x (at_ f2 y), by omega, by go_num, rfl, by simp; exact HF2.out, by
                      rw [e1]; exact HLB2.out.right HPM.out (by simpa using hx) (by simpa using hy) (by simpa using h2), own_set hown2 x _, (hw2.drewN _).set_ (p := ⟨g, x, none⟩) (fun h => by simp at h; omega) _, by omega, (fun h => by cases h), fun _ => by omega⟩
                  case measure => simp [intOf]; omega
                · go_wp2
                  go_quiet (fail)
                  go_wp2
                  go_quiet (fail)
                  go_wp2
                  go_roundw
                  case rel => exact ⟨j + 1, b2, f2, by omega, by go_num, rfl, HF2.out, HLB2.out, hown2, hw2.drewN _, HS2.out, fun h => ⟨(HNO.out h).1, Evn.snoc (HNO.out h).2 HP.out (by
                    have := (HNO.out h).1
                    subst this
                    simp; omega)⟩, HYES.out⟩
                  case measure => simp [intOf]; omega
            · go_wp2
              go_roundg (f2.sum + (if b2 then 1 else 0))
              case measure =>
                have h1 := HG.out
                have h2 := HYES.out
                have h3 := HS2.out
                cases b2 with
                | true => have := h2 rfl; simp at h1 ⊢; omega
                | false => simp at h1 ⊢; omega
              case rel => exact ⟨b2, f2, rfl, rfl, HF2.out, HLB2.out, hown2, hw2, fun h => by
                have h3 := HNO.out h
                rw [h3.1]
                have := h3.2
                rwa [List.take_of_length_le (by have := HL.out; omega)] at this⟩
end Go.Proofs.YtkkaejbdekdljaaDoor
/- Walks: the document's Groups, whole. -/
set_option linter.unusedVariables false
set_option linter.unusedSimpArgs false
namespace Go.Proofs.YtkkaejbdekdljaaDoor
open Go.RowKit

/-- What a call of the document's Groups comes to. -/
def RefGrpPost (w : World) (n : Int) (l : List (Int × Int)) (e : Ending) (w' : World) : Prop :=
  ∃ v r, e = .returned (.tuple #[v, .int .i64 (grpErr n l).1, .int .i64 (grpErr n l).2]) ∧ w'.ownsRow w.heap.size 3 1 v r.length (nats r) ∧ GrpOut n l r ∧ New w w'

set_option maxHeartbeats 1000000 in
theorem refGroups_any (n : Int) (A : Option Addr) (m c : Nat) (l : List (Int × Int)) (w : World) (ha : Sl w A m 2 (twos l)) :
    Calls Tryd.prog 8 #[.int .i64 n, .slice A m c] w (RefGrpPost w n l) := by
  have hm := ha.le
  by_cases h1 : n < 0
  · have hs := fun w => refSize_any n w
    simp only [if_pos h1] at hs
    have HP : ∀ w', New w w' → RefGrpPost w n l (.returned (.tuple #[.slice none 0 0, .int .i64 1, .int .i64 0])) w' := fun w' hw =>
      ⟨_, [], by simp [grpErr, h1], own_nil _ _ _ _, by simp [GrpOut, grpErr, h1], hw⟩
    have HS := Lib.hid hs
    have HH := Lib.hid HP
    clear hs HP
    go_enter Tryd.func8, Tryd.ntmps8
    go_wp2_with (go_at_call 33; refine (HS.out _).mono ?_; rintro e w1 ⟨rfl, rfl⟩)
    go_ret3
    exact HH.out _ (Mod.refl _ _)
  · by_cases h2 : 4096 < n
    · have hs := fun w => refSize_any n w
      simp only [if_neg h1, if_pos h2] at hs
      have HP : ∀ w', New w w' → RefGrpPost w n l (.returned (.tuple #[.slice none 0 0, .int .i64 5, .int .i64 0])) w' := fun w' hw =>
        ⟨_, [], by simp [grpErr, h1, h2], own_nil _ _ _ _, by simp [GrpOut, grpErr, h1, h2], hw⟩
      have HS := Lib.hid hs
      have HH := Lib.hid HP
      clear hs HP
      go_enter Tryd.func8, Tryd.ntmps8
      go_wp2_with (go_at_call 33; refine (HS.out _).mono ?_; rintro e w1 ⟨rfl, rfl⟩)
      go_ret3
      exact HH.out _ (Mod.refl _ _)
    · obtain ⟨n, rfl⟩ := Int.eq_ofNat_of_zero_le (Int.not_lt.1 h1)
      have hn : n ≤ 4096 := by omega
      have hs := fun w => refSize_any (n : Int) w
      simp only [if_neg h1, if_neg h2] at hs
      have HS := Lib.hid hs
      clear hs
      cases hlost : lostFrom n 0 l with
      | some k =>
        have hge : grpErr (n : Int) l = (10, (k : Int)) := by unfold grpErr; rw [if_neg h1, if_neg h2]; simp [hlost]
        have HP : ∀ w', New w w' → RefGrpPost w n l (.returned (.tuple #[.slice none 0 0, .int .i64 10, .int .i64 (k : Int)])) w' := fun w' hw =>
          ⟨_, [], by rw [hge], own_nil _ _ _ _, by simp [GrpOut, hge], hw⟩
        have hna := fun w ha => refLost_any n A m c l w ha
        simp only [hlost, lostInt] at hna
        have HN := Lib.hid hna
        have HH := Lib.hid HP
        clear HP hna hlost hge
        go_enter Tryd.func8, Tryd.ntmps8
        go_wp2_with (first
          | (go_at_call 33; refine (HS.out _).mono ?_; rintro e w1 ⟨rfl, rfl⟩)
          | (go_at_call 34; refine (HN.out _ ha).mono ?_; rintro e w2 ⟨rfl, hw2⟩))
        go_ret3
        exact HH.out _ hw2
      | none =>
        have hge : grpErr (n : Int) l = (0, 0) := by unfold grpErr; rw [if_neg h1, if_neg h2]; simp [hlost]
        have HP : ∀ w' v r, New w w' → w'.ownsRow w.heap.size 3 1 v n (nats r) → r.length = n → Least n l (at_ r) → RefGrpPost w n l (.returned (.tuple #[v, .int .i64 0, .int .i64 0])) w' := fun w' v r hw hv hr hl =>
          ⟨_, r, by rw [hge], by rw [hr]; exact hv, by simp [GrpOut, hge]; exact ⟨hr, hl⟩, hw⟩
        have hna := fun w ha => refLost_any n A m c l w ha
        simp only [hlost, lostInt] at hna
        have HN := Lib.hid hna
        have HH := Lib.hid HP
        have HI := Lib.hid (lostFrom_none hlost)
        clear HP hna hlost hge
        go_enter Tryd.func8, Tryd.ntmps8
        go_wp2_with (first
          | (go_at_call 33; refine (HS.out _).mono ?_; rintro e w1 ⟨rfl, rfl⟩)
          | (go_at_call 34; refine (HN.out _ ha).mono ?_; rintro e w2 ⟨rfl, hw2⟩)
          | (go_at_call 35; refine (refGroups0_any n A m c l _ hn (ha.new_ hw2) HI.out).mono ?_; rintro e w3 ⟨v, r, rfl, hv, hr, hl, hw3⟩))
        go_ret3
        exact HH.out _ v r (New.trans hw2 hw3) (own_mono hv hw2.size) hr hl
end Go.Proofs.YtkkaejbdekdljaaDoor
/- Words: a list of slices of the call's own, each in a block of its own; append in a region that draws. -/
set_option linter.unusedVariables false
set_option linter.unusedSimpArgs false
namespace Go.Proofs.YtkkaejbdekdljaaDoor
open Go.RowKit

/-- The slices vs are the call's own, in blocks of their own, and hold these cells. -/
structure RowsOf (w : World) (B : Nat) (e : TypeId) (sz : Nat) (vs : List Value) (ls : List (Nat × List Value)) : Prop where
  len : vs.length = ls.length
  own : ∀ (i : Nat) (v : Value) (x : Nat × List Value), vs[i]? = some v → ls[i]? = some x → w.ownsRow B e sz v x.1 x.2
  ne : ∀ (i j : Nat) (v u : Value) (b : Nat), i ≠ j → vs[i]? = some v → vs[j]? = some u → v.ownBlock = some b → u.ownBlock ≠ some b

section
variable {w w' : World} {B sz : Nat} {e : TypeId} {vs : List Value} {ls : List (Nat × List Value)}

theorem RowsOf.nil (w : World) (B : Nat) (e : TypeId) (sz n : Nat) : RowsOf w B e sz (List.replicate n (.slice none 0 0)) (List.replicate n (0, [])) :=
  ⟨by simp, fun i v x hv hx => by
    simp [List.getElem?_replicate] at hv hx
    rw [← hv.2, ← hx.2]; exact own_nil _ _ _ _, fun i j v u b _ hv _ hb => by
    simp [List.getElem?_replicate] at hv
    rw [← hv.2] at hb; simp [Value.ownBlock] at hb⟩
theorem RowsOf.new_ (h : RowsOf w B e sz vs ls) (hm : New w w') : RowsOf w' B e sz vs ls :=
  ⟨h.len, fun i v x hv hx => own_new (h.own i v x hv hx) hm, h.ne⟩
theorem RowsOf.kept {S : Nat → Prop} (h : RowsOf w B e sz vs ls) (hm : Mod S w w') (hs : ∀ (i : Nat) (v : Value) (b : Nat), vs[i]? = some v → v.ownBlock = some b → ¬ S b) : RowsOf w' B e sz vs ls :=
  ⟨h.len, fun i v x hv hx => by
    have h0 := h.own i v x hv hx
    refine ⟨h0.1, ?_⟩
    rcases h0.2 with hn | ⟨g, cap, cur, rfl, hg, hh, r⟩
    · exact .inl hn
    · refine .inr ⟨g, cap, cur, rfl, hg, ?_, r⟩
      have hlt : g < w.heap.size := by
        rcases Nat.lt_or_ge g w.heap.size with hl | hl
        · exact hl
        · rw [Array.getElem?_eq_none hl] at hh; cases hh
      rw [hm.block g hlt (hs i _ g hv rfl)]
      exact hh, h.ne⟩
/-- One row has been replaced by one in its own block, or in a new one. -/
theorem RowsOf.upd (h : RowsOf w B e sz vs ls) {i : Nat} {v v' : Value} {x : Nat × List Value} (hv : vs[i]? = some v) (hg : w.grownBy w' v.ownBlock) (hown : w'.ownsRow B e sz v' x.1 x.2)
    (hb : v'.ownBlock = v.ownBlock ∨ v'.ownBlock = some w.heap.size) : RowsOf w' B e sz (vs.set i v') (ls.set i x) := by
  have hi : i < vs.length := (List.getElem?_eq_some_iff.1 hv).1
  have hlt : ∀ (j : Nat) (u : Value) (b : Nat), vs[j]? = some u → u.ownBlock = some b → b < w.heap.size := fun j u b hu hb => by
    have hj : j < vs.length := (List.getElem?_eq_some_iff.1 hu).1
    have hx : ls[j]? = some (ls[j]'(by rw [← h.len]; exact hj)) := List.getElem?_eq_getElem _
    exact ((h.own j u _ hu hx).lt b hb).2
  refine ⟨by simp [h.len], fun j u y hu hy => ?_, fun j k u t b hjk hu ht hub => ?_⟩
  · by_cases e : j = i
    · subst e
      rw [List.getElem?_set_self (by omega)] at hu
      rw [List.getElem?_set_self (by rw [← h.len]; omega)] at hy
      injection hu with hu
      injection hy with hy
      subst hu hy
      exact hown
    · rw [List.getElem?_set_ne (Ne.symm e)] at hu hy
      have h0 := h.own j u y hu hy
      refine h0.kept hg ?_
      cases hub : u.ownBlock with
      | none => exact .inl rfl
      | some b => exact .inr fun hvb => h.ne j i u v b e hu hv hub hvb.symm
  · by_cases ej : j = i
    · subst ej
      rw [List.getElem?_set_self (by omega)] at hu
      injection hu with hu
      subst hu
      rw [List.getElem?_set_ne hjk] at ht
      rcases hb with hb | hb
      · rw [hb] at hub
        exact h.ne j k v t b hjk hv ht hub
      · rw [hb] at hub
        injection hub with hub
        intro htb
        have := hlt k t b ht htb
        omega
    · rw [List.getElem?_set_ne (Ne.symm ej)] at hu
      by_cases ek : k = i
      · subst ek
        rw [List.getElem?_set_self (by omega)] at ht
        injection ht with ht
        subst ht
        rcases hb with hb | hb
        · rw [hb]; exact h.ne j k u v b hjk hu hv hub
        · rw [hb]
          intro htb
          injection htb with htb
          have := hlt j u b hu hub
          omega
      · rw [List.getElem?_set_ne (Ne.symm ek)] at ht
        exact h.ne j k u t b hjk hu ht hub
end

section
variable {P : Program} {w : World} {t e : TypeId} {size bytes : Nat}
/-- append onto a slice of the call's own, in a region that draws. -/
theorem step_app {ops : Array Oper} {o : Oper} {a : Act} {K : Act → World → Prop} {Q : Exit → Act → World → Prop} {E : Prop} (H : SlT P t e size bytes) (hgd : o.guard = none) (s x : Operand)
    (ho : o.op = .call { callee := .builtin .append, args := #[s, x], argTypes := #[t, t] })
    (base : Nat) (v : Value) (n : Nat) (xs : List Value) (hs : a.eval s = v) (hown : w.ownsRow base e size v n xs)
    (ad : Addr) (m c : Nat) (news : List Value) (hx : a.eval x = .slice (some ad) m c) (hl : news.length = m * size) (hnews : ∀ j u, news[j]? = some u → w.cell? (ad.add j) = some u) (h1 : ∀ u ∈ news, u.oneCell' = true)
    (hbytes : (n + m) * bytes ≤ 140737488355328) (hbase : base ≤ w.heap.size)
    (h : ∀ v' w', w'.ownsRow base e size v' (n + m) (xs ++ news) → w.grownBy w' v.ownBlock → (v'.ownBlock = v.ownBlock ∨ v'.ownBlock = some w.heap.size) → K (a.put o.dst v') w') :
    if Region.wanted o (yielded ops a.tmps) = true then Oper.wp P o a w K Q else E := by
  have hw : Region.wanted o (yielded ops a.tmps) = true := by simp [Region.wanted, hgd]
  rw [if_pos hw]
  obtain ⟨z, hi, hz⟩ := H.info
  obtain ⟨i, hi0, hi1, hi2, hi3⟩ := info_parts hi
  have hm : n + m ≤ maxLen := by
    have : (n + m) * 1 ≤ (n + m) * bytes := Nat.mul_le_mul_left _ H.posb
    unfold maxLen; omega
  obtain ⟨v', w', hr, h2, h3, h4, h5⟩ := run_append_own_at (P := P) w base t o.type e i z size bytes H.und hi0 hi1 hi2 hi3 hz H.pos v n xs hown ad m c news hl hnews h1 hm hbytes hbase
  unfold Oper.wp execOp
  simp only [ho, resolve, invoke, builtin, Sem.run_bind, Sem.run_pure, Result.andThen_ok, List.map_toArray, List.map_cons, List.map_nil, hs, hx, hr]
  exact h v' w' h2 h3 h5
end
end Go.Proofs.YtkkaejbdekdljaaDoor
/- Plain: an order of things along edges: at each place the one that can stand and is most urgent. No program in sight. -/
set_option linter.unusedVariables false
set_option linter.unusedSimpArgs false
namespace Go.Proofs.YtkkaejbdekdljaaDoor

/-- How many edges lead to i from things that don't stand yet. -/
def cnt (l : List (Int × Int)) (out : List Nat) (i : Nat) : Nat := l.countP fun p => p.2.toNat == i && !(out.contains p.1.toNat)
/-- The edges from b to i. -/
def fromTo (l : List (Int × Int)) (b i : Nat) : Nat := l.countP fun p => p.1.toNat == b && p.2.toNat == i
/-- Where the edges from b lead. -/
def succs (l : List (Int × Int)) (b : Nat) : List Nat := (l.filter fun p => p.1.toNat == b).map fun p => p.2.toNat

theorem cnt_nil (l : List (Int × Int)) (i : Nat) : cnt l [] i = l.countP fun p => p.2.toNat == i := by simp [cnt]
theorem cnt_snoc {l : List (Int × Int)} {out : List Nat} {b : Nat} (hb : b ∉ out) (i : Nat) : cnt l (out ++ [b]) i + fromTo l b i = cnt l out i := by
  unfold cnt fromTo
  induction l with
  | nil => rfl
  | cons p l ih =>
    simp only [List.countP_cons]
    have hb2 : out.contains b = false := by simpa using hb
    by_cases h1 : p.2.toNat = i
    · by_cases h2 : p.1.toNat = b
      · rw [h2] at *
        simp [h1, hb] at ih ⊢; omega
      · by_cases h3 : p.1.toNat ∈ out
        · simp [h1, h2, h3] at ih ⊢; omega
        · simp [h1, h2, h3] at ih ⊢; omega
    · simp [h1] at ih ⊢; omega
theorem succs_count (l : List (Int × Int)) (b i : Nat) : (succs l b).count i = fromTo l b i := by
  unfold succs fromTo
  induction l with
  | nil => rfl
  | cons p l ih =>
    by_cases h1 : p.1.toNat = b
    · by_cases h2 : p.2.toNat = i
      · simp [h1, h2, List.count_cons, List.countP_cons] at ih ⊢; omega
      · simp [h1, h2, List.count_cons, List.countP_cons] at ih ⊢; omega
    · simp [h1, List.countP_cons] at ih ⊢; omega
theorem fromTo_snoc (l : List (Int × Int)) (p : Int × Int) (b i : Nat) : fromTo (l ++ [p]) b i = fromTo l b i + (if p.1.toNat = b ∧ p.2.toNat = i then 1 else 0) := by
  unfold fromTo
  rw [List.countP_append]
  by_cases h1 : p.1.toNat = b <;> by_cases h2 : p.2.toNat = i <;> simp [h1, h2]
theorem succs_snoc (l : List (Int × Int)) (p : Int × Int) (b : Nat) : succs (l ++ [p]) b = succs l b ++ (if p.1.toNat = b then [p.2.toNat] else []) := by
  unfold succs
  by_cases h : p.1.toNat = b <;> simp [h]
theorem count_take_succ (s : List Nat) (j x i : Nat) (h : s[j]? = some x) : (s.take (j + 1)).count i = (s.take j).count i + (if x = i then 1 else 0) := by
  rw [List.take_add_one, h]
  by_cases e : x = i <;> simp [e]
theorem fromTo_take_le (l : List (Int × Int)) (j b i : Nat) : fromTo (l.take j) b i ≤ fromTo l b i := by
  unfold fromTo
  exact List.Sublist.countP_le (List.take_sublist _ _)
theorem cntall_take (l : List (Int × Int)) (k : Nat) (p : Int × Int) (h : l[k]? = some p) (i : Nat) :
    (l.take (k + 1)).countP (fun q => q.2.toNat == i) = (l.take k).countP (fun q => q.2.toNat == i) + (if p.2.toNat = i then 1 else 0) := by
  rw [List.take_add_one, h, List.countP_append]
  by_cases e : p.2.toNat = i <;> simp [e]

/-- May i stand at the next place? -/
def ready (l : List (Int × Int)) (out : List Nat) (i : Nat) : Bool := !(out.contains i) && cnt l out i == 0
/-- The most urgent of those below k that may stand; of equals the least. -/
def pick (r : Nat → Bool) (prio : Nat → Int) : Nat → Option Nat
  | 0 => none
  | k + 1 => match pick r prio k with
    | none => if r k then some k else none
    | some b => if r k && decide (prio b < prio k) then some k else some b
theorem pick_lt {r : Nat → Bool} {prio : Nat → Int} : ∀ {k b : Nat}, pick r prio k = some b → b < k ∧ r b = true := by
  intro k
  induction k with
  | zero => intro b h; simp [pick] at h
  | succ k ih =>
    intro b h
    cases hp : pick r prio k with
    | none =>
      simp only [pick, hp] at h
      split at h
      · rename_i hr
        simp at h; subst h; exact ⟨by omega, hr⟩
      · simp at h
    | some b0 =>
      simp only [pick, hp] at h
      split at h
      · rename_i hr
        simp at h; subst h
        simp at hr
        exact ⟨by omega, hr.1⟩
      · simp at h; subst h
        have := ih hp
        exact ⟨by omega, this.2⟩
/-- The number that stands for a choice. -/
def pickInt : Option Nat → Int
  | none => -1
  | some b => b

/-- The order from what stands on, at most so many places. -/
def run (l : List (Int × Int)) (prio : Nat → Int) (n : Nat) : Nat → List Nat → List Nat
  | 0, out => out
  | f + 1, out => match pick (ready l out) prio n with
    | none => out
    | some b => run l prio n f (out ++ [b])
/-- The order of n things. -/
def ordered (l : List (Int × Int)) (prio : Nat → Int) (n : Nat) : List Nat := run l prio n n []
theorem run_none {l : List (Int × Int)} {prio : Nat → Int} {n f : Nat} {out : List Nat} (h : pick (ready l out) prio n = none) : run l prio n f out = out := by
  cases f with
  | zero => rfl
  | succ f => simp [run, h]
theorem run_some {l : List (Int × Int)} {prio : Nat → Int} {n f b : Nat} {out : List Nat} (h : pick (ready l out) prio n = some b) : run l prio n (f + 1) out = run l prio n f (out ++ [b]) := by
  simp [run, h]
theorem ready_not {l : List (Int × Int)} {out : List Nat} {b : Nat} (h : ready l out b = true) : b ∉ out := by
  simp [ready] at h; exact h.1
/-- What stands: things, none twice. -/
structure Stand (n : Nat) (out : List Nat) : Prop where
  lt : ∀ b, b ∈ out → b < n
  nodup : out.Nodup
theorem Stand.snoc {n : Nat} {out : List Nat} {b : Nat} (h : Stand n out) (hb : b < n) (hn : b ∉ out) : Stand n (out ++ [b]) :=
  ⟨fun x hx => by rcases List.mem_append.1 hx with hx | hx; exact h.lt x hx; simp at hx; omega,
   by rw [List.nodup_append]; exact ⟨h.nodup, by simp, fun x hx y hy => by simp at hy; subst hy; exact fun e => hn (e ▸ hx)⟩⟩
theorem pick_skip {r : Nat → Bool} {prio : Nat → Int} {k : Nat} (h : r k = false) : pick r prio (k + 1) = pick r prio k := by
  cases hp : pick r prio k <;> simp [pick, hp, h]
theorem pick_first {r : Nat → Bool} {prio : Nat → Int} {k : Nat} (h : r k = true) (hp : pick r prio k = none) : pick r prio (k + 1) = some k := by simp [pick, hp, h]
theorem pick_more {r : Nat → Bool} {prio : Nat → Int} {k b : Nat} (h : r k = true) (hp : pick r prio k = some b) (hb : prio b < prio k) : pick r prio (k + 1) = some k := by simp [pick, hp, h, hb]
theorem pick_stay {r : Nat → Bool} {prio : Nat → Int} {k b : Nat} (hp : pick r prio k = some b) (hb : ¬ prio b < prio k) : pick r prio (k + 1) = some b := by simp [pick, hp, hb]
theorem succs_lt {l : List (Int × Int)} {n b x : Nat} (h : ∀ p, p ∈ l → 0 ≤ p.1 ∧ p.1 < n ∧ 0 ≤ p.2 ∧ p.2 < n) (hx : x ∈ succs l b) : x < n := by
  unfold succs at hx
  simp at hx
  obtain ⟨a, c, hm, rfl⟩ := hx
  have := h _ hm.1
  omega
theorem succs_pos {l : List (Int × Int)} {out : List Nat} {b t x : Nat} (hb : b ∉ out) (h : (succs l b)[t]? = some x) : ((succs l b).take t).count x + 1 ≤ cnt l out x := by
  have h1 := count_take_succ _ _ _ x h
  have h2 : ((succs l b).take (t + 1)).count x ≤ (succs l b).count x := List.Sublist.count_le x (List.take_sublist _ _)
  rw [succs_count] at h2
  have h3 := cnt_snoc (l := l) hb x
  rw [if_pos rfl] at h1
  omega
end Go.Proofs.YtkkaejbdekdljaaDoor
