/- Walks: the document's Groups (size, names, lost, groups, Groups). -/
import Derived.Test.YtkkaejbdekdljaaDoorLc
import Derived.Deep.LoopGhost
set_option linter.unusedVariables false
set_option linter.unusedSimpArgs false
namespace Go.Proofs.YtkkaejbdekdljaaDoor
open Go.RowKit

theorem refSize_any (n : Int) (w : World) :
    Calls Tryd.prog 33 #[.int .i64 n] w fun e w' => e = .returned (.int .i64 (if n < 0 then 1 else if 4096 < n then 5 else 0)) ∧ w' = w := by
  by_cases h1 : n < 0
  · rw [if_pos h1]
    go_enter Tryd.func33, Tryd.ntmps33
    go_wp2
    go_ret
    exact ⟨rfl, rfl⟩
  · rw [if_neg h1]
    by_cases h2 : 4096 < n
    · rw [if_pos h2]
      go_enter Tryd.func33, Tryd.ntmps33
      go_wp2
      go_ret
      exact ⟨rfl, rfl⟩
    · rw [if_neg h2]
      go_enter Tryd.func33, Tryd.ntmps33
      go_wp2
      go_ret
      exact ⟨rfl, rfl⟩

theorem refNames_any (n : Nat) (x y : Int) (w : World) :
    Calls Tryd.prog 62 #[.int .i64 (n : Int), .agg #[.int .i64 x, .int .i64 y]] w fun e w' => e = .returned (.bool (names n (x, y))) ∧ New w w' := by
  have HP : ∀ b w', New w w' → names n (x, y) = b → (Ending.returned (.bool b) = .returned (.bool (names n (x, y))) ∧ New w w') := fun b w' hw h => ⟨by rw [h], hw⟩
  have HH := Lib.hid HP
  clear HP
  by_cases h1 : 0 ≤ x
  · by_cases h2 : x < n
    · by_cases h3 : 0 ≤ y
      · by_cases h4 : y < n
        · go_enter Tryd.func62, Tryd.ntmps62
          go_wp2
          go_ret
          exact HH.out _ _ ((Mod.refl _ _).alloc _) (by simp [names]; omega)
        · go_enter Tryd.func62, Tryd.ntmps62
          go_wp2
          go_ret
          exact HH.out _ _ ((Mod.refl _ _).alloc _) (by simp [names]; omega)
      · go_enter Tryd.func62, Tryd.ntmps62
        go_wp2
        go_ret
        exact HH.out _ _ ((Mod.refl _ _).alloc _) (by simp [names]; omega)
    · go_enter Tryd.func62, Tryd.ntmps62
      go_wp2
      go_ret
      exact HH.out _ _ ((Mod.refl _ _).alloc _) (by simp [names]; omega)
  · go_enter Tryd.func62, Tryd.ntmps62
    go_wp2
    go_ret
    exact HH.out _ _ ((Mod.refl _ _).alloc _) (by simp [names]; omega)

/-- What lost answers. -/
def lostInt : Option Nat → Int
  | none => -1
  | some k => k
set_option maxHeartbeats 1000000 in
theorem refLost_any (n : Nat) (A : Option Addr) (m c : Nat) (l : List (Int × Int)) (w : World) (ha : Sl w A m 2 (twos l)) :
    Calls Tryd.prog 34 #[.int .i64 (n : Int), .slice A m c] w fun e w' => e = .returned (.int .i64 (lostInt (lostFrom n 0 l))) ∧ New w w' := by
  have hl : l.length = m := by have := ha.len; rw [twos_length] at this; omega
  have hm := ha.le
  have HL := Lib.hid hl
  clear hl
  go_enter Tryd.func34, Tryd.ntmps34
  go_wp2
  go_loopw [5] (fun i wr => ∃ k : Nat, k ≤ m ∧ i = .int .i64 (k : Int) ∧ lostFrom n 0 l = lostFrom n k (l.drop k) ∧ New w wr) (fun i _ => m - (intOf i).toNat)
  case atStart => exact ⟨0, Nat.zero_le _, rfl, by simp, Mod.refl _ _⟩
  case round =>
    obtain ⟨k, hk, rfl, hlost, hw⟩ := hrel
    have HR := Lib.hid hlost
    clear hlost
    by_cases hlt : k < m
    · obtain ⟨b, off, p, rfl, hp, hc0, hc1⟩ := (ha.new_ hw).two hlt
      have hdrop : l.drop k = p :: l.drop (k + 1) := by
        rw [List.drop_eq_getElem_cons (by have := HL.out; omega)]
        congr 1
        rw [List.getElem?_eq_getElem (by have := HL.out; omega)] at hp
        injection hp
      have HD := Lib.hid hdrop
      clear hdrop hp
      obtain ⟨x, y⟩ := p
      have hn := fun w => refNames_any n x y w
      cases hb : names n (x, y) with
      | true =>
        simp only [hb] at hn
        have HN := Lib.hid hn
        have HB := Lib.hid hb
        clear hn hb
        go_wp2_with (go_at_call 62; refine (HN.out _).mono ?_; rintro e w1 ⟨rfl, hw1⟩)
        go_roundw
        case rel => exact ⟨k + 1, by omega, by go_num, by rw [HR.out, HD.out, lostFrom_yes HB.out], New.trans hw hw1⟩
        case measure => simp [intOf]; omega
      | false =>
        simp only [hb] at hn
        have HN := Lib.hid hn
        have HB := Lib.hid hb
        clear hn hb
        go_wp2_with (go_at_call 62; refine (HN.out _).mono ?_; rintro e w1 ⟨rfl, hw1⟩)
        go_ret
        exact ⟨by rw [HR.out, HD.out, lostFrom_no HB.out]; rfl, New.trans hw hw1⟩
    · go_wp2
      go_ret
      exact ⟨by rw [HR.out, List.drop_of_length_le (by have := HL.out; omega)]; rfl, hw⟩

theorem own_form {w : World} {base n sz : Nat} {e : TypeId} {A : Option Addr} {c : Nat} {xs : List Value} (h : w.ownsRow base e sz (.slice A n c) n xs) (hn : 0 < n) : ∃ g, A = some ⟨g, 0, none⟩ ∧ base ≤ g ∧ g < w.heap.size := by
  obtain ⟨g, cap, hv, h1, h2⟩ := h.form hn
  injection hv with hv
  exact ⟨g, hv, h1, h2⟩
theorem own_nat {w : World} {base g c : Nat} {e : TypeId} {f : List Nat} {n : Nat} (h : w.ownsRow base e 1 (.slice (some ⟨g, 0, none⟩) n c) n (nats f)) {x : Nat} (hx : x < n) : w.cell? ⟨g, x, none⟩ = some (.int .i64 (at_ f x : Int)) := by
  rw [h.cellAt x (by omega), nats_at f x (by have := h.1; simp [nats] at this; omega)]
theorem own_set {w : World} {base g c : Nat} {e : TypeId} {f : List Nat} {n : Nat} (h : w.ownsRow base e 1 (.slice (some ⟨g, 0, none⟩) n c) n (nats f)) (x v : Nat) :
    (w.setCell ⟨g, x, none⟩ (.int .i64 (v : Int))).ownsRow base e 1 (.slice (some ⟨g, 0, none⟩) n c) n (nats (f.set x v)) := by
  have := (h.stored x (.int .i64 (v : Int))).1
  rwa [nats_set] at this

/-- All pairs of a list have one label. -/
def Evn (l : List (Int × Int)) (f : List Nat) : Prop := ∀ p, p ∈ l → at_ f p.1.toNat = at_ f p.2.toNat
theorem Evn.snoc {l : List (Int × Int)} {f : List Nat} {k : Nat} {p : Int × Int} (h : Evn (l.take k) f) (hp : l[k]? = some p) (e : at_ f p.1.toNat = at_ f p.2.toNat) : Evn (l.take (k + 1)) f := by
  intro q hq
  rw [List.take_add_one, hp] at hq
  rcases List.mem_append.1 hq with hq | hq
  · exact h q hq
  · simp at hq; subst hq; exact e

def GrsPost (w : World) (n : Nat) (l : List (Int × Int)) (e : Ending) (w' : World) : Prop :=
  ∃ v r, e = .returned v ∧ w'.ownsRow w.heap.size 3 1 v n (nats r) ∧ r.length = n ∧ Least n l (at_ r) ∧ New w w'

set_option maxHeartbeats 2000000 in
theorem refGroups0_any (n : Nat) (A : Option Addr) (m c : Nat) (l : List (Int × Int)) (w : World) (hn : n ≤ 4096) (ha : Sl w A m 2 (twos l)) (hin : ∀ p, p ∈ l → 0 ≤ p.1 ∧ p.1 < n ∧ 0 ≤ p.2 ∧ p.2 < n) :
    Calls Tryd.prog 35 #[.int .i64 (n : Int), .slice A m c] w (GrsPost w n l) := by
  have hl : l.length = m := by have := ha.len; rw [twos_length] at this; omega
  have hm := ha.le
  have HL := Lib.hid hl
  have HI := Lib.hid hin
  clear hl hin
  go_enter Tryd.func35, Tryd.ntmps35
  go_wp2
  go_loopw [5, 6] (fun v i wr => ∃ k : Nat, k ≤ n ∧ i = .int .i64 (k : Int) ∧ wr.ownsRow w.heap.size 3 1 v k (nats (List.range k)) ∧ New w wr) (fun _ i _ => n - (intOf i).toNat)
  case atStart => exact ⟨0, Nat.zero_le _, rfl, own_nil _ _ _ _, Mod.refl _ _⟩
  case round =>
    obtain ⟨k, hk, rfl, hown, hw⟩ := hrel
    by_cases hlt : k < n
    · go_wp2_with (at_builtin; refine wpList_app Tryd.slt24 rfl (.tmp 16) (.tmp 18) rfl w.heap.size _ k _ rfl (hown.alloc _) ⟨wr.heap.size, 0, none⟩ 1 1 [.int .i64 (k : Int)] rfl rfl (cells_new _ _ _) ?c1 ?c2 ?c3 ?_)
      case c1 => simp [Value.oneCell']
      case c2 => omega
      case c3 => simp; have := hw.size; omega
      intro v' w1 hown1 hg1 _
      have hw1 : New w w1 := New.grown (hw.alloc _) (hown.alloc _) (Nat.le_refl _) hg1
      clear hg1
      go_wp2
      go_roundw
      case rel => exact ⟨k + 1, by omega, by go_num, by
        rw [show nats (List.range (k + 1)) = nats (List.range k) ++ [.int .i64 (k : Int)] from by simp [nats, List.range_succ]]
        exact hown1, hw1⟩
      case measure => simp [intOf]; omega
    · obtain rfl : k = n := by omega
      obtain ⟨B, cc, rfl⟩ := own_shape hown
      go_wp2
      go_loopg [7] ((List.range k).sum + 1) (fun gk b wr => ∃ (b' : Bool) (f : List Nat), b = .bool b' ∧ gk = f.sum + (if b' then 1 else 0) ∧ f.length = k ∧ Label k l (at_ f) ∧ wr.ownsRow w.heap.size 3 1 (.slice B k cc) k (nats f) ∧ New w wr ∧ (b' = false → Evn l f))
      case atStart => exact ⟨true, List.range k, rfl, rfl, by simp, Label.start _ _ _ fun i hi => by simp [at_, List.getD_eq_getElem?_getD, hi], hown, hw, fun h => by cases h⟩
      case round =>
        obtain ⟨b', f, rfl, hgk, hf, hlab, hown, hw, hev⟩ := hrel
        have HG := Lib.hid hgk
        have HF := Lib.hid hf
        have HLB := Lib.hid hlab
        have HE := Lib.hid hev
        clear hgk hf hlab hev
        cases b' with
        | false =>
          go_wp2
          go_ret
          exact ⟨_, f, rfl, hown, HF.out, HLB.out.least (HE.out trivial), hw⟩
        | true =>
          clear HE
          go_wp2
          go_loopw [7, 8] (fun b i wr' => ∃ (j : Nat) (b2 : Bool) (f2 : List Nat), j ≤ m ∧ i = .int .i64 (j : Int) ∧ b = .bool b2 ∧ f2.length = k ∧ Label k l (at_ f2) ∧ wr'.ownsRow w.heap.size 3 1 (.slice B k cc) k (nats f2) ∧ New w wr' ∧ f2.sum ≤ f.sum ∧ (b2 = false → f2 = f ∧ Evn (l.take j) f) ∧ (b2 = true → f2.sum < f.sum)) (fun _ i _ => m - (intOf i).toNat)
          case atStart => exact ⟨0, false, f, Nat.zero_le _, rfl, rfl, HF.out, HLB.out, hown, hw, Nat.le_refl _, fun _ => ⟨rfl, fun p hp => by simp at hp⟩, fun h => by cases h⟩
          case round =>
            obtain ⟨j, b2, f2, hj, rfl, rfl, hf2, hlab2, hown2, hw2, hs2, hno, hyes⟩ := hrel
            have HF2 := Lib.hid hf2
            have HLB2 := Lib.hid hlab2
            have HNO := Lib.hid hno
            have HYES := Lib.hid hyes
            have HS2 := Lib.hid hs2
            clear hf2 hlab2 hno hyes hs2
            by_cases hlt : j < m
            · obtain ⟨b, off, p, rfl, hp, hc0, hc1⟩ := (ha.new_ hw2).two hlt
              have hpm : p ∈ l := List.mem_of_getElem? hp
              have hpin := HI.out p hpm
              obtain ⟨x, y⟩ := p
              obtain ⟨x, rfl⟩ := Int.eq_ofNat_of_zero_le hpin.1
              obtain ⟨y, rfl⟩ := Int.eq_ofNat_of_zero_le hpin.2.2.1
              have hx : x < k := by have := hpin.2.1; simpa using this
              have hy : y < k := by have := hpin.2.2.2; simpa using this
              have HP := Lib.hid hp
              have HPM := Lib.hid hpm
              obtain ⟨g, rfl, hgB, hgl⟩ := own_form hown2 (by omega)
              have ca := own_nat hown2 hx
              have cb := own_nat hown2 hy
              have fa := hown2.frozenAt x
              have fb := hown2.frozenAt y
              clear hp hpm hpin
              by_cases h1 : at_ f2 x < at_ f2 y
              · have hxy : ¬ x = y := fun h => by rw [h] at h1; omega
                have hyx : ¬ y = x := fun h => hxy h.symm
                go_wp2
                go_quiet (fail)
                go_wp2
                go_quiet (fail)
                go_wp2
                go_roundw
                case rel =>
                  have e1 := at_set f2 y (at_ f2 x) (by have := HF2.out; omega)
                  have e2 := sum_set_lt f2 y (at_ f2 x) (by have := HF2.out; omega) h1
                  have e3 := HS2.out
                  exact ⟨j + 1, true, f2.set y (at_ f2 x), by omega, by go_num, rfl, by simp; exact HF2.out, by
                    rw [e1]; exact HLB2.out.left HPM.out (by simpa using hx) (by simpa using hy) (by simpa using h1), own_set hown2 y _, ((hw2.drewN _).set_ (p := ⟨g, y, none⟩) (fun h => by simp at h; omega) _).drewN _, by omega, (fun h => by cases h), fun _ => by omega⟩
                case measure => simp [intOf]; omega
              · by_cases h2 : at_ f2 y < at_ f2 x
                · go_wp2
                  go_quiet (fail)
                  go_wp2
                  go_quiet (fail)
                  go_wp2
                  go_roundw
                  case rel =>
                    have e1 := at_set f2 x (at_ f2 y) (by have := HF2.out; omega)
                    have e2 := sum_set_lt f2 x (at_ f2 y) (by have := HF2.out; omega) h2
                    have e3 := HS2.out
                    exact ⟨j + 1, true, f2.set x (at_ f2 y), by omega, by go_num, rfl, by simp; exact HF2.out, by
                      rw [e1]; exact HLB2.out.right HPM.out (by simpa using hx) (by simpa using hy) (by simpa using h2), own_set hown2 x _, (hw2.drewN _).set_ (p := ⟨g, x, none⟩) (fun h => by simp at h; omega) _, by omega, (fun h => by cases h), fun _ => by omega⟩
                  case measure => simp [intOf]; omega
                · go_wp2
                  go_quiet (fail)
                  go_wp2
                  go_quiet (fail)
                  go_wp2
                  go_roundw
                  case rel => exact ⟨j + 1, b2, f2, by omega, by go_num, rfl, HF2.out, HLB2.out, hown2, hw2.drewN _, HS2.out, fun h => ⟨(HNO.out h).1, Evn.snoc (HNO.out h).2 HP.out (by
                    have := (HNO.out h).1
                    subst this
                    simp; omega)⟩, HYES.out⟩
                  case measure => simp [intOf]; omega
            · go_wp2
              go_roundg (f2.sum + (if b2 then 1 else 0))
              case measure =>
                have h1 := HG.out
                have h2 := HYES.out
                have h3 := HS2.out
                cases b2 with
                | true => have := h2 rfl; simp at h1 ⊢; omega
                | false => simp at h1 ⊢; omega
              case rel => exact ⟨b2, f2, rfl, rfl, HF2.out, HLB2.out, hown2, hw2, fun h => by
                have h3 := HNO.out h
                rw [h3.1]
                have := h3.2
                rwa [List.take_of_length_le (by have := HL.out; omega)] at this⟩
end Go.Proofs.YtkkaejbdekdljaaDoor
