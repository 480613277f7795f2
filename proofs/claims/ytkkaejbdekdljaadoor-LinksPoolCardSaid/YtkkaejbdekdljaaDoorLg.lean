/- Walks: links.Order. -/
import Derived.Test.YtkkaejbdekdljaaDoorLf
set_option linter.unusedVariables false
set_option linter.unusedSimpArgs false
namespace Go.Proofs.YtkkaejbdekdljaaDoor
open Go.RowKit

/-- The error of Order: its number, its place. -/
def ordErr (n : Int) (l : List (Int × Int)) (pn : Nat) (prio : List Int) : Int × Int :=
  if n < 0 then (1, 0) else if 4096 < n then (5, 0) else if (pn : Int) < n then (2, 0) else if n < (pn : Int) then (3, 0) else
  match lostFrom n.toNat 0 l with
  | some k => (10, (k : Int))
  | none => if (ordered l (prioOf prio) n.toNat).length = n.toNat then (0, 0) else (12, 0)
/-- What Order answers. -/
def ordOut (n : Int) (l : List (Int × Int)) (pn : Nat) (prio : List Int) : List Nat := if (ordErr n l pn prio).1 = 0 then ordered l (prioOf prio) n.toNat else []
def OrderPost (w : World) (n : Int) (l : List (Int × Int)) (pn : Nat) (prio : List Int) (e : Ending) (w' : World) : Prop :=
  ∃ v ev, e = .returned (.tuple #[v, ev]) ∧ ErrIs ev (ordErr n l pn prio).1 0 (ordErr n l pn prio).2 ∧ w'.ownsRow w.heap.size 3 1 v (ordOut n l pn prio).length (nats (ordOut n l pn prio)) ∧ New w w'
theorem order_bad {w : World} {n : Int} {l : List (Int × Int)} {pn : Nat} {prio : List Int} {ev : Value} {a c : Int} (h : ordErr n l pn prio = (a, c)) (ha : a ≠ 0) (he : ErrIs ev a 0 c) : ∀ w', New w w' → OrderPost w n l pn prio (.returned (.tuple #[.slice none 0 0, ev])) w' := fun w' hw =>
  ⟨_, _, rfl, by rw [h]; exact he, by have e : ordOut n l pn prio = [] := by simp [ordOut, h, ha]
                                      rw [e]; exact own_nil _ _ _ _, hw⟩

set_option maxRecDepth 100000 in
set_option maxHeartbeats 1000000 in
theorem linksOrder_any (n : Int) (A P : Option Addr) (m c pn pc : Nat) (l : List (Int × Int)) (prio : List Int) (w : World) (ha : Sl w A m 2 (twos l)) (hp : Sl w P pn 1 (nums prio)) (hm4 : m ≤ 4294967296) :
    Calls Tryd.prog 17 #[.int .i64 n, .slice A m c, .slice P pn pc] w (OrderPost w n l pn prio) := by
  have hpm := hp.le
  by_cases h1 : n < 0
  · have hs := fun w => sized_any n w
    simp only [if_pos h1] at hs
    have HH := Lib.hid (order_bad (w := w) (n := n) (l := l) (pn := pn) (prio := prio) (a := 1) (c := 0) (by simp [ordErr, h1]) (by decide) (.inr ⟨by omega, by omega, .ref 1⟩))
    have HS := Lib.hid hs
    clear hs
    go_enter Tryd.func17, Tryd.ntmps17
    go_wp2_with (go_at_call 37; refine (HS.out _).mono ?_; rintro e w1 ⟨rfl, hw1⟩)
    go_ret2
    exact HH.out _ hw1
  · by_cases h2 : 4096 < n
    · have hs := fun w => sized_any n w
      simp only [if_neg h1, if_pos h2] at hs
      have HH := Lib.hid (order_bad (w := w) (n := n) (l := l) (pn := pn) (prio := prio) (a := 5) (c := 0) (by simp [ordErr, h1, h2]) (by decide) (.inr ⟨by omega, by omega, .ref 5⟩))
      have HS := Lib.hid hs
      clear hs
      go_enter Tryd.func17, Tryd.ntmps17
      go_wp2_with (go_at_call 37; refine (HS.out _).mono ?_; rintro e w1 ⟨rfl, hw1⟩)
      go_ret2
      exact HH.out _ hw1
    · obtain ⟨n, rfl⟩ := Int.eq_ofNat_of_zero_le (Int.not_lt.1 h1)
      have hn : n ≤ 4096 := by omega
      have hs := fun w => sized_any (n : Int) w
      simp only [if_neg h1, if_neg h2] at hs
      have HS := Lib.hid hs
      clear hs
      by_cases h3 : pn < n
      · have HH := Lib.hid (order_bad (w := w) (n := (n : Int)) (l := l) (pn := pn) (prio := prio) (a := 2) (c := 0) (by unfold ordErr; rw [if_neg h1, if_neg h2, if_pos (by omega)]) (by decide) (.inr ⟨by omega, by omega, .ref 2⟩))
        go_enter Tryd.func17, Tryd.ntmps17
        go_wp2_with (go_at_call 37; refine (HS.out _).mono ?_; rintro e w1 ⟨rfl, hw1⟩)
        go_ret2
        exact HH.out _ hw1
      · by_cases h4 : n < pn
        · have HH := Lib.hid (order_bad (w := w) (n := (n : Int)) (l := l) (pn := pn) (prio := prio) (a := 3) (c := 0) (by unfold ordErr; rw [if_neg h1, if_neg h2, if_neg (by omega), if_pos (by omega)]) (by decide) (.inr ⟨by omega, by omega, .ref 3⟩))
          go_enter Tryd.func17, Tryd.ntmps17
          go_wp2_with (go_at_call 37; refine (HS.out _).mono ?_; rintro e w1 ⟨rfl, hw1⟩)
          go_ret2
          exact HH.out _ hw1
        · obtain rfl : pn = n := by omega
          cases hlost : lostFrom pn 0 l with
          | some k =>
            have HH := Lib.hid (order_bad (w := w) (n := (pn : Int)) (l := l) (pn := pn) (prio := prio) (a := 10) (c := k) (by unfold ordErr; rw [if_neg h1, if_neg h2, if_neg (by omega), if_neg (by omega)]; simp [hlost]) (by decide) (.inr ⟨by omega, by omega, .fault 10 0 k⟩))
            have hna := fun w ha => named_any pn A m c l w hn ha
            simp only [hlost, lostErr] at hna
            have HN := Lib.hid hna
            clear hna hlost
            go_enter Tryd.func17, Tryd.ntmps17
            go_wp2_with (first
              | (go_at_call 37; refine (HS.out _).mono ?_; rintro e w1 ⟨rfl, hw1⟩)
              | (go_at_call 38; refine (HN.out _ (ha.new_ hw1)).mono ?_; rintro e w2 ⟨rfl, hw2⟩))
            go_ret2
            exact HH.out _ (New.trans hw1 hw2)
          | none =>
            have hna := fun w ha => named_any pn A m c l w hn ha
            simp only [hlost, lostErr] at hna
            have HN := Lib.hid hna
            have HI := Lib.hid (lostFrom_none hlost)
            by_cases hfull : (ordered l (prioOf prio) pn).length = pn
            · have hge : ordErr (pn : Int) l pn prio = (0, 0) := by unfold ordErr; rw [if_neg h1, if_neg h2, if_neg (by omega), if_neg (by omega)]; simp [hlost, hfull]
              have HP : ∀ w' v, New w w' → w'.ownsRow w.heap.size 3 1 v (ordered l (prioOf prio) pn).length (nats (ordered l (prioOf prio) pn)) → OrderPost w pn l pn prio (.returned (.tuple #[v, .nilIface])) w' := fun w' v hw hv =>
                ⟨_, _, rfl, by rw [hge]; exact .inl ⟨rfl, rfl⟩, by simpa [ordOut, hge] using hv, hw⟩
              have HH := Lib.hid HP
              have HF := Lib.hid hfull
              clear HP hna hlost hge hfull
              go_enter Tryd.func17, Tryd.ntmps17
              go_wp2_with (first
                | (go_at_call 37; refine (HS.out _).mono ?_; rintro e w1 ⟨rfl, hw1⟩)
                | (go_at_call 38; refine (HN.out _ (ha.new_ hw1)).mono ?_; rintro e w2 ⟨rfl, hw2⟩)
                | (go_at_call 47; refine (order_any pn A P m c pn pc l prio _ hn (ha.new_ (New.trans hw1 hw2)) HI.out (hp.new_ (New.trans hw1 hw2)) hm4).mono ?_; rintro e w3 ⟨v, b, rfl, hb, hv, hw3⟩; have hb2 : b = true := (by rw [hb, HF.out]; simp); clear hb; subst hb2))
              go_ret2
              exact HH.out _ v (New.trans (New.trans hw1 hw2) hw3) (own_mono hv (New.trans hw1 hw2).size)
            · have HH := Lib.hid (order_bad (w := w) (n := (pn : Int)) (l := l) (pn := pn) (prio := prio) (a := 12) (c := 0) (by unfold ordErr; rw [if_neg h1, if_neg h2, if_neg (by omega), if_neg (by omega)]; simp [hlost, hfull]) (by decide) (.inr ⟨by omega, by omega, .ref 12⟩))
              have HF := Lib.hid hfull
              clear hna hlost hfull
              go_enter Tryd.func17, Tryd.ntmps17
              go_wp2_with (first
                | (go_at_call 37; refine (HS.out _).mono ?_; rintro e w1 ⟨rfl, hw1⟩)
                | (go_at_call 38; refine (HN.out _ (ha.new_ hw1)).mono ?_; rintro e w2 ⟨rfl, hw2⟩)
                | (go_at_call 47; refine (order_any pn A P m c pn pc l prio _ hn (ha.new_ (New.trans hw1 hw2)) HI.out (hp.new_ (New.trans hw1 hw2)) hm4).mono ?_; rintro e w3 ⟨v, b, rfl, hb, hv, hw3⟩; have hb2 : b = false := (by rw [hb]; simpa using HF.out); clear hb; subst hb2))
              go_ret2
              exact HH.out _ (New.trans (New.trans hw1 hw2) hw3)
end Go.Proofs.YtkkaejbdekdljaaDoor
