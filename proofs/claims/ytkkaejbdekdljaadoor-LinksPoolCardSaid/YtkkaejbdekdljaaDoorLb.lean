/- Walks: told, sized, named and Groups of package links. -/
import Derived.Test.YtkkaejbdekdljaaDoorEc
import Derived.Test.YtkkaejbdekdljaaDoorLa
import Derived.Test.YtkkaejbdekdljaaDoorWc
set_option linter.unusedVariables false
set_option linter.unusedSimpArgs false
namespace Go.Proofs.YtkkaejbdekdljaaDoor
open Go.RowKit

/-- The errors that tell a place. -/
def Placed (n : Int) : Bool := n == 10 || n == 11 || n == 24
/-- An error value is the number n, with the place, if n is one that tells it. -/
def ErrIs (v : Value) (n l c : Int) : Prop := (n = 0 ∧ v = .nilIface) ∨ (1 ≤ n ∧ n ≤ 24 ∧ Er v n (if Placed n then some (l, c) else none))

set_option maxHeartbeats 1000000 in
theorem told_any {v : Value} {n l c : Int} (h : ErrIs v n l c) (w : World) (hg : ErrVar w) :
    Calls Tryd.prog 11 #[v, .int .i64 n, .int .i64 l, .int .i64 c] w fun e w' => e = .returned (.bool true) ∧ New w w' := by
  rcases h with ⟨rfl, rfl⟩ | ⟨h1, h24, h⟩
  · go_enter Tryd.func11, Tryd.ntmps11
    go_wp2_with (go_at_call 22; refine (plain_nil _).mono ?_; rintro e w1 ⟨rfl, hw1⟩)
    go_ret
    exact ⟨rfl, hw1⟩
  · by_cases hp : Placed n = true
    · rw [if_pos hp] at h
      obtain ⟨t, x, rfl⟩ := h.iface
      have hp2 : n = 10 ∨ n = 11 ∨ n = 24 := by simpa [Placed, or_assoc] using hp
      rcases hp2 with rfl | rfl | rfl
      all_goals
        go_enter Tryd.func11, Tryd.ntmps11
        go_wp2_with (go_at_call 42; refine (at_any h (by omega) (by omega) _ hg).mono ?_; rintro e w1 ⟨rfl, hw1⟩)
        go_ret
        exact ⟨rfl, hw1⟩
    · rw [if_neg hp] at h
      obtain ⟨t, x, rfl⟩ := h.iface
      have hp2 : ¬ (n = 10 ∨ n = 11 ∨ n = 24) := by simpa [Placed, or_assoc] using hp
      have d1 : (n == 10) = false := by simp; omega
      have d2 : (n == 11) = false := by simp; omega
      have d3 : (n == 24) = false := by simp; omega
      go_enter Tryd.func11, Tryd.ntmps11
      go_wp2_with (go_at_call 22; refine (plain_any h h1 h24 _ hg).mono ?_; rintro e w1 ⟨rfl, hw1⟩)
      go_ret
      exact ⟨rfl, hw1⟩

theorem sized_any (n : Int) (w : World) :
    Calls Tryd.prog 37 #[.int .i64 n] w fun e w' => e = .returned (if n < 0 then .iface 82 (.agg #[.int .i64 1]) else if 4096 < n then .iface 82 (.agg #[.int .i64 5]) else .nilIface) ∧ New w w' := by
  by_cases h1 : n < 0
  · rw [if_pos h1]
    go_enter Tryd.func37, Tryd.ntmps37
    go_wp2
    go_ret
    exact ⟨rfl, Mod.refl _ _⟩
  · rw [if_neg h1]
    by_cases h2 : 4096 < n
    · rw [if_pos h2]
      go_enter Tryd.func37, Tryd.ntmps37
      go_wp2
      go_ret
      exact ⟨rfl, Mod.refl _ _⟩
    · rw [if_neg h2]
      go_enter Tryd.func37, Tryd.ntmps37
      go_wp2
      go_ret
      exact ⟨rfl, Mod.refl _ _⟩

/-- A pair names things. -/
def names (n : Nat) (p : Int × Int) : Bool := decide (0 ≤ p.1 ∧ p.1 < n ∧ 0 ≤ p.2 ∧ p.2 < n)
/-- The place of the first pair from k on that names no things. -/
def lostFrom (n : Nat) : Nat → List (Int × Int) → Option Nat
  | _, [] => none
  | k, p :: l => if names n p then lostFrom n (k + 1) l else some k

/-- The error that says that pair k names no things. -/
def lostErr : Option Nat → Value
  | none => .nilIface
  | some k => .iface 88 (.agg #[.int .i64 10, .int .i64 0, .int .i64 (k : Int)])
theorem lostFrom_yes {n k : Nat} {p : Int × Int} {l : List (Int × Int)} (h : names n p = true) : lostFrom n k (p :: l) = lostFrom n (k + 1) l := by simp [lostFrom, h]
theorem lostFrom_no {n k : Nat} {p : Int × Int} {l : List (Int × Int)} (h : names n p = false) : lostFrom n k (p :: l) = some k := by simp [lostFrom, h]

set_option maxHeartbeats 1000000 in
theorem named_any (n : Nat) (A : Option Addr) (m c : Nat) (l : List (Int × Int)) (w : World) (hn : n ≤ 4096) (ha : Sl w A m 2 (twos l)) :
    Calls Tryd.prog 38 #[.int .i64 (n : Int), .slice A m c] w fun e w' => e = .returned (lostErr (lostFrom n 0 l)) ∧ New w w' := by
  have hl : l.length = m := by have := ha.len; rw [twos_length] at this; omega
  have hm := ha.le
  have HL := Lib.hid hl
  clear hl
  go_enter Tryd.func38, Tryd.ntmps38
  go_wp2
  go_loopw [5, 6, 9] (fun _ _ i wr => ∃ k : Nat, k ≤ m ∧ i = .int .i64 (k : Int) ∧ lostFrom n 0 l = lostFrom n k (l.drop k) ∧ New w wr) (fun _ _ i _ => m - (intOf i).toNat)
  case atStart => exact ⟨0, Nat.zero_le _, rfl, by simp, Mod.refl _ _⟩
  case round =>
    obtain ⟨k, hk, rfl, hlost, hw⟩ := hrel
    have HR := Lib.hid hlost
    clear hlost
    by_cases hlt : k < m
    · obtain ⟨b, off, p, rfl, hp, hc0, hc1⟩ := (ha.new_ hw).two hlt
      have hdrop : l.drop k = p :: l.drop (k + 1) := by
        rw [List.drop_eq_getElem_cons (by have := HL.out; omega)]
        congr 1
        rw [List.getElem?_eq_getElem (by have := HL.out; omega)] at hp
        injection hp
      have HD := Lib.hid hdrop
      clear hdrop hp
      obtain ⟨x, y⟩ := p
      have hret : names n (x, y) = false → Ending.returned (.iface 88 (.agg #[.int .i64 10, .int .i64 0, .int .i64 (k : Int)])) = .returned (lostErr (lostFrom n 0 l)) := fun h => by
        rw [HR.out, HD.out, lostFrom_no h]; rfl
      have HT := Lib.hid hret
      clear hret
      by_cases hmin : min x y < 0
      · go_wp2
        go_ret
        exact ⟨HT.out (by simp [names]; omega), hw.alloc _⟩
      · by_cases hmax : (n : Int) ≤ max x y
        · go_wp2
          go_ret
          exact ⟨HT.out (by simp [names]; omega), hw.alloc _⟩
        · go_wp2
          go_roundw
          case rel => exact ⟨k + 1, by omega, by go_num, by rw [HR.out, HD.out, lostFrom_yes (by simp [names]; omega)], hw.alloc _⟩
          case measure => simp [intOf]; omega
    · have hret : Ending.returned .nilIface = .returned (lostErr (lostFrom n 0 l)) := by
        rw [HR.out, List.drop_of_length_le (by have := HL.out; omega)]; rfl
      have HT := Lib.hid hret
      clear hret
      go_wp2
      go_ret
      exact ⟨HT.out, hw⟩
end Go.Proofs.YtkkaejbdekdljaaDoor
