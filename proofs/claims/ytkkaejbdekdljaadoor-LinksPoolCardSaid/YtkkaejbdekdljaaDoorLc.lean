/- Walks: links.Groups, and the document's Groups. -/
import Derived.Test.YtkkaejbdekdljaaDoorLb
set_option linter.unusedVariables false
set_option linter.unusedSimpArgs false
namespace Go.Proofs.YtkkaejbdekdljaaDoor
open Go.RowKit

/-- The error of Groups: its number, its place. -/
def grpErr (n : Int) (l : List (Int × Int)) : Int × Int :=
  if n < 0 then (1, 0) else if 4096 < n then (5, 0) else match lostFrom n.toNat 0 l with | some k => (10, (k : Int)) | none => (0, 0)
/-- What Groups answers. -/
def GrpOut (n : Int) (l : List (Int × Int)) (r : List Nat) : Prop := if (grpErr n l).1 = 0 then r.length = n.toNat ∧ Least n.toNat l (at_ r) else r = []
theorem GrpOut.unique {n : Int} {l : List (Int × Int)} {r r' : List Nat} (h : GrpOut n l r) (h' : GrpOut n l r') : r = r' := by
  unfold GrpOut at h h'
  split at h
  · rename_i h0
    rw [if_pos h0] at h'
    exact list_of_at (h.1.trans h'.1.symm) fun i hi => h.2.unique h'.2 i (by omega)
  · rename_i h0
    rw [if_neg h0] at h'
    rw [h, h']
theorem lostFrom_none {n : Nat} {l : List (Int × Int)} : ∀ {k : Nat}, lostFrom n k l = none → ∀ p, p ∈ l → 0 ≤ p.1 ∧ p.1 < n ∧ 0 ≤ p.2 ∧ p.2 < n := by
  induction l with
  | nil => intro k _ p hp; simp at hp
  | cons q l ih =>
    intro k h p hp
    by_cases hq : names n q = true
    · rw [lostFrom_yes hq] at h
      rcases List.mem_cons.1 hp with rfl | hp
      · simpa [names] using hq
      · exact ih h p hp
    · rw [lostFrom_no (by simpa using hq)] at h
      cases h

/-- What a call of Groups comes to. -/
def GrpPost (w : World) (n : Int) (l : List (Int × Int)) (e : Ending) (w' : World) : Prop :=
  ∃ v ev r, e = .returned (.tuple #[v, ev]) ∧ ErrIs ev (grpErr n l).1 0 (grpErr n l).2 ∧ w'.ownsRow w.heap.size 3 1 v r.length (nats r) ∧ GrpOut n l r ∧ New w w'

theorem own_blk {w : World} {B g n : Nat} {r : List Nat} (h : Blk w g 3 (nats r)) (hB : B ≤ g) (hr : r.length = n) (hn : n ≤ 4096) : w.ownsRow B 3 1 (.slice (some ⟨g, 0, none⟩) n n) r.length (nats r) := by
  subst hr
  refine ⟨by simp [nats], .inr ⟨g, r.length, (nats r).toArray, rfl, hB, h, Nat.le_refl _, by unfold maxLen; omega, by simp [nats], ?_⟩⟩
  simp [nats, List.take_of_length_le]

set_option maxHeartbeats 1000000 in
theorem linksGroups_any (n : Int) (A : Option Addr) (m c : Nat) (l : List (Int × Int)) (w : World) (ha : Sl w A m 2 (twos l)) :
    Calls Tryd.prog 10 #[.int .i64 n, .slice A m c] w (GrpPost w n l) := by
  have hl : l.length = m := by have := ha.len; rw [twos_length] at this; omega
  have hm := ha.le
  have HL := Lib.hid hl
  clear hl
  by_cases h1 : n < 0
  · have hs := fun w => sized_any n w
    simp only [if_pos h1] at hs
    have HP : ∀ w', New w w' → GrpPost w n l (.returned (.tuple #[.slice none 0 0, .iface 82 (.agg #[.int .i64 1])])) w' := fun w' hw =>
      ⟨_, _, [], rfl, by simp [grpErr, h1]; exact .inr ⟨by omega, by omega, .ref 1⟩, own_nil _ _ _ _, by simp [GrpOut, grpErr, h1], hw⟩
    have HS := Lib.hid hs
    have HH := Lib.hid HP
    clear hs HP
    go_enter Tryd.func10, Tryd.ntmps10
    go_wp2_with (go_at_call 37; refine (HS.out _).mono ?_; rintro e w1 ⟨rfl, hw1⟩)
    go_ret2
    exact HH.out _ hw1
  · by_cases h2 : 4096 < n
    · have hs := fun w => sized_any n w
      simp only [if_neg h1, if_pos h2] at hs
      have HP : ∀ w', New w w' → GrpPost w n l (.returned (.tuple #[.slice none 0 0, .iface 82 (.agg #[.int .i64 5])])) w' := fun w' hw =>
        ⟨_, _, [], rfl, by simp [grpErr, h1, h2]; exact .inr ⟨by omega, by omega, .ref 5⟩, own_nil _ _ _ _, by simp [GrpOut, grpErr, h1, h2], hw⟩
      have HS := Lib.hid hs
      have HH := Lib.hid HP
      clear hs HP
      go_enter Tryd.func10, Tryd.ntmps10
      go_wp2_with (go_at_call 37; refine (HS.out _).mono ?_; rintro e w1 ⟨rfl, hw1⟩)
      go_ret2
      exact HH.out _ hw1
    · obtain ⟨n, rfl⟩ := Int.eq_ofNat_of_zero_le (Int.not_lt.1 h1)
      have hn : n ≤ 4096 := by omega
      have hs := fun w => sized_any (n : Int) w
      simp only [if_neg h1, if_neg h2] at hs
      have HS := Lib.hid hs
      clear hs
      cases hlost : lostFrom n 0 l with
      | some k =>
        have hge : grpErr (n : Int) l = (10, (k : Int)) := by unfold grpErr; rw [if_neg h1, if_neg h2]; simp [hlost]
        have HP : ∀ w', New w w' → GrpPost w n l (.returned (.tuple #[.slice none 0 0, .iface 88 (.agg #[.int .i64 10, .int .i64 0, .int .i64 (k : Int)])])) w' := fun w' hw =>
          ⟨_, _, [], rfl, by rw [hge]; exact .inr ⟨by omega, by omega, .fault 10 0 k⟩, own_nil _ _ _ _, by simp [GrpOut, hge], hw⟩
        have hna := fun w ha => named_any n A m c l w hn ha
        simp only [hlost, lostErr] at hna
        have HN := Lib.hid hna
        have HH := Lib.hid HP
        clear HP hna hlost hge
        go_enter Tryd.func10, Tryd.ntmps10
        go_wp2_with (first
          | (go_at_call 37; refine (HS.out _).mono ?_; rintro e w1 ⟨rfl, hw1⟩)
          | (go_at_call 38; refine (HN.out _ (ha.new_ hw1)).mono ?_; rintro e w2 ⟨rfl, hw2⟩))
        go_ret2
        exact HH.out _ (New.trans hw1 hw2)
      | none =>
        have hge : grpErr (n : Int) l = (0, 0) := by unfold grpErr; rw [if_neg h1, if_neg h2]; simp [hlost]
        have hna := fun w ha => named_any n A m c l w hn ha
        simp only [hlost, lostErr] at hna
        have HN := Lib.hid hna
        have hin := lostFrom_none hlost
        have HP : ∀ w' h r, New w w' → w.heap.size ≤ h → Blk w' h 3 (nats r) → r.length = n → Least n l (at_ r) → GrpPost w n l (.returned (.tuple #[.slice (some ⟨h, 0, none⟩) n n, .nilIface])) w' := fun w' h r hw hh hb hr hls =>
          ⟨_, _, r, rfl, by rw [hge]; exact .inl ⟨rfl, rfl⟩, own_blk hb hh hr hn, by simp [GrpOut, hge]; exact ⟨hr, hls⟩, hw⟩
        have HH := Lib.hid HP
        have HI := Lib.hid hin
        clear HP hna hlost hin hge
        go_enter Tryd.func10, Tryd.ntmps10
        go_wp2_with (first
          | (go_at_call 37; refine (HS.out _).mono ?_; rintro e w1 ⟨rfl, hw1⟩)
          | (go_at_call 38; refine (HN.out _ (ha.new_ hw1)).mono ?_; rintro e w2 ⟨rfl, hw2⟩)
          | (go_at_call 39; refine (newForest_any n _ hn).mono ?_; rintro e w3 ⟨g, rfl, hg, hb, hw3⟩))
        have hw03 : New w w3 := New.trans (New.trans hw1 hw2) hw3
        have hgB : w.heap.size ≤ g := Nat.le_trans (New.trans hw1 hw2).size hg
        have HW := Lib.hid hw03
        clear hw1 hw2 hw3 hw03 HN HS
        go_loopw [10, 26] (fun _ i wr => ∃ (k : Nat) (f : List Nat), k ≤ m ∧ i = .int .i64 (k : Int) ∧ f.length = n ∧ Tree n (l.take k) (at_ f) ∧ Blk wr g 3 (nats f) ∧ New w wr) (fun _ i _ => m - (intOf i).toNat)
        case atStart => exact ⟨0, List.range n, Nat.zero_le _, rfl, by simp, by simp; exact Tree.start _ _ fun i hi => by simp [at_, List.getD_eq_getElem?_getD, hi], hb, HW.out⟩
        case round =>
          obtain ⟨k, f, hk, rfl, hf, ht, hb, hw⟩ := hrel
          have HF := Lib.hid hf
          have HT := Lib.hid ht
          clear hf ht
          by_cases hlt : k < m
          · obtain ⟨b, off, p, rfl, hp, hc0, hc1⟩ := (ha.new_ hw).two hlt
            have hpm : p ∈ l := List.mem_of_getElem? hp
            have hpin := HI.out p hpm
            have HP := Lib.hid hp
            obtain ⟨x, y⟩ := p
            obtain ⟨x, rfl⟩ := Int.eq_ofNat_of_zero_le hpin.1
            obtain ⟨y, rfl⟩ := Int.eq_ofNat_of_zero_le hpin.2.2.1
            have hx : x < n := by have := hpin.2.1; simpa using this
            have hy : y < n := by have := hpin.2.2.2; simpa using this
            clear hp hpm hpin
            go_wp2_with (go_at_call 40; refine (join_any g n n x y f _ (hb.alloc _) HF.out HT.out.le hx hy hn (Nat.le_refl _)).mono ?_; rintro e w4 ⟨rfl, f', hf', hle', hrt', hb', hw4⟩)
            go_roundw
            case rel => exact ⟨k + 1, f', by omega, by go_num, hf', by
              rw [List.take_add_one, HP.out]
              refine Tree.snoc HT.out (fun q hq => ?_) ⟨by simpa using hx, by simpa using hy⟩ (by simpa using hrt') hle'
              have := HI.out q (List.mem_of_mem_take hq)
              omega, hb', Mod.trans (hw.alloc _) hw4 (fun i hi hs => by omega)⟩
            case measure => simp [intOf]; omega
          · have ht2 : Tree n l (at_ f) := by have := HT.out; rwa [List.take_of_length_le (by have := HL.out; omega)] at this
            have HT2 := Lib.hid ht2
            clear ht2
            go_wp2_with (go_at_call 41; refine (roots_any g n n f _ hb HF.out HT2.out.le hn (Nat.le_refl _)).mono ?_; rintro e w5 ⟨h, r, rfl, hh, hbr, hr, hrr, hw5⟩)
            go_ret2
            refine HH.out _ h r (Mod.trans hw hw5 (fun i hi hs => by omega)) (Nat.le_trans hw.size hh) hbr hr ?_
            have := HT2.out.least
            exact ⟨fun i hi => by rw [hrr i hi]; exact this.le i hi, fun q hq => by
              have hq2 := HI.out q hq
              rw [hrr _ (by omega), hrr _ (by omega)]; exact this.pair q hq, fun c hc i hi => by rw [hrr i hi]; exact this.any c hc i hi⟩
end Go.Proofs.YtkkaejbdekdljaaDoor
