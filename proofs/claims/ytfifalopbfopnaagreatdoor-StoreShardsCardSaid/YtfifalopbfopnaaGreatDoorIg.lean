/- Walks: a chain of versions (numbers): All, Last. -/
import Derived.RangeFuncNested
import Derived.RangeFuncBound
import Derived.RangeFuncCalls
import Derived.RangeFuncLeaves
import Derived.Shelf.Abstract
import Derived.Shelf.RegionOpen
import Derived.WalkKit
import Derived.OwnWalkIn
import Derived.TacticsInMore
import Derived.LoopNIn
import Derived.LoopIn
import Derived.Test.YtfifalopbfopnaaGreatDoorIf
set_option linter.unusedVariables false
set_option linter.unusedSimpArgs false
namespace Go.Proofs.YtfifalopbfopnaaGreatDoor.I
open Go.RowKit Go.Shelf
attribute [local go_sem] Oper.semAt_some

theorem New.grown_ {w w' : World} (h : New w w') : w.grownBy w' none := ⟨h.os, h.tape, h.output, h.size, fun k hk _ => h.block k hk (fun h => h)⟩
theorem blk_own {A B : World} {row : Option Nat} {g : Nat} {t : TypeId} {cs : List Value} (h : Blk A g t cs) (hg : A.grownBy B row) (hr : ∀ r, row = some r → ∃ o : Obj, A.heap[r]? = some o ∧ o.isCells = false) : Blk B g t cs :=
  (hg.block g h.lt (fun e => by
    obtain ⟨o, ho, hn⟩ := hr g e.symm
    unfold Blk at h
    rw [h] at ho
    injection ho with ho
    subst ho
    cases hn)).trans h
/-- What an iterator asks of a round: what lies below n, and block x, stay. -/
abbrev KM (n x : Nat) (w w' : World) : Prop := Mod (fun b => n ≤ b ∧ b ≠ x) w w'
theorem KM.t {n x : Nat} {A B C : World} (h : KM n x A B) (k : KM n x B C) : KM n x A C := Mod.trans h k (fun _ _ h => h)
theorem KM.b {n x : Nat} {w : World} (hn : n ≤ w.heap.size) (hx : x < w.heap.size) (W : World) (l : Nat) (o o' : Obj) (hl : w.heap.size ≤ l) (h : W.heap[l]? = some o) (_ : o.isCells = false) (_ : o.isWalk = false) : KM n x W (W.putObj l o') :=
  Mod.of_grown (grownBy_putObj' W l o') (fun k e => by cases e; exact ⟨by omega, by omega⟩)
theorem KM.of_new {n x : Nat} {A B : World} (h : New A B) : KM n x A B := Mod.mono h (fun _ _ h => h.elim)
/-- A chain all of whose blocks lie below n. -/
structure ChainLow (w : World) (n B c : Nat) (v : Value) (l : VersS) : Prop where
  at_ : ChainAt w B c v l
  low : ∀ b, ChainF c v b → b < n
theorem ChainLow.below {w w' : World} {n x B c : Nat} {v : Value} {l : VersS} (h : ChainLow w n B c v l) (hb : KM n x w w') : ChainLow w' n B c v l :=
  ⟨⟨h.at_.blk.kept hb (fun hx => by have := h.low c (.inl rfl); omega), own_mod' h.at_.own hb (fun b hv hx => by have := h.low b (.inr hv); omega)⟩, h.low⟩
/-- The number given last. -/
def lastN (l : VersS) (k : Nat) : Int := match l[k - 1]? with | some x => if k = 0 then -1 else x.1 | none => -1
theorem upTo_last {l : VersS} (hr : Rising l) {k : Nat} (hk : k ≤ l.length) : upTo l (lastN l k) = k := by
  symm
  refine upTo_unique hr hk (fun i x hi hx => ?_) (fun i x hi hx => ?_)
  · have hkk : l[k - 1]? = some (l[k-1]'(by omega)) := List.getElem?_eq_getElem _
    unfold lastN
    rw [hkk]
    simp only
    rw [if_neg (by omega)]
    by_cases e : i = k - 1
    · subst e; rw [hx] at hkk; injection hkk with hkk; rw [← hkk]; exact Int.le_refl _
    · have := hr.at_lt hx hkk (by omega); omega
  · unfold lastN
    cases hkk : l[k - 1]? with
    | none => simp only; have := hr.2 x (List.mem_of_getElem? hx); omega
    | some y =>
      simp only
      split
      · have := hr.2 x (List.mem_of_getElem? hx); omega
      · exact hr.at_lt hkk hx (by omega)
theorem lastN_zero (l : VersS) : lastN l 0 = -1 := by unfold lastN; split <;> simp
theorem lastN_succ {l : VersS} {k : Nat} {x : Int × Int} (h : l[k]? = some x) : lastN l (k + 1) = x.1 := by
  unfold lastN; rw [Nat.add_sub_cancel, h]; simp
theorem take_succ_at {l : VersS} {k : Nat} {x : Int × Int} (h : l[k]? = some x) : l.take (k + 1) = l.take k ++ [x] := by
  rw [List.take_add_one, h]; rfl

theorem wide_depth {q : Prop} (h : Fence.wide.depth.isSome = true) : q := by simp [Fence.wide] at h
abbrev encY (x : Int × Int) : Array Value := #[.int .i64 x.1, .int .i64 x.2]
set_option maxRecDepth 100000 in
set_option maxHeartbeats 2000000 in
theorem all1_any (m l0 Bx n₀ B c : Nat) (v : Value) (l : VersS) (hr : Rising l) (hl : l.length ≤ 4294967296) (J Jx : List (Int × Int) → World → Prop)
    (W : World) (hJ : AbidesFrom W.heap.size J)
    (hY : ∀ pre x W1, J pre W1 → pre.length < l.length → YieldAt Fence.wide (m - 1) Tryz.prog l0 (encY x) W1 fun e W' =>
      (e = .returned (.bool true) ∧ J (pre ++ [x]) W' ∧ KM n₀ Bx W1 W') ∨ (e = .returned (.bool false) ∧ Jx (pre ++ [x]) W'))
    (hBx : W.cell? ⟨Bx, 0, none⟩ = some (.pointer (some ⟨c, 0, none⟩))) (hC : ChainLow W n₀ B c v l) (h0 : J [] W) :
    CallsIn Fence.wide m Tryz.prog 126 #[.func (.yield l0) #[] #[], .pointer (some ⟨Bx, 0, none⟩)] W fun e W' => (∃ v, e = .returned v) ∧
      ((∃ ys, ys = l ∧ J ys W') ∨ (∃ pre, pre <+: l ∧ Jx pre W')) := by
  have HJ := Lib.hid (fun (s : List (Int × Int)) (W1 W2 : World) (h : J s W1) (hn : New W1 W2) => hJ s W1 W2 none h hn.grown_ (fun r e => by cases e))
  have HL := Lib.hid hl
  have HR := Lib.hid hr
  have HA := Lib.hid (fun (n : Int) (W1 : World) (h : ChainLow W1 n₀ B c v l) => above_any B c v l n W1 h.at_ hr hl)
  have HY := Lib.hid hY
  have HC := Lib.hid hC
  have HB0 := Lib.hid h0
  obtain ⟨A, cap, rfl⟩ := own_shape hC.at_.own
  clear hJ hl hr hY hC
  have h00 : upTo l (-1) = 0 := by have := upTo_last HR.out (Nat.zero_le l.length); rwa [lastN_zero] at this
  refine callsIn_of_wp Tryz.func126 rfl trivial ?_ rfl
  simp only [Tryz.ntmps126, List.size_toArray, List.length_cons, List.length_nil, Nat.reduceAdd, Nat.reduceSub, Array.replicate_succ, Array.replicate_zero, List.push_toArray, List.append_toArray, List.nil_append, List.cons_append]
  gi_wp2_with ((refine ⟨trivial, wide_depth, ?_⟩; gi_at_call 111; refine (callsIn_wide.2 (HA.out _ _ HC.out)).mono ?_; rintro e w1 ⟨rfl, hw1⟩; rw [h00]))
  gi_loopw [3, 4] (fun a b wr => ∃ k : Nat, k ≤ l.length ∧ a = .int .i64 (lastN l k) ∧ b = .int .i64 (k : Int) ∧ J (l.take k) wr ∧ KM n₀ Bx W wr) (fun _ b _ => l.length - (intOf b).toNat)
  case atStart => exact ⟨0, Nat.zero_le _, by rw [lastN_zero], rfl, HJ.out _ _ _ HB0.out hw1, KM.of_new hw1⟩
  case round =>
    obtain ⟨k, hk, rfl, rfl, hJs, hnx⟩ := hrel
    have hCr := HC.out.below hnx
    have hcl := HC.out.low c (.inl rfl)
    have kx : wr.cell? ⟨Bx, 0, none⟩ = some (.pointer (some ⟨c, 0, none⟩)) := hnx.cell hBx (fun h => h.2 rfl)
    have kc : wr.cell? ⟨c, 0, none⟩ = some (.slice A l.length cap) := hCr.at_.blk.cell 0
    by_cases hlt : k < l.length
    · obtain ⟨b, off, ⟨y0, y1⟩, rfl, hy, hc⟩ := (own_sl hCr.at_.own).elem encVer_len (by decide) hlt
      have c0 := hc 0 _ rfl
      have c1 := hc 1 _ rfl
      simp only [Nat.add_zero] at c0
      obtain ⟨wy, hwy⟩ : ∃ wy, wr.alloc (.cells #[.int .i64 y0, .int .i64 y1] 169) = wy := ⟨_, rfl⟩
      have hJy : J (l.take k) wy := by rw [← hwy]; exact HJ.out _ _ _ hJs ((Mod.refl _ _).alloc _)
      have hny : KM n₀ Bx W wy := by rw [← hwy]; exact hnx.alloc _
      have HY1 := Lib.hid (hy)
      obtain ⟨fn, tmps, assign, body, hyy, hR⟩ := HY.out (l.take k) (y0, y1) wy hJy (by simp; omega)
      dsimp only [encY] at hyy
      rw [← hwy] at hyy
      rw [← hwy] at hR
      have HWY := Lib.hid hwy
      have HNY := Lib.hid hny
      have HHC := Lib.hid hCr
      clear hwy hny hJy hc hy hCr
      gi_wp2
      refine ⟨wide_depth, hR.mono ?_⟩
      rintro e W3 (⟨rfl, hJ3, hk3⟩ | ⟨rfl, hJx3⟩)
      · have hW3 : KM n₀ Bx W W3 := by
          rw [HWY.out] at hk3
          exact KM.t HNY.out hk3
        have hC3 := HC.out.below hW3
        have k3 : W3.cell? ⟨Bx, 0, none⟩ = some (.pointer (some ⟨c, 0, none⟩)) := hW3.cell hBx (fun h => h.2 rfl)
        have hup : upTo l y0 = k + 1 := by
          have := upTo_last HR.out (show k + 1 ≤ l.length by omega)
          rwa [lastN_succ HY1.out] at this
        have HC3 := Lib.hid hC3
        have HUP := Lib.hid hup
        have HW3 := Lib.hid hW3
        clear hC3 hup hW3
        gi_wp2_with ((refine ⟨trivial, wide_depth, ?_⟩; gi_at_call 111; refine (callsIn_wide.2 (HA.out _ _ HC3.out)).mono ?_; rintro e w4 ⟨rfl, hw4⟩; rw [HUP.out]))
        go_roundw
        case rel => exact ⟨k + 1, by omega, by rw [lastN_succ HY1.out], rfl, by rw [take_succ_at HY1.out]; exact HJ.out _ _ _ hJ3 hw4, KM.t HW3.out (KM.of_new hw4)⟩
        case measure => simp [intOf]; omega
      · gi_wp2
        refine bodyPost_ret (results_none rfl _ _ _) rfl ?_
        exact ⟨⟨_, rfl⟩, .inr ⟨_, ⟨l.drop (k + 1), by rw [← take_succ_at HY1.out, List.take_append_drop]⟩, hJx3⟩⟩
    · obtain rfl : k = l.length := by omega
      gi_wp2
      go_end0
      exact ⟨⟨_, rfl⟩, .inl ⟨l, rfl, by rw [List.take_length] at hJs; exact hJs⟩⟩
theorem chainAll_any (m : Nat) (c : Nat) (w : World) :
    CallsIn Fence.wide m Tryz.prog 112 #[.pointer (some ⟨c, 0, none⟩)] w fun e w' => e = .returned (.func (.func 126) #[] #[.pointer (some ⟨w.heap.size, 0, none⟩)]) ∧ w' = w.alloc (.cells #[.pointer (some ⟨c, 0, none⟩)] 94) := by
  refine callsIn_of_wp Tryz.func112 rfl trivial ?_ rfl
  simp only [Tryz.ntmps112, List.size_toArray, List.length_cons, List.length_nil, Nat.reduceAdd, Nat.reduceSub, Array.replicate_succ, Array.replicate_zero, List.push_toArray, List.append_toArray, List.nil_append, List.cons_append]
  gi_wp2
  go_ret
  exact ⟨rfl, rfl⟩

theorem all_stops (m Bx n₀ B c : Nat) (v : Value) (l : VersS) (hr : Rising l) (hl : l.length ≤ 4294967296) (w : World) (hlb : Bx < w.heap.size) (hn : n₀ ≤ w.heap.size)
    (hBx : w.cell? ⟨Bx, 0, none⟩ = some (.pointer (some ⟨c, 0, none⟩))) (hC : ChainLow w n₀ B c v l) :
    SeqStopsK Fence.wide m Tryz.prog 126 #[.pointer (some ⟨Bx, 0, none⟩)] encY (KM n₀ Bx) (fun ys => ys = l) (fun pre => pre <+: l) l.length w := fun l0 J Jx W hW hJ hJx hY h0 => by
  have hW2 : KM n₀ Bx w W := ⟨hW.os, hW.tape, hW.output, hW.size, fun k hk _ => hW.block k hk⟩
  exact all1_any m l0 Bx n₀ B c v l hr hl J Jx W hJ hY (hW2.cell hBx (fun h => h.2 rfl)) (hC.below hW2) h0

/-- The newest text, its number, whether there is one. -/
def endV (pre : VersS) : Int × Int × Bool := match pre.getLast? with | some x => (x.2, x.1, true) | none => (0, 0, false)
theorem endV_snoc (pre : VersS) (x : Int × Int) : endV (pre ++ [x]) = (x.2, x.1, true) := by simp [endV]
def ansL (l : VersS) : Value := .tuple #[.int .i64 (endV l).1, .int .i64 (endV l).2.1, .bool (endV l).2.2]
set_option maxRecDepth 100000 in
set_option maxHeartbeats 4000000 in
theorem chainLast_any (B c : Nat) (v : Value) (l : VersS) (w : World) (h : ChainAt w B c v l) (hr : Rising l) (hl : l.length ≤ 4294967296) :
    Calls Tryz.prog 87 #[.pointer (some ⟨c, 0, none⟩)] w fun e w' => e = .returned (ansL l) ∧ New w w' := by
  refine (callsIn_wide (n := 3)).1 ?_
  have HH := Lib.hid h
  have HR := Lib.hid hr
  have HL := Lib.hid hl
  clear h hr hl
  refine callsIn_of_wp_marks Tryz.func87 rfl trivial ?_ rfl
  simp only [Tryz.ntmps87, List.size_toArray, List.length_cons, List.length_nil, Nat.reduceAdd, Nat.reduceSub, Array.replicate_succ, Array.replicate_zero, List.push_toArray, List.append_toArray, List.nil_append, List.cons_append]
  gi_wp2_with ((refine ⟨trivial, ?_⟩; gi_at_call 112; refine (chainAll_any _ _ _).mono ?_; rintro e w1 ⟨rfl, rfl⟩))
  have n1 := Blk.new w 3 [.int .i64 0]
  have n2 := Blk.new (w.alloc (.cells #[.int .i64 0] 3)) 3 [.int .i64 0]
  have n3 := Blk.new ((w.alloc (.cells #[.int .i64 0] 3)).alloc (.cells #[.int .i64 0] 3)) 4 [.bool false]
  have n4 := Blk.new (((w.alloc (.cells #[.int .i64 0] 3)).alloc (.cells #[.int .i64 0] 3)).alloc (.cells #[.bool false] 4)) 94 [.pointer (some ⟨c, 0, none⟩)]
  simp only [World.size_alloc] at n2 n3 n4
  obtain ⟨W0, hW0⟩ : ∃ W0, ((((w.alloc (.cells #[.int .i64 0] 3)).alloc (.cells #[.int .i64 0] 3)).alloc (.cells #[.bool false] 4)).alloc (.cells #[.pointer (some ⟨c, 0, none⟩)] 94)) = W0 := ⟨_, rfl⟩
  have hnew : New w W0 := by rw [← hW0]; exact ((((Mod.refl _ w).alloc _).alloc _).alloc _).alloc _
  have hsz : W0.heap.size = w.heap.size + 4 := by rw [← hW0]; simp
  have b1 : Blk W0 w.heap.size 3 [.int .i64 0] := by rw [← hW0]; exact ((n1.alloc _).alloc _).alloc _
  have b2 : Blk W0 (w.heap.size + 1) 3 [.int .i64 0] := by rw [← hW0]; exact (n2.alloc _).alloc _
  have b3 : Blk W0 (w.heap.size + 1 + 1) 4 [.bool false] := by rw [← hW0]; exact n3.alloc _
  have b4 : Blk W0 (w.heap.size + 1 + 1 + 1) 94 [.pointer (some ⟨c, 0, none⟩)] := by rw [← hW0]; exact n4
  clear n1 n2 n3 n4
  have hC : ChainLow W0 w.heap.size B c v l := ⟨HH.out.new_ hnew, fun b hb => by
    rcases hb with rfl | hb
    · exact HH.out.blk.lt
    · exact (HH.out.own.lt b hb).2⟩
  rw [hW0]
  clear hW0
  refine wpIn_rangeFunc_ownF (n := 3) (w := W0) rfl (by decide) (gf := 126) (lb := #[.pointer (some ⟨w.heap.size + 1 + 1 + 1, 0, none⟩)]) rfl trivial (enters_of Tryz.func126 (by kernel_rfl) rfl)
    (all_stops 2 (w.heap.size + 1 + 1 + 1) w.heap.size B c v l HR.out HL.out W0 (by omega) (by omega) (b4.cell 0) hC) KM.t (KM.b (by omega) (by omega)) (Below.refl _ _) (fun _ => rfl)
    (fun pre W => (Blk W w.heap.size 3 [.int .i64 (endV pre).1] ∧ Blk W (w.heap.size + 1) 3 [.int .i64 (endV pre).2.1] ∧ Blk W (w.heap.size + 1 + 1) 4 [.bool (endV pre).2.2]) ∧ Below w.heap.size w W)
    (fun _ _ _ => False)
    (OwnFrom.and (Own.from (fun s A B row hs hg hr => ⟨blk_own hs.1 hg hr, blk_own hs.2.1 hg hr, blk_own hs.2.2 hg hr⟩) _) (ownFrom_below (Nat.le_refl _) (by omega)))
    (fun _ _ _ _ _ hs _ _ => hs)
    ⟨⟨b1, b2, b3⟩, hnew.below (Nat.le_refl _) (fun _ _ h => h)⟩
    (fun x => { tmps := #[.pointer (some ⟨c, 0, none⟩), undef, .pointer (some ⟨w.heap.size, 0, none⟩), .pointer (some ⟨w.heap.size + 1, 0, none⟩), .pointer (some ⟨w.heap.size + 1 + 1, 0, none⟩), .int .i64 x.1, .int .i64 x.2, .pointer (some ⟨c, 0, none⟩), .func (.func 126) #[] #[.pointer (some ⟨w.heap.size + 1 + 1 + 1, 0, none⟩)], .int .i64 x.1, .int .i64 x.2, undef, undef, undef, undef, undef], defers := [] }) ?assign ?body ?done ?stop
  case assign =>
    intro l x W K hK
    gi_wp2
    exact hK
  case body =>
    rintro l0 pre x W ⟨⟨g1, g2, g3⟩, hB⟩ _
    have c1 := g1.cell 0
    have c2 := g2.cell 0
    have c3 := g3.cell 0
    have f1 := g1.frozen 0
    have f2 := g2.frozen 0
    have f3 := g3.frozen 0
    gi_wp2
    refine ⟨((KeepsOthers.setCell _ _ _).trans (KeepsOthers.setCell _ _ _)).trans (KeepsOthers.setCell _ _ _), (((Mod.refl _ W).set_ (fun _ => ?_) _).set_ (fun _ => ?_) _).set_ (fun _ => ?_) _, ⟨?_, ?_, ?_⟩, ?_⟩
    · exact ⟨Nat.le_refl _, by simp; omega⟩
    · exact ⟨by simp, by simp⟩
    · exact ⟨by simp; omega, by simp⟩
    · rw [endV_snoc]; exact ((g1.set_ 0 _).far (by simp) _).far (by simp; omega) _
    · rw [endV_snoc]; exact ((g2.far (by simp) _).set_ 0 _).far (by simp) _
    · rw [endV_snoc]; exact ((g3.far (by simp; omega) _).far (by simp) _).set_ 0 _
    · exact ((hB.setCell (Nat.le_refl _) _).setCell (by simp) _).setCell (by simp; omega) _
  case done =>
    rintro D ys W hD rfl ⟨⟨g1, g2, g3⟩, hB⟩ hK
    have c1 := g1.cell 0
    have c2 := g2.cell 0
    have c3 := g3.cell 0
    have f1 := g1.frozen 0
    have f2 := g2.frozen 0
    have f3 := g3.frozen 0
    gi_wp2
    gi_region
    gi_wp2
    obtain ⟨W2, hW2⟩ : ∃ W2, (((W.setCell ⟨w.heap.size, 0, none⟩ (.int .i64 (endV ys).1)).setCell ⟨w.heap.size + 1, 0, none⟩ (.int .i64 (endV ys).2.1)).setCell ⟨w.heap.size + 1 + 1, 0, none⟩ (.bool (endV ys).2.2)).drew = W2 := ⟨_, rfl⟩
    rw [hW2]
    have q1 : Blk W2 w.heap.size 3 [.int .i64 (endV ys).1] := by rw [← hW2]; exact ((g1.set_ 0 _).far (by simp) _).far (by simp; omega) _
    have q2 : Blk W2 (w.heap.size + 1) 3 [.int .i64 (endV ys).2.1] := by rw [← hW2]; exact ((g2.far (by simp) _).set_ 0 _).far (by simp) _
    have q3 : Blk W2 (w.heap.size + 1 + 1) 4 [.bool (endV ys).2.2] := by rw [← hW2]; exact ((g3.far (by simp; omega) _).far (by simp) _).set_ 0 _
    have hB2 : Below w.heap.size w W2 := by rw [← hW2]; exact (((hB.setCell (Nat.le_refl _) _).setCell (by simp) _).setCell (by simp; omega) _).drew
    have hK2 : W2.heap[D]? = some (.deferred (some [])) := by
      rw [← hW2]
      exact (((KeepsOthers.setCell _ _ _).trans (KeepsOthers.setCell _ _ _)).trans (KeepsOthers.setCell _ _ _)).same D _ hK rfl
    clear hW2
    refine ⟨by simp, .inl ⟨_, _, rfl, run_takeDeferred hK2, ?_⟩⟩
    have r1 := (blk_own q1 (grownBy_putObj' _ D (.deferred none)) (fun r e => by cases e; exact ⟨_, hK2, rfl⟩)).cell 0
    have r2 := (blk_own q2 (grownBy_putObj' _ D (.deferred none)) (fun r e => by cases e; exact ⟨_, hK2, rfl⟩)).cell 0
    have r3 := (blk_own q3 (grownBy_putObj' _ D (.deferred none)) (fun r e => by cases e; exact ⟨_, hK2, rfl⟩)).cell 0
    refine ⟨ansL ys, ?_, rfl, ?_⟩
    · simp [results, Tryz.f87, go_sem, r1, r2, r3, ansL]
    · exact Mod.of_below (hB2.trans (belowK_b (w := w) (Nat.le_refl _) W2 D _ (.deferred none) (by omega) hK2 rfl rfl))
  case stop =>
    rintro D c pre W _ _ h _
    exact h.elim
end Go.Proofs.YtfifalopbfopnaaGreatDoor.I
