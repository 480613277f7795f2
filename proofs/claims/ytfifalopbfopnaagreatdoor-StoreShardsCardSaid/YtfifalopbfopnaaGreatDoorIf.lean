/- Walks: a chain of versions (numbers): Clone, Prune. -/
import Derived.Test.YtfifalopbfopnaaGreatDoorIe
set_option linter.unusedVariables false
set_option linter.unusedSimpArgs false
namespace Go.Proofs.YtfifalopbfopnaaGreatDoor.I
open Go.RowKit

theorem own_empty (w : World) (e : TypeId) (sz : Nat) : (w.alloc (.cells #[] e)).ownsRow w.heap.size e sz (.slice (some ⟨w.heap.size, 0, none⟩) 0 0) 0 [] :=
  ⟨by simp, .inr ⟨w.heap.size, 0, #[], rfl, Nat.le_refl _, by simpa using heap_alloc_new w (.cells #[] e), Nat.le_refl _, by unfold maxLen; omega, by simp, by simp⟩⟩
theorem encVer_one (l : VersS) : ∀ u ∈ cellsL encVer l, u.oneCell' = true := fun u hu => by
  obtain ⟨p, _, hp⟩ := List.mem_flatMap.1 hu
  simp only [encVer, List.mem_cons, List.not_mem_nil, or_false] at hp
  rcases hp with rfl | rfl <;> rfl
set_option maxRecDepth 100000 in
theorem Tryz.verNil (a : Addr) (n c : Nat) (w : World) : (binOp .eql 129 (.slice (some a) n c) (.slice none 0 0)).run Tryz.prog w = .ok (.bool false) w := by
  kernel_rfl
set_option maxRecDepth 100000 in
theorem clone_any (A : Option Addr) (n c : Nat) (l : VersS) (w : World) (ha : Sl w A n 2 (cellsL encVer l)) (h0 : 0 < n) (hn : n ≤ 4294967296) :
    Calls Tryz.prog 113 #[.slice A n c] w fun e w' => ∃ v, e = .returned v ∧ w'.ownsRow w.heap.size 169 2 v n (cellsL encVer l) ∧ New w w' := by
  have hlen := ha.len
  have HA := Lib.hid ha
  obtain ⟨b, off, rfl, hc⟩ := ha.cells h0
  have HC := Lib.hid hc
  have HLN := Lib.hid hlen
  clear hc ha hlen
  have hnil := Tryz.verNil
  go_enter Tryz.func113, Tryz.ntmps113
  go_wp2_with (at_builtin; go_must (refine wpList_app Tryz.sltVer rfl (.tmp 5) (.tmp 6) rfl w.heap.size _ 0 [] rfl (own_empty w _ _) ⟨b, off, none⟩ n c (cellsL encVer l) rfl HLN.out ?hnews ?h1 ?hb ?hB ?_))
  case hnews => exact fun j u hj => by rw [add_plain]; exact ((Mod.refl (fun _ => False) w).alloc _).cell (HC.out j u hj) (fun h => h)
  case h1 => exact encVer_one l
  case hb => omega
  case hB => first | omega | simp
  intro v4 w4 hown4 hg4 _
  have hz4 : New w w4 := New.grown ((Mod.refl _ _).alloc _) (own_empty w _ 2) (Nat.le_refl _) hg4
  go_wp2
  go_ret
  exact ⟨_, rfl, hown4, hz4⟩
theorem sl_drop {w : World} {b off n m : Nat} {l : VersS} (h : Sl w (some ⟨b, off, none⟩) n 2 (cellsL encVer l)) (hm : m ≤ n) : Sl w (some ⟨b, off + m * 2, none⟩) (n - m) 2 (cellsL encVer (l.drop m)) := by
  have hl := h.length encVer_len (by decide)
  refine ⟨by rw [cellsL_length encVer_len, List.length_drop, hl], by have := h.le; omega, fun hn => ⟨b, off + m * 2, rfl, fun j u hu => ?_⟩⟩
  obtain ⟨b', off', e, hc⟩ := h.cells (by omega)
  injection e with e
  injection e with e1 e2
  subst e1 e2
  have hsplit : cellsL encVer l = cellsL encVer (l.take m) ++ cellsL encVer (l.drop m) := by rw [← cellsL_append, List.take_append_drop]
  have h1 := hc (m * 2 + j) u (by
    rw [hsplit, List.getElem?_append_right (by rw [cellsL_length encVer_len, List.length_take]; omega), cellsL_length encVer_len, List.length_take, hl, Nat.min_eq_left hm, Nat.add_sub_cancel_left]
    exact hu)
  rw [Nat.add_assoc]; exact h1

/-- What Prune leaves. -/
def PrunePost (w : World) (B c : Nat) (v : Value) (l : VersS) (n : Int) (e : Ending) (w' : World) : Prop :=
  e = .returned (.int .i64 (goneV l n : Int)) ∧ Mod (ChainF c v) w w' ∧ ∃ v', ChainAt w' B c v' (pruneV l n) ∧ (v'.ownBlock = v.ownBlock ∨ ∃ b, v'.ownBlock = some b ∧ w.heap.size ≤ b)
set_option maxRecDepth 100000 in
set_option maxHeartbeats 1000000 in
theorem chainPrune_any (B c : Nat) (v : Value) (l : VersS) (n : Int) (w : World) (h : ChainAt w B c v l) (hr : Rising l) (hB : B ≤ w.heap.size) (hl : l.length ≤ 4294967296) :
    Calls Tryz.prog 88 #[.pointer (some ⟨c, 0, none⟩), .int .i64 n] w (PrunePost w B c v l n) := by
  have HAB := Lib.hid (above_any B c v l n w h hr hl)
  have HH := Lib.hid h
  have hu := upTo_le l n
  obtain ⟨u, hue⟩ : ∃ u, upTo l n = u := ⟨_, rfl⟩
  rw [hue] at HAB hu
  have HU := Lib.hid hue
  clear h hr hue
  by_cases h2 : u < 2
  · have hg : goneV l n = 0 := by unfold goneV; rw [HU.out]; omega
    have HG := Lib.hid hg
    clear hg
    go_enter Tryz.func88, Tryz.ntmps88
    go_wp2_with (go_at_call 111; refine HAB.out.mono ?_; rintro e w1 ⟨rfl, hw1⟩)
    go_ret
    exact ⟨by rw [HG.out]; rfl, Mod.mono hw1 (fun _ _ h => h.elim), v, by unfold pruneV; rw [HG.out, List.drop_zero]; exact HH.out.new_ hw1, .inl rfl⟩
  · obtain ⟨m, rfl⟩ : ∃ m, u = m + 1 := ⟨u - 1, by omega⟩
    have hg : goneV l n = m := by unfold goneV; rw [HU.out]; omega
    have HG := Lib.hid hg
    have ho := HH.out.own
    obtain ⟨A, cap, rfl⟩ := own_shape ho
    obtain ⟨b, off, rfl, _⟩ := (own_sl ho).cells (by omega)
    have HSD := Lib.hid (sl_drop (own_sl ho) (show m ≤ l.length by omega))
    have hcap : l.length ≤ cap ∧ cap ≤ 9223372036854775807 := by
      rcases ho.2 with ⟨e1, _⟩ | ⟨g', cap', cur, e1, _, _, e2, e3, _⟩
      · cases e1
      · injection e1 with _ _ e4
        subst e4
        unfold maxLen at e3
        omega
    have hblk := HH.out.blk
    have hcl := hblk.lt
    clear hg ho
    go_enter Tryz.func88, Tryz.ntmps88
    go_wp2_with (first
      | (go_at_call 111; refine HAB.out.mono ?_; rintro e w1 ⟨rfl, hw1⟩; have hb1 := hblk.new_ hw1; have k0 : w1.cell? ⟨c, 0, none⟩ = some (.slice (some ⟨b, off, none⟩) l.length cap) := hb1.cell 0; have HB1 := Lib.hid hb1; clear hb1)
      | (go_at_call 113; refine (clone_any _ _ _ _ _ (Sl.new_ HSD.out hw1) (by omega) (by omega)).mono ?_; rintro e w2 ⟨v2, rfl, hown2, hw2⟩; obtain ⟨A2, cap2, rfl⟩ := own_shape hown2; have hb2 := HB1.out.new_ hw2; have k1 : w2.cell? ⟨c, 0, none⟩ = some (.slice (some ⟨b, off, none⟩) l.length cap) := hb2.cell 0; have kf := hb2.frozen 0; have HB2 := Lib.hid hb2; have HO2 := Lib.hid hown2; clear hb2 hown2))
    go_ret
    refine ⟨by rw [HG.out]; rfl, ?_, _, ⟨by have := HB2.out.set_ 0 (.slice A2 (l.length - m) cap2); exact this, ?_⟩, ?_⟩
    · exact Mod.set_ (Mod.mono (New.trans hw1 hw2) (fun _ _ h => h.elim)) (fun _ => .inl rfl) _
    · have h1 := own_mod' HO2.out (mod_set w2 c 0 (.slice A2 (l.length - m) cap2)) (fun b hb e => by
        subst e
        exact own_ne_blk HO2.out HB2.out (by decide) hb)
      have h3 : (pruneV l n).length = l.length - m := by unfold pruneV; rw [HG.out, List.length_drop]
      rw [h3]
      unfold pruneV
      rw [HG.out]
      exact own_mono h1 (by have := hw1.size; omega)
    · cases hA : (Value.slice A2 (l.length - m) cap2).ownBlock with
      | none =>
        exfalso
        rcases HO2.out.2 with ⟨e1, e2⟩ | ⟨g', cap', cur, e1, _⟩
        · omega
        · rw [e1] at hA; simp [Value.ownBlock] at hA
      | some blk => exact .inr ⟨blk, rfl, by have := (HO2.out.lt blk hA).1; have := hw1.size; omega⟩
end Go.Proofs.YtfifalopbfopnaaGreatDoor.I
