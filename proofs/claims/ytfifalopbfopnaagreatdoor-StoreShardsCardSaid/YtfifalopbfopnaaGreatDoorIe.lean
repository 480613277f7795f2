/- Walks: a chain of versions (numbers): New, Put, At, Len. -/
import Derived.Test.YtfifalopbfopnaaGreatDoorId
import Derived.Test.YtfifalopbfopnaaGreatDoorWh
set_option linter.unusedVariables false
set_option linter.unusedSimpArgs false
namespace Go.Proofs.YtfifalopbfopnaaGreatDoor.I
open Go.RowKit

theorem chainNew_any (w : World) :
    Calls Tryz.prog 84 #[] w fun e w' => e = .returned (.pointer (some ⟨w.heap.size, 0, none⟩)) ∧ ChainAt w' w.heap.size w.heap.size (.slice none 0 0) [] ∧ New w w' ∧ w.heap.size < w'.heap.size := by
  go_enter Tryz.func84, Tryz.ntmps84
  go_wp2
  go_ret
  exact ⟨rfl, ⟨Blk.new w 131 [.slice none 0 0], own_nil _ _ _ _⟩, (Mod.refl _ _).alloc _, by simp⟩
theorem chainLen_any (B c : Nat) (v : Value) (l : VersS) (w : World) (h : ChainAt w B c v l) :
    Calls Tryz.prog 63 #[.pointer (some ⟨c, 0, none⟩)] w fun e w' => e = .returned (.int .i64 (l.length : Int)) ∧ New w w' := by
  obtain ⟨hb, ho⟩ := h
  obtain ⟨A, cap, rfl⟩ := own_shape ho
  have c0 : w.cell? ⟨c, 0, none⟩ = some (.slice A l.length cap) := hb.cell 0
  go_enter Tryz.func63, Tryz.ntmps63
  go_wp2
  go_ret
  exact ⟨rfl, Mod.refl _ _⟩
/-- A text and whether there is one. -/
def ansV : Option (Int × Int) → Value
  | some x => .tuple #[.int .i64 x.2, .bool true]
  | none => .tuple #[.int .i64 0, .bool false]
theorem chainAt_any (B c : Nat) (v : Value) (l : VersS) (x : Int) (w : World) (h : ChainAt w B c v l) (hr : Rising l) (hn : l.length ≤ 4294967296) :
    Calls Tryz.prog 86 #[.pointer (some ⟨c, 0, none⟩), .int .i64 x] w fun e w' => e = .returned (ansV (atV l x)) ∧ New w w' := by
  have HA := Lib.hid (above_any B c v l x w h hr hn)
  have hu := upTo_le l x
  have HH := Lib.hid h
  obtain ⟨u, hue⟩ : ∃ u, upTo l x = u := ⟨_, rfl⟩
  unfold atV
  rw [hue] at hu HA ⊢
  clear h hue
  by_cases h0 : u = 0
  · subst h0
    go_enter Tryz.func86, Tryz.ntmps86
    go_wp2_with (go_at_call 111; refine HA.out.mono ?_; rintro e w1 ⟨rfl, hw1⟩)
    go_ret2
    exact ⟨rfl, hw1⟩
  · obtain ⟨m, rfl⟩ : ∃ m, u = m + 1 := ⟨u - 1, by omega⟩
    obtain ⟨hb, ho⟩ := HH.out
    obtain ⟨A, cap, rfl⟩ := own_shape ho
    obtain ⟨b, off, ⟨y0, y1⟩, rfl, hy, hc⟩ := (own_sl ho).elem encVer_len (by decide) (show m < l.length by omega)
    have c1 := hc 1 _ rfl
    have c0 : w.cell? ⟨c, 0, none⟩ = some (.slice (some ⟨b, off, none⟩) l.length cap) := hb.cell 0
    have HC := Lib.hid (And.intro c0 c1)
    have HY := Lib.hid hy
    clear hc hy hb ho HH c0 c1
    go_enter Tryz.func86, Tryz.ntmps86
    go_wp2_with (go_at_call 111; refine HA.out.mono ?_; rintro e w1 ⟨rfl, hw1⟩; have k0 := hw1.cell HC.out.1 (fun h => h); have k1 := hw1.cell HC.out.2 (fun h => h))
    go_ret2
    exact ⟨by rw [HY.out]; rfl, hw1⟩

theorem own_ne_blk {w : World} {B n sz g : Nat} {t e : TypeId} {v : Value} {xs cs : List Value} (h : w.ownsRow B e sz v n xs) (hb : Blk w g t cs) (hne : t ≠ e) : v.ownBlock ≠ some g := fun he => by
  rcases h.2 with ⟨rfl, _⟩ | ⟨g', cap, cur, rfl, _, hh, _⟩
  · simp [Value.ownBlock] at he
  · simp [Value.ownBlock] at he
    subst he
    unfold Blk at hb
    rw [hb] at hh
    injection hh with hh
    injection hh with _ hh
    exact hne hh
theorem own_mod' {w w' : World} {S : Nat → Prop} {B sz n : Nat} {e : TypeId} {v : Value} {xs : List Value} (h : w.ownsRow B e sz v n xs) (hm : Mod S w w') (hs : ∀ b, v.ownBlock = some b → ¬ S b) : w'.ownsRow B e sz v n xs := by
  refine ⟨h.1, ?_⟩
  rcases h.2 with hn | ⟨g, cap, cur, rfl, hg, hh, r⟩
  · exact .inl hn
  · exact .inr ⟨g, cap, cur, rfl, hg, (hm.block g (Array.getElem?_eq_some_iff.1 hh).1 (hs g rfl)).trans hh, r⟩
/-- What Put leaves. -/
def PutPost (w : World) (B c : Nat) (v : Value) (l : VersS) (n : Int) (x : Int) (e : Ending) (w' : World) : Prop :=
  e = .returned (if canPut l n then .nilIface else .iface 100 (.int .i64 1)) ∧ Mod (ChainF c v) w w' ∧ ∃ v', ChainAt w' B c v' (putV l n x) ∧ (v'.ownBlock = v.ownBlock ∨ ∃ b, v'.ownBlock = some b ∧ w.heap.size ≤ b)
set_option maxRecDepth 100000 in
set_option maxHeartbeats 1000000 in
theorem chainPut_any (B c : Nat) (v : Value) (l : VersS) (n : Int) (x : Int) (w : World) (h : ChainAt w B c v l) (hB : B ≤ w.heap.size) (hl : l.length ≤ 4294967296) :
    Calls Tryz.prog 85 #[.pointer (some ⟨c, 0, none⟩), .int .i64 n, .int .i64 x] w (PutPost w B c v l n x) := by
  have HH := Lib.hid h
  obtain ⟨hb, ho⟩ := h
  obtain ⟨A, cap, rfl⟩ := own_shape ho
  have c0 : w.cell? ⟨c, 0, none⟩ = some (.slice A l.length cap) := hb.cell 0
  have f0 := hb.frozen 0
  have hcl := hb.lt
  have HB := Lib.hid hb
  have HO := Lib.hid ho
  have hbad : canPut l n = false → PutPost w B c (.slice A l.length cap) l n x (.returned (.iface 100 (.int .i64 1))) w := fun hc =>
    ⟨by rw [hc]; rfl, Mod.refl _ _, _, by unfold putV; rw [if_neg (by rw [hc]; simp)]; exact HH.out, .inl rfl⟩
  have HBAD := Lib.hid hbad
  clear hb hbad
  by_cases hn : n < 0
  · have hc : canPut l n = false := by unfold canPut; simp; omega
    have HX := Lib.hid (HBAD.out hc)
    clear hc ho
    go_enter Tryz.func85, Tryz.ntmps85
    go_wp2
    go_ret
    exact HX.out
  · by_cases hz : l.length = 0
    · have hl0 : l = [] := List.length_eq_zero_iff.1 hz
      have HC := Lib.hid (show canPut l n = true by subst hl0; unfold canPut; simp; omega)
      have hd : decide ((0 : Int) < (l.length : Int)) = false := by simp; omega
      have hd2 : ¬ 0 < l.length := by omega
      clear ho hl0 hz
      go_enter Tryz.func85, Tryz.ntmps85
      go_wp2_with (at_builtin; refine wpList_app Tryz.sltVer rfl (.tmp 37) (.tmp 41) rfl B _ l.length (cellsL encVer l) rfl (HO.out.alloc _) ⟨w.heap.size, 0, none⟩ 1 1 [.int .i64 n, .int .i64 x] rfl rfl (cells_new _ _ _) ?c1 ?c2 ?c3 ?_)
      case c1 => simp [Value.oneCell']
      case c2 => omega
      case c3 => first | omega | (simp; omega)
      intro v4 w4 hown4 hg4 hbl4
      obtain ⟨A4, cap4, rfl⟩ := own_shape hown4
      have hb4 : Blk w4 c 131 [.slice A l.length cap] := (HB.out.alloc _).kept (Mod.of_grown (S := fun b => Value.ownBlock _ = some b) hg4 (fun _ h => h)) (own_ne_blk HO.out HB.out (by decide))
      have k0 : w4.cell? ⟨c, 0, none⟩ = some (.slice A l.length cap) := hb4.cell 0
      have kf := hb4.frozen 0
      have HB4 := Lib.hid hb4
      have HO4 := Lib.hid hown4
      have HG4 := Lib.hid hg4
      have HL4 := Lib.hid hbl4
      clear hb4 hown4 hg4 hbl4
      go_wp2
      go_ret
      refine ⟨by rw [HC.out]; rfl, ?_, _, ⟨HB4.out.set_ 0 _, ?_⟩, ?_⟩
      · exact Mod.set_ (Mod.trans (Mod.mono ((Mod.refl (fun _ => False) w).alloc (.cells #[.int .i64 n, .int .i64 x] 169)) (fun _ _ h => h.elim)) (Mod.of_grown (S := ChainF c (.slice A l.length cap)) HG4.out (fun k h => .inr h)) (fun _ _ h => h)) (fun _ => .inl rfl) _
      · have h1 := own_mod' HO4.out (mod_set w4 c 0 (.slice A4 (l.length + 1) cap4)) (fun b hb e => by
          subst e
          exact own_ne_blk HO4.out HB4.out (by decide) hb)
        unfold putV
        rw [if_pos HC.out, List.length_append, cellsL_append, cellsL_one]
        exact h1
      · rcases HL4.out with h | h
        · exact .inl h
        · exact .inr ⟨_, h, by simp⟩
    · obtain ⟨m, hm⟩ : ∃ m, l.length = m + 1 := ⟨l.length - 1, by omega⟩
      obtain ⟨b, off, ⟨y0, y1⟩, rfl, hy, hc⟩ := (own_sl ho).elem encVer_len (by decide) (show m < l.length by omega)
      have d0 : w.cell? ⟨b, off + m * 2, none⟩ = some (.int .i64 y0) := hc 0 _ rfl
      have hlast : l.getLast? = some (y0, y1) := by rw [List.getLast?_eq_getElem?, hm]; exact hy
      have hidx : (l.length : Int) - 1 = (m : Int) := by omega
      have hd : decide ((0 : Int) < (l.length : Int)) = true := by simp; omega
      have hml : m < l.length := by omega
      clear hm
      by_cases hle : n ≤ y0
      · have HX := Lib.hid (HBAD.out (show canPut l n = false by unfold canPut; rw [hlast]; simp; omega))
        clear ho hc hy hlast
        go_enter Tryz.func85, Tryz.ntmps85
        go_wp2
        go_ret
        exact HX.out
      · have HC := Lib.hid (show canPut l n = true by unfold canPut; rw [hlast]; simp; omega)
        clear ho hc hy hlast
        go_enter Tryz.func85, Tryz.ntmps85
        go_wp2_with (at_builtin; refine wpList_app Tryz.sltVer rfl (.tmp 37) (.tmp 41) rfl B _ l.length (cellsL encVer l) rfl (HO.out.alloc _) ⟨w.heap.size, 0, none⟩ 1 1 [.int .i64 n, .int .i64 x] rfl rfl (cells_new _ _ _) ?c1 ?c2 ?c3 ?_)
        case c1 => simp [Value.oneCell']
        case c2 => omega
        case c3 => first | omega | (simp; omega)
        intro v4 w4 hown4 hg4 hbl4
        obtain ⟨A4, cap4, rfl⟩ := own_shape hown4
        have hb4 : Blk w4 c 131 [.slice (some ⟨b, off, none⟩) l.length cap] := (HB.out.alloc _).kept (Mod.of_grown (S := fun b => Value.ownBlock _ = some b) hg4 (fun _ h => h)) (own_ne_blk HO.out HB.out (by decide))
        have k0 : w4.cell? ⟨c, 0, none⟩ = some (.slice (some ⟨b, off, none⟩) l.length cap) := hb4.cell 0
        have kf := hb4.frozen 0
        have HB4 := Lib.hid hb4
        have HO4 := Lib.hid hown4
        have HG4 := Lib.hid hg4
        have HL4 := Lib.hid hbl4
        clear hb4 hown4 hg4 hbl4
        go_wp2
        go_ret
        refine ⟨by rw [HC.out]; rfl, ?_, _, ⟨HB4.out.set_ 0 _, ?_⟩, ?_⟩
        · exact Mod.set_ (Mod.trans (Mod.mono ((Mod.refl (fun _ => False) w).alloc (.cells #[.int .i64 n, .int .i64 x] 169)) (fun _ _ h => h.elim)) (Mod.of_grown (S := ChainF c (.slice (some ⟨b, off, none⟩) l.length cap)) HG4.out (fun k h => .inr h)) (fun _ _ h => h)) (fun _ => .inl rfl) _
        · have h1 := own_mod' HO4.out (mod_set w4 c 0 (.slice A4 (l.length + 1) cap4)) (fun b hb e => by
            subst e
            exact own_ne_blk HO4.out HB4.out (by decide) hb)
          unfold putV
          rw [if_pos HC.out, List.length_append, cellsL_append, cellsL_one]
          exact h1
        · rcases HL4.out with h | h
          · exact .inl h
          · exact .inr ⟨_, h, by simp⟩
end Go.Proofs.YtfifalopbfopnaaGreatDoor.I
