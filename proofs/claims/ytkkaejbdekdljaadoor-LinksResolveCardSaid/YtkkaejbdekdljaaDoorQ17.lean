/- Words and walks, part 17 of 19. -/
import Derived.Test.YtkkaejbdekdljaaDoorProg
import Derived.Deep.QuietTactic
import Derived.BigQuiet
import Derived.Great.BuildSlice
import Derived.Test.YtkkaejbdekdljaaDoorQ4
import Derived.Test.YtkkaejbdekdljaaDoorQ5
import Derived.Test.YtkkaejbdekdljaaDoorQ6
import Derived.Test.YtkkaejbdekdljaaDoorQ7
import Derived.Test.YtkkaejbdekdljaaDoorQ11
/- Words: a row and what grew out of it; lists of one number each, in blocks of their own; two lists one element of each in turns. -/
set_option linter.unusedVariables false
set_option linter.unusedSimpArgs false
namespace Go.Proofs.YtkkaejbdekdljaaDoor
open Go.RowKit

/-- The row v holds the first m of xs; the row u, which grew out of it, all of them. -/
structure Grew (w : World) (B : Nat) (e : TypeId) (v : Value) (m : Nat) (u : Value) (xs : List Value) : Prop where
  le : m ≤ xs.length
  ownv : w.ownsRow B e 1 v m (xs.take m)
  ownu : w.ownsRow B e 1 u xs.length xs
section
variable {w w' : World} {B m : Nat} {e : TypeId} {v u u' : Value} {xs : List Value}
theorem Grew.start (h : w.ownsRow B e 1 v xs.length xs) : Grew w B e v xs.length v xs := ⟨Nat.le_refl _, by rw [List.take_length]; exact h, h⟩
theorem Grew.new_ (h : Grew w B e v m u xs) (hm : New w w') : Grew w' B e v m u xs := ⟨h.le, own_new h.ownv hm, own_new h.ownu hm⟩
theorem Grew.mod {S : Nat → Prop} (h : Grew w B e v m u xs) (hm : Mod S w w') (hv : ∀ b, v.ownBlock = some b → ¬ S b) (hu : ∀ b, u.ownBlock = some b → ¬ S b) : Grew w' B e v m u xs :=
  ⟨h.le, by
    refine ⟨h.ownv.1, ?_⟩
    rcases h.ownv.2 with hn | ⟨g, cap, cur, rfl, hg, hh, r⟩
    · exact .inl hn
    · exact .inr ⟨g, cap, cur, rfl, hg, (hm.block g (Array.getElem?_eq_some_iff.1 hh).1 (hv g rfl)).trans hh, r⟩, by
    refine ⟨h.ownu.1, ?_⟩
    rcases h.ownu.2 with hn | ⟨g, cap, cur, rfl, hg, hh, r⟩
    · exact .inl hn
    · exact .inr ⟨g, cap, cur, rfl, hg, (hm.block g (Array.getElem?_eq_some_iff.1 hh).1 (hu g rfl)).trans hh, r⟩⟩
theorem Grew.step {x : Value} (h : Grew w B e v m u xs) (hown : w'.ownsRow B e 1 u' (xs.length + 1) (xs ++ [x])) (hat : Moved w w' u xs.length u' (xs.length + 1)) : Grew w' B e v m u' (xs ++ [x]) := by
  have hle := h.le
  refine ⟨by simp; omega, ?_, by simpa using hown⟩
  have e1 : (xs ++ [x]).take m = xs.take m := List.take_append_of_le_length hle
  rw [e1]
  have h0 := h.ownv
  rcases hat with ⟨g, cap, rfl, rfl, hg⟩ | ⟨_, hnew⟩
  · by_cases hb : v.ownBlock = some g
    · rcases h0.2 with ⟨h1, _⟩ | ⟨g', cap', cur, h1, _⟩
      · rw [h1] at hb; simp [Value.ownBlock] at hb
      · subst h1
        simp [Value.ownBlock] at hb
        subst hb
        obtain rfl := own_cap (by decide) h0 h.ownu
        have := own_take hown (m := m) (by omega)
        rwa [Nat.mul_one, e1] at this
    · exact h0.kept hg (.inr hb)
  · exact own_new h0 hnew
end

/-- A list of one number, in a block of its own. -/
def OneOf (w : World) (v : Value) (x : Int) : Prop := ∃ g, v = .slice (some ⟨g, 0, none⟩) 1 1 ∧ Blk w g 3 [.int .i64 x]
theorem OneOf.new_ {w w' : World} {v : Value} {x : Int} (h : OneOf w v x) (hm : New w w') : OneOf w' v x := by
  obtain ⟨g, e, hb⟩ := h
  exact ⟨g, e, hb.new_ hm⟩
theorem OneOf.cell {w : World} {v : Value} {x : Int} (h : OneOf w v x) : ∃ g, v = .slice (some ⟨g, 0, none⟩) 1 1 ∧ w.cell? ⟨g, 0, none⟩ = some (.int .i64 x) := by
  obtain ⟨g, e, hb⟩ := h
  exact ⟨g, e, hb.cell 0⟩
/-- .. stays while a row of slices is written or grown. -/
theorem OneOf.mod {S : Nat → Prop} {w w' : World} {v : Value} {x : Int} (h : OneOf w v x) (hm : Mod S w w') (hs : ∀ g cs, w.heap[g]? = some (.cells cs 3 (0, 0)) → ¬ S g) : OneOf w' v x := by
  obtain ⟨g, e, hb⟩ := h
  exact ⟨g, e, hb.kept hm (hs g _ hb)⟩
theorem own_not_int {w : World} {B n : Nat} {v : Value} {xs : List Value} (h : w.ownsRow B 24 1 v n xs) : ∀ g cs, w.heap[g]? = some (.cells cs 3 (0, 0)) → v.ownBlock ≠ some g := fun g cs hg e => by
  rcases h.2 with ⟨rfl, _⟩ | ⟨g', cap, cur, rfl, _, hh, _⟩
  · simp [Value.ownBlock] at e
  · simp [Value.ownBlock] at e
    subst e
    rw [hg] at hh
    injection hh with hh
    injection hh with _ hh
    exact absurd hh (by decide)

/-- One of each in turns. -/
def inter {α : Type} : List α → List α → List α
  | a :: al, b :: bl => a :: b :: inter al bl
  | _, _ => []
theorem inter_length {α : Type} : ∀ (al bl : List α), al.length = bl.length → (inter al bl).length = 2 * al.length
  | [], [], _ => rfl
  | a :: al, b :: bl, h => by
    have := inter_length al bl (by simpa using h)
    simp only [inter, List.length_cons, this]; omega
theorem inter_snoc {α : Type} (a b : α) : ∀ (al bl : List α), al.length = bl.length → inter (al ++ [a]) (bl ++ [b]) = inter al bl ++ [a, b]
  | [], [], _ => rfl
  | x :: al, y :: bl, h => by simp only [List.cons_append, inter, inter_snoc a b al bl (by simpa using h)]
theorem inter_at {α : Type} : ∀ (al bl : List α) (i : Nat) (x : α), al.length = bl.length → (inter al bl)[i]? = some x → (i % 2 = 0 ∧ al[i / 2]? = some x) ∨ (i % 2 = 1 ∧ bl[i / 2]? = some x)
  | [], [], i, x, _, h => by simp [inter] at h
  | a :: al, b :: bl, 0, x, _, h => by simp [inter] at h; subst h; exact .inl ⟨rfl, rfl⟩
  | a :: al, b :: bl, 1, x, _, h => by simp [inter] at h; subst h; exact .inr ⟨rfl, rfl⟩
  | a :: al, b :: bl, i + 2, x, hl, h => by
    have h2 : (inter al bl)[i]? = some x := by simpa [inter] using h
    have e : (i + 2) / 2 = i / 2 + 1 := by omega
    rcases inter_at al bl i x (by simpa using hl) h2 with ⟨h3, h4⟩ | ⟨h3, h4⟩
    · exact .inl ⟨by omega, by rw [e]; simpa using h4⟩
    · exact .inr ⟨by omega, by rw [e]; simpa using h4⟩
/-- Rows of two answers, one of each in turns. -/
theorem RowsOf.inter {w : World} {B sz : Nat} {e : TypeId} {vs us : List Value} {ls ms : List (Nat × List Value)} (h : RowsOf w B e sz vs ls) (k : RowsOf w B e sz us ms) (hl : vs.length = us.length)
    (hne : ∀ (i j : Nat) (v u : Value) (b : Nat), vs[i]? = some v → us[j]? = some u → v.ownBlock = some b → u.ownBlock ≠ some b) : RowsOf w B e sz (inter vs us) (inter ls ms) := by
  have hl2 : ls.length = ms.length := by rw [← h.len, ← k.len]; exact hl
  refine ⟨by rw [inter_length _ _ hl, inter_length _ _ hl2, h.len], fun i v x hv hx => ?_, fun i j v u b hij hv hu hb => ?_⟩
  · rcases inter_at _ _ i v hl hv with ⟨h1, h2⟩ | ⟨h1, h2⟩
    · rcases inter_at _ _ i x hl2 hx with ⟨h3, h4⟩ | ⟨h3, h4⟩
      · exact h.own _ _ _ h2 h4
      · omega
    · rcases inter_at _ _ i x hl2 hx with ⟨h3, h4⟩ | ⟨h3, h4⟩
      · omega
      · exact k.own _ _ _ h2 h4
  · rcases inter_at _ _ i v hl hv with ⟨h1, h2⟩ | ⟨h1, h2⟩
    · rcases inter_at _ _ j u hl hu with ⟨h3, h4⟩ | ⟨h3, h4⟩
      · exact h.ne (i / 2) (j / 2) v u b (by omega) h2 h4 hb
      · exact hne _ _ v u b h2 h4 hb
    · rcases inter_at _ _ j u hl hu with ⟨h3, h4⟩ | ⟨h3, h4⟩
      · intro hu'; exact hne _ _ u v b h4 h2 hu' hb
      · exact k.ne (i / 2) (j / 2) v u b (by omega) h2 h4 hb
end Go.Proofs.YtkkaejbdekdljaaDoor
/- Words: two answers' outer lists, written over and grown. -/
set_option linter.unusedVariables false
set_option linter.unusedSimpArgs false
namespace Go.Proofs.YtkkaejbdekdljaaDoor
open Go.RowKit

/-- Lists a, b of m lists, of which the first ka, kb are written over; g, h grew out of them. -/
structure OutS (w : World) (B m : Nat) (fa fb : Nat → Int) (ca cb : Int) (a b g h : Value) (xs ys gs hs : List Value) (ka kb : Nat) : Prop where
  ga : Grew w B 24 a m g (xs ++ gs)
  hb : Grew w B 24 b m h (ys ++ hs)
  lx : xs.length = m
  ly : ys.length = m
  onea : ∀ i v, i < ka → xs[i]? = some v → OneOf w v (fa i)
  oneb : ∀ i v, i < kb → ys[i]? = some v → OneOf w v (fb i)
  oneg : ∀ v, v ∈ gs → OneOf w v ca
  oneh : ∀ v, v ∈ hs → OneOf w v cb
  ne : ∀ x y blk, (x = a ∨ x = g) → (y = b ∨ y = h) → x.ownBlock = some blk → y.ownBlock ≠ some blk
section
variable {w w' w2 : World} {B m : Nat} {fa fb : Nat → Int} {ca cb : Int} {a b g h g' : Value} {xs ys gs hs : List Value} {ka kb : Nat}
theorem OutS.swap (H : OutS w B m fa fb ca cb a b g h xs ys gs hs ka kb) : OutS w B m fb fa cb ca b a h g ys xs hs gs kb ka :=
  ⟨H.hb, H.ga, H.ly, H.lx, H.oneb, H.onea, H.oneh, H.oneg, fun x y blk hx hy hxb hyb => H.ne y x blk hy hx hyb hxb⟩
theorem OutS.new_ (H : OutS w B m fa fb ca cb a b g h xs ys gs hs ka kb) (hm : New w w') : OutS w' B m fa fb ca cb a b g h xs ys gs hs ka kb :=
  ⟨H.ga.new_ hm, H.hb.new_ hm, H.lx, H.ly, fun i v hi hv => (H.onea i v hi hv).new_ hm, fun i v hi hv => (H.oneb i v hi hv).new_ hm, fun v hv => (H.oneg v hv).new_ hm, fun v hv => (H.oneh v hv).new_ hm, H.ne⟩
theorem OutS.start (ha : w.ownsRow B 24 1 a m xs) (hb : w.ownsRow B 24 1 b m ys) (hne : ∀ blk, a.ownBlock = some blk → b.ownBlock ≠ some blk) : OutS w B m fa fb ca cb a b a b xs ys [] [] 0 0 := by
  have h1 : xs.length = m := by have := ha.1; omega
  have h2 : ys.length = m := by have := hb.1; omega
  refine ⟨?_, ?_, h1, h2, fun i v hi => by omega, fun i v hi => by omega, fun v hv => by simp at hv, fun v hv => by simp at hv, fun x y blk hx hy hxb => ?_⟩
  · rw [List.append_nil]; subst h1; exact Grew.start ha
  · rw [List.append_nil]; subst h2; exact Grew.start hb
  · rcases hx with rfl | rfl <;> rcases hy with rfl | rfl <;> exact hne blk hxb
/-- The next of a is written over. -/
theorem OutS.put {gA cap : Nat} (H : OutS w B m fa fb ca cb (.slice (some ⟨gA, 0, none⟩) m cap) b (.slice (some ⟨gA, 0, none⟩) m cap) h xs ys [] hs ka kb) (hk : ka < m) :
    OutS ((w.setCell ⟨gA, ka, none⟩ (.slice (some ⟨w.heap.size, 0, none⟩) 1 1)).alloc (.cells #[.int .i64 (fa ka)] 3)) B m fa fb ca cb (.slice (some ⟨gA, 0, none⟩) m cap) b (.slice (some ⟨gA, 0, none⟩) m cap) h (xs.set ka (.slice (some ⟨w.heap.size, 0, none⟩) 1 1)) ys [] hs (ka + 1) kb := by
  have hm1 := mod_set w gA ka (.slice (some ⟨w.heap.size, 0, none⟩) 1 1)
  have hsz : (w.setCell ⟨gA, ka, none⟩ (.slice (some ⟨w.heap.size, 0, none⟩) 1 1)).heap.size = w.heap.size := by simp [World.setCell]
  have hal : New (w.setCell ⟨gA, ka, none⟩ (.slice (some ⟨w.heap.size, 0, none⟩) 1 1)) ((w.setCell ⟨gA, ka, none⟩ (.slice (some ⟨w.heap.size, 0, none⟩) 1 1)).alloc (.cells #[.int .i64 (fa ka)] 3)) := (Mod.refl _ _).alloc _
  have hown : w.ownsRow B 24 1 (.slice (some ⟨gA, 0, none⟩) m cap) m xs := by
    have := H.ga.ownu
    rw [List.append_nil, H.lx] at this; exact this
  have hint := own_not_int hown
  have hS : ∀ gg cs, w.heap[gg]? = some (.cells cs 3 (0, 0)) → ¬ gg = gA := fun gg cs hg e => hint gg cs hg (by rw [e]; rfl)
  have hlx := H.lx
  refine ⟨?_, ?_, by simp [H.lx], H.ly, fun i v hi hv => ?_, fun i v hi hv => ((H.oneb i v hi hv).mod hm1 hS).new_ hal, fun v hv => by simp at hv, fun v hv => ((H.oneh v hv).mod hm1 hS).new_ hal, H.ne⟩
  · have h1 := (hown.stored ka (.slice (some ⟨w.heap.size, 0, none⟩) 1 1)).1
    rw [List.append_nil]
    have h2 := Grew.start (v := .slice (some ⟨gA, 0, none⟩) m cap) (xs := xs.set ka (.slice (some ⟨w.heap.size, 0, none⟩) 1 1)) (by rw [List.length_set, hlx]; exact h1)
    rw [List.length_set, hlx] at h2
    exact h2.new_ hal
  · exact (H.hb.mod hm1 (fun blk hb e => H.ne _ b blk (.inl rfl) (.inl rfl) (by rw [e]; rfl) hb) (fun blk hb e => H.ne _ h blk (.inl rfl) (.inr rfl) (by rw [e]; rfl) hb)).new_ hal
  · by_cases e : i = ka
    · subst e
      rw [List.getElem?_set_self (by omega)] at hv
      injection hv with hv
      subst hv
      refine ⟨w.heap.size, rfl, ?_⟩
      have := Blk.new (w.setCell ⟨gA, i, none⟩ (.slice (some ⟨w.heap.size, 0, none⟩) 1 1)) 3 [.int .i64 (fa i)]
      rw [hsz] at this
      exact this
    · rw [List.getElem?_set_ne (Ne.symm e)] at hv
      exact ((H.onea i v (by omega) hv).mod hm1 hS).new_ hal
/-- g has grown by one list. -/
theorem OutS.grow (H : OutS w B m fa fb ca cb a b g h xs ys gs hs ka kb) (hn : New w w2) {sl : Value} (hsl : OneOf w2 sl ca)
    (hown : w'.ownsRow B 24 1 g' ((xs ++ gs).length + 1) ((xs ++ gs) ++ [sl])) (hat : Moved w2 w' g (xs ++ gs).length g' ((xs ++ gs).length + 1)) : OutS w' B m fa fb ca cb a b g' h xs ys (gs ++ [sl]) hs ka kb := by
  have H2 := H.new_ hn
  have hgr := hat.grown
  have hS : ∀ gg cs, w2.heap[gg]? = some (.cells cs 3 (0, 0)) → ¬ g.ownBlock = some gg := fun gg cs hg => own_not_int H2.ga.ownu gg cs hg
  have hm : Mod (fun blk => g.ownBlock = some blk) w2 w' := Mod.of_grown hgr (fun _ h => h)
  refine ⟨by rw [← List.append_assoc]; exact H2.ga.step hown hat, H2.hb.mod hm (fun blk hb e => H.ne g b blk (.inr rfl) (.inl rfl) e hb) (fun blk hb e => H.ne g h blk (.inr rfl) (.inr rfl) e hb), H.lx, H.ly, fun i v hi hv => (H2.onea i v hi hv).mod hm hS, fun i v hi hv => (H2.oneb i v hi hv).mod hm hS,
    fun v hv => ?_, fun v hv => (H2.oneh v hv).mod hm hS, fun x y blk hx hy hxb hyb => ?_⟩
  · rcases List.mem_append.1 hv with hv | hv
    · exact (H2.oneg v hv).mod hm hS
    · simp at hv; subst hv; exact hsl.mod hm hS
  · rcases hx with rfl | rfl
    · exact H.ne x y blk (.inl rfl) hy hxb hyb
    · rcases hat.block with hb2 | hb2
      · rw [hb2] at hxb; exact H.ne g y blk (.inr rfl) hy hxb hyb
      · rw [hb2] at hxb
        injection hxb with hxb
        have : blk < w2.heap.size := by
          rcases hy with rfl | rfl
          · exact (H2.hb.ownv.lt blk hyb).2
          · exact (H2.hb.ownu.lt blk hyb).2
        omega
end
end Go.Proofs.YtkkaejbdekdljaaDoor
/- Walks: the statements' outer: two answers' outer lists lie apart. -/
set_option linter.unusedVariables false
set_option linter.unusedSimpArgs false
namespace Go.Proofs.YtkkaejbdekdljaaDoor
open Go.RowKit

theorem own_elem {w : World} {B g n cap k : Nat} {e : TypeId} {xs : List Value} (h : w.ownsRow B e 1 (.slice (some ⟨g, 0, none⟩) n cap) n xs) (hk : k < n) : ∃ v, xs[k]? = some v ∧ w.cell? ⟨g, k, none⟩ = some v := by
  have hl : k < xs.length := by have := h.1; omega
  refine ⟨xs[k], List.getElem?_eq_getElem hl, ?_⟩
  rw [h.cellAt k (by omega), List.getElem?_eq_getElem hl]
theorem OutS.seea {w : World} {B m gA cap : Nat} {fa fb : Nat → Int} {ca cb : Int} {b g h : Value} {xs ys gs hs : List Value} {kb k : Nat} (H : OutS w B m fa fb ca cb (.slice (some ⟨gA, 0, none⟩) m cap) b g h xs ys gs hs m kb) (hk : k < m) :
    ∃ g0, w.cell? ⟨gA, k, none⟩ = some (.slice (some ⟨g0, 0, none⟩) 1 1) ∧ w.cell? ⟨g0, 0, none⟩ = some (.int .i64 (fa k)) := by
  have ho := H.ga.ownv
  rw [List.take_append_of_le_length (by rw [H.lx]; exact Nat.le_refl _), List.take_of_length_le (by rw [H.lx]; exact Nat.le_refl _)] at ho
  obtain ⟨v, hv, hc⟩ := own_elem ho hk
  obtain ⟨g0, rfl, h0⟩ := (H.onea k v hk hv).cell
  exact ⟨g0, hc, h0⟩
theorem OutS.seeg {w : World} {B m gG cap n : Nat} {fa fb : Nat → Int} {ca cb : Int} {a b h : Value} {xs ys gs hs : List Value} {ka kb k : Nat} (H : OutS w B m fa fb ca cb a b (.slice (some ⟨gG, 0, none⟩) n cap) h xs ys gs hs ka kb) (hn : (xs ++ gs).length = n) (hk : k < gs.length) :
    ∃ g0, w.cell? ⟨gG, m + k, none⟩ = some (.slice (some ⟨g0, 0, none⟩) 1 1) ∧ w.cell? ⟨g0, 0, none⟩ = some (.int .i64 ca) := by
  have hl := H.lx
  have ho := H.ga.ownu
  rw [hn] at ho
  rw [List.length_append] at hn
  obtain ⟨v, hv, hc⟩ := own_elem (k := m + k) ho (by omega)
  rw [List.getElem?_append_right (by omega)] at hv
  obtain ⟨g0, rfl, h0⟩ := (H.oneg v (List.mem_of_getElem? hv)).cell
  exact ⟨g0, hc, h0⟩
set_option maxRecDepth 100000 in
set_option maxHeartbeats 4000000 in
theorem outer_any (A Bv : Option Addr) (m ac bc B : Nat) (xs ys : List Value) (w : World) (hm : m ≤ 4096) (hB : B ≤ w.heap.size) (ha : w.ownsRow B 24 1 (.slice A m ac) m xs) (hb : w.ownsRow B 24 1 (.slice Bv m bc) m ys)
    (hne : ∀ blk, (Value.slice A m ac).ownBlock = some blk → (Value.slice Bv m bc).ownBlock ≠ some blk) :
    Calls Tryd.prog 32 #[.slice A m ac, .slice Bv m bc] w fun e w' => e = .returned (.bool true) ∧ Mod (fun k => B ≤ k) w w' := by
  have HS := Lib.hid (OutS.start (fa := fun i => (i : Int)) (fb := fun i => -(i : Int) - 1) (ca := 77) (cb := -77) ha hb hne)
  clear ha hb hne
  go_enter Tryd.func32, Tryd.ntmps32
  go_wp2
  go_loopw [6] (fun i wr => ∃ (k : Nat) (xs : List Value), k ≤ m ∧ i = .int .i64 (k : Int) ∧ OutS wr B m (fun i => (i : Int)) (fun i => -(i : Int) - 1) 77 (-77) (.slice A m ac) (.slice Bv m bc) (.slice A m ac) (.slice Bv m bc) xs ys [] [] k 0 ∧ Mod (fun k => B ≤ k) w wr) (fun i _ => m - (intOf i).toNat)
  case atStart => exact ⟨0, xs, Nat.zero_le _, rfl, HS.out, Mod.refl _ _⟩
  case round =>
    clear HS
    obtain ⟨k, xs, hk, rfl, hs, hw⟩ := hrel
    have HS := Lib.hid hs
    clear hs
    by_cases hlt : k < m
    · obtain ⟨gA, rfl, hgA, hgA2⟩ := own_form HS.out.ga.ownv (by omega)
      obtain ⟨u, hu, hcu⟩ := own_elem HS.out.ga.ownv hlt
      have hfu := HS.out.ga.ownv.frozenAt k
      have HP := Lib.hid (HS.out.put hlt)
      clear hu
      go_wp2
      go_roundw
      case rel => exact ⟨k + 1, _, by omega, by go_num, HP.out, (hw.set_ (fun _ => hgA) _).alloc _⟩
      case measure => simp [intOf]; omega
    · obtain rfl : m = k := by omega
      obtain ⟨wo, rfl⟩ : ∃ wo : World, wo = wr := ⟨_, rfl⟩
      go_wp2
      go_loopw [7] (fun i wr => ∃ (k : Nat) (ys : List Value), k ≤ m ∧ i = .int .i64 (k : Int) ∧ OutS wr B m (fun i => (i : Int)) (fun i => -(i : Int) - 1) 77 (-77) (.slice A m ac) (.slice Bv m bc) (.slice A m ac) (.slice Bv m bc) xs ys [] [] m k ∧ Mod (fun k => B ≤ k) w wr) (fun i _ => m - (intOf i).toNat)
      case atStart => exact ⟨0, ys, Nat.zero_le _, rfl, HS.out, hw⟩
      case round =>
        clear HS hw
        obtain ⟨k, ys, hk, rfl, hs, hw⟩ := hrel
        have HS := Lib.hid hs
        clear hs
        by_cases hlt : k < m
        · obtain ⟨gB, rfl, hgB, hgB2⟩ := own_form HS.out.hb.ownv (by omega)
          obtain ⟨u, hu, hcu⟩ := own_elem HS.out.hb.ownv hlt
          have hfu := HS.out.hb.ownv.frozenAt k
          have HP := Lib.hid (HS.out.swap.put hlt).swap
          clear hu
          go_wp2
          go_roundw
          case rel => exact ⟨k + 1, _, by omega, by go_num, HP.out, (hw.set_ (fun _ => hgB) _).alloc _⟩
          case measure => simp [intOf]; omega
        · obtain rfl : m = k := by omega
          obtain ⟨wo, rfl⟩ : ∃ wo : World, wo = wr := ⟨_, rfl⟩
          go_wp2
          go_loopw [8, 10] (fun g i wr => ∃ (k : Nat) (gs : List Value), k ≤ 20 ∧ i = .int .i64 (k : Int) ∧ gs.length = k ∧ OutS wr B m (fun i => (i : Int)) (fun i => -(i : Int) - 1) 77 (-77) (.slice A m ac) (.slice Bv m bc) g (.slice Bv m bc) xs ys gs [] m m ∧ Mod (fun k => B ≤ k) w wr) (fun _ i _ => 20 - (intOf i).toNat)
          case atStart => exact ⟨0, [], Nat.zero_le _, rfl, rfl, HS.out, hw⟩
          case round =>
            clear HS hw
            obtain ⟨k, gs, hk, rfl, hgl, hs, hw⟩ := hrel
            have HS := Lib.hid hs
            have HGL := Lib.hid hgl
            clear hs hgl
            by_cases hlt : k < 20
            · have hlx := HS.out.lx
              have hlg := HGL.out
              have hws := hw.size
              go_wp2_with (at_builtin; refine wpList_appm Tryd.slt35 rfl (.tmp 45) (.tmp 47) rfl B _ (xs ++ gs).length (xs ++ gs) rfl (own_new HS.out.ga.ownu (((Mod.refl _ _).alloc _).alloc _)) ⟨wr.heap.size + 1, 0, none⟩ 1 1 [.slice (some ⟨wr.heap.size, 0, none⟩) 1 1] (by decide) rfl rfl ?hnews ?h1 ?hb ?hB ?_)
              case hnews => exact fun j u hj => by have := cells_new (wr.alloc (.cells #[.int .i64 77] 3)) [.slice (some ⟨wr.heap.size, 0, none⟩) 1 1] 24 j u hj; simpa using this
              case h1 => simp [Value.oneCell']
              case hb => rw [List.length_append]; omega
              case hB => simp; omega
              intro v8 w8 hown8 hat8
              have HG8 := Lib.hid (HS.out.grow (((Mod.refl _ _).alloc _).alloc _) ⟨wr.heap.size, rfl, (Blk.new wr 3 [.int .i64 77]).alloc _⟩ (by rw [show (xs ++ gs).length = m + k from by rw [List.length_append]; omega, List.append_assoc]; exact hown8) (by rw [show (xs ++ gs).length = m + k from by rw [List.length_append]; omega]; exact hat8))
              have hz8 : Mod (fun k => B ≤ k) w w8 := Mod.trans ((hw.alloc (.cells #[.int .i64 77] 3)).alloc (.cells #[.slice (some ⟨wr.heap.size, 0, none⟩) 1 1] 24)) (Mod.of_grown hat8.grown (fun k h => h)) (fun i hi h => (HS.out.ga.ownu.lt i h).1)
              clear hown8 hat8
              go_wp2
              go_roundw
              case rel => exact ⟨k + 1, gs ++ [.slice (some ⟨wr.heap.size, 0, none⟩) 1 1], by omega, by go_num, by simp; exact HGL.out, HG8.out, hz8⟩
              case measure => simp [intOf]; omega
            · have hk20 := Lib.hid (show k = 20 by omega)
              have HGL20 := Lib.hid (HGL.out.trans hk20.out)
              obtain ⟨wo, rfl⟩ : ∃ wo : World, wo = wr := ⟨_, rfl⟩
              obtain ⟨GA, gc, hga⟩ := own_shape HS.out.ga.ownu
              have hgl20 : (xs ++ gs).length = m + 20 := by have := HS.out.lx; have := HGL.out; have := hk20.out; rw [List.length_append]; omega
              rw [hgl20] at hga
              subst hga
              have HS0 := Lib.hid HS.out
              go_wp2
              go_loopw [9, 11] (fun h i wr => ∃ (k : Nat) (hs : List Value), k ≤ 20 ∧ i = .int .i64 (k : Int) ∧ hs.length = k ∧ OutS wr B m (fun i => (i : Int)) (fun i => -(i : Int) - 1) 77 (-77) (.slice A m ac) (.slice Bv m bc) (.slice GA (m + 20) gc) h xs ys gs hs m m ∧ Mod (fun k => B ≤ k) w wr) (fun _ i _ => 20 - (intOf i).toNat)
              case atStart => exact ⟨0, [], Nat.zero_le _, rfl, rfl, HS0.out, hw⟩
              case round =>
                clear HS HS0 HGL hw
                obtain ⟨k, hs, hk, rfl, hgl, hss, hw⟩ := hrel
                have HS := Lib.hid hss
                have HGL := Lib.hid hgl
                clear hss hgl
                by_cases hlt : k < 20
                · have hlx := HS.out.ly
                  have hlg := HGL.out
                  have hws := hw.size
                  go_wp2_with (at_builtin; refine wpList_appm Tryd.slt35 rfl (.tmp 53) (.tmp 55) rfl B _ (ys ++ hs).length (ys ++ hs) rfl (own_new HS.out.hb.ownu (((Mod.refl _ _).alloc _).alloc _)) ⟨wr.heap.size + 1, 0, none⟩ 1 1 [.slice (some ⟨wr.heap.size, 0, none⟩) 1 1] (by decide) rfl rfl ?hnews ?h1 ?hb ?hB ?_)
                  case hnews => exact fun j u hj => by have := cells_new (wr.alloc (.cells #[.int .i64 (-77)] 3)) [.slice (some ⟨wr.heap.size, 0, none⟩) 1 1] 24 j u hj; simpa using this
                  case h1 => simp [Value.oneCell']
                  case hb => rw [List.length_append]; omega
                  case hB => simp; omega
                  intro v8 w8 hown8 hat8
                  have HG8 := Lib.hid (HS.out.swap.grow (((Mod.refl _ _).alloc _).alloc _) ⟨wr.heap.size, rfl, (Blk.new wr 3 [.int .i64 (-77)]).alloc _⟩ (by rw [show (ys ++ hs).length = m + k from by rw [List.length_append]; omega, List.append_assoc]; exact hown8) (by rw [show (ys ++ hs).length = m + k from by rw [List.length_append]; omega]; exact hat8)).swap
                  have hz8 : Mod (fun k => B ≤ k) w w8 := Mod.trans ((hw.alloc (.cells #[.int .i64 (-77)] 3)).alloc (.cells #[.slice (some ⟨wr.heap.size, 0, none⟩) 1 1] 24)) (Mod.of_grown hat8.grown (fun k h => h)) (fun i hi h => (HS.out.hb.ownu.lt i h).1)
                  clear hown8 hat8
                  go_wp2
                  go_roundw
                  case rel => exact ⟨k + 1, hs ++ [.slice (some ⟨wr.heap.size, 0, none⟩) 1 1], by omega, by go_num, by simp; exact HGL.out, HG8.out, hz8⟩
                  case measure => simp [intOf]; omega
                · have hk20 := Lib.hid (show k = 20 by omega)
                  obtain ⟨wo, rfl⟩ : ∃ wo : World, wo = wr := ⟨_, rfl⟩
                  obtain ⟨HA, hc, hha⟩ := own_shape HS.out.hb.ownu
                  have hhl20 : (ys ++ hs).length = m + 20 := by have := HS.out.ly; have := HGL.out; have := hk20.out; rw [List.length_append]; omega
                  rw [hhl20] at hha
                  subst hha
                  have HS0 := Lib.hid HS.out
                  have hmg := HGL20.out
                  have hmh := HGL.out.trans hk20.out
                  clear HS
                  go_wp2
                  go_loopw [12] (fun i wr => ∃ k : Nat, k ≤ m ∧ i = .int .i64 (k : Int) ∧ New wo wr) (fun i _ => m - (intOf i).toNat)
                  case atStart => exact ⟨0, Nat.zero_le _, rfl, Mod.refl _ _⟩
                  case round =>
                    obtain ⟨k, hk, rfl, hwn⟩ := hrel
                    have HS := Lib.hid (HS0.out.new_ hwn)
                    by_cases hlt : k < m
                    · obtain ⟨gA, rfl, hgA, hgA2⟩ := own_form HS.out.ga.ownv (by omega)
                      obtain ⟨gB, rfl, hgB, hgB2⟩ := own_form HS.out.hb.ownv (by omega)
                      obtain ⟨ga0, ca1, ca2⟩ := HS.out.seea hlt
                      obtain ⟨gb0, cb1, cb2⟩ := HS.out.swap.seea hlt
                      go_wp2
                      go_roundw
                      case rel => exact ⟨k + 1, by omega, by go_num, hwn⟩
                      case measure => simp [intOf]; omega
                    · obtain rfl : m = k := by omega
                      have HN := Lib.hid hwn
                      obtain ⟨wp, rfl⟩ : ∃ wp : World, wp = wr := ⟨_, rfl⟩
                      clear hwn
                      go_wp2
                      go_loopw [13] (fun i wr => ∃ k : Nat, k ≤ 20 ∧ i = .int .i64 (k : Int) ∧ New wp wr) (fun i _ => 20 - (intOf i).toNat)
                      case atStart => exact ⟨0, Nat.zero_le _, rfl, Mod.refl _ _⟩
                      case round =>
                        obtain ⟨k, hk, rfl, hwn⟩ := hrel
                        have HS2 := Lib.hid (HS.out.new_ hwn)
                        have hlx := HS2.out.lx
                        have hly := HS2.out.ly
                        by_cases hlt : k < 20
                        · have hG : (xs ++ gs).length = m + 20 := by rw [List.length_append]; omega
                          have hH : (ys ++ hs).length = m + 20 := by rw [List.length_append]; omega
                          have hou := HS2.out.ga.ownu
                          rw [hG] at hou
                          have hov := HS2.out.hb.ownu
                          rw [hH] at hov
                          obtain ⟨gG, rfl, hgG, hgG2⟩ := own_form hou (by omega)
                          obtain ⟨gH, rfl, hgH, hgH2⟩ := own_form hov (by omega)
                          obtain ⟨ga0, ca1, ca2⟩ := HS2.out.seeg (k := k) hG (by omega)
                          obtain ⟨gb0, cb1, cb2⟩ := HS2.out.swap.seeg (k := k) hH (by omega)
                          clear hou hov
                          go_wp2
                          go_roundw
                          case rel => exact ⟨k + 1, by omega, by go_num, hwn⟩
                          case measure => simp [intOf]; omega
                        · go_wp2
                          go_ret
                          exact ⟨rfl, Mod.trans (Mod.trans hw HN.out (fun _ _ h => h.elim)) hwn (fun _ _ h => h.elim)⟩
end Go.Proofs.YtkkaejbdekdljaaDoor
/- Words: a slice literal of one struct of many cells. -/
set_option linter.unusedVariables false
set_option linter.unusedSimpArgs false
namespace Go.Proofs.YtkkaejbdekdljaaDoor
open Go.RowKit

section
variable {P : Program} {ops : Array Oper} {rest : List Oper} {o : Oper} {a : Act} {Q : Exit → Act → World → Prop} {w : World}
theorem wpList_buildOne {t e : TypeId} {size bytes : Nat} (H : SlT P t e size bytes) (hg : o.guard = none) (x : Operand) (ho : o.op = .buildSlice t 1 #[(0, x)]) (hs : size ≤ 1000) (cs : List Value) (hx : a.eval x = .agg cs.toArray) (hl : cs.length = size)
    (h : wpList P ops Q rest (a.put o.dst (.slice (some ⟨w.heap.size, 0, none⟩) 1 1)) (w.alloc (.cells cs.toArray e))) : wpList P ops Q (o :: rest) a w := by
  obtain ⟨z, hi, hz⟩ := H.info
  obtain ⟨ie, hi0, hi1, hi2, hi3⟩ := info_parts hi
  have hp := H.pos
  refine wpList_buildSlice hg t e 1 _ ho cs.toArray ie z H.und hi0 hi1 (by rw [hi2]; omega) (by rw [hi2]; omega) ?_ h
  rw [hi2]
  obtain ⟨r, hr, hrs, hrk⟩ := Great.fill_dense hp [.agg cs.toArray] 0 ((Array.range (1 * size)).map (z.cells[· % z.cells.size]!)) (fun v hv => by simp at hv; subst hv; simp [Value.cells, hl]) (by simp)
  have e1 : ((#[(0, x)] : Array (Nat × Operand)).map fun (i, x) => (i, a.eval x)).toList = ([Value.agg cs.toArray].zipIdx 0).map fun x => (x.2, x.1) := by simp [hx]
  rw [e1, hr]
  congr 1
  apply Array.ext_getElem?
  intro k
  rw [hrk k]
  by_cases hk : k < size
  · rw [if_pos (by simp; exact hk), Nat.div_eq_of_lt hk, Nat.mod_eq_of_lt hk]
    simp [Value.cells]
  · rw [if_neg (by simp; omega)]
    rw [Array.getElem?_eq_none (by simp; omega), Array.getElem?_eq_none (by simp; omega)]
/-- A struct of many cells is stored into a new variable. -/
theorem wpList_store_new {w0 : World} {op : Oper} {c : Array Value} {t : TypeId} (hgd : op.guard = none) (x y : Operand) (ho : op.op = .store t x y) (hw0 : w0 = w.alloc (.cells c t)) (cs : List Value) (hx : a.eval x = .pointer (some ⟨w.heap.size, 0, none⟩)) (hy : a.eval y = .agg cs.toArray)
    (hi : (P.info? t).map (·.size) = some cs.length) (hz : c.size = cs.length) (h1 : ∀ u ∈ cs, u.oneCell' = true)
    (h : ∀ w', Blk w' w.heap.size t cs → New w w' → w'.heap.size = w.heap.size + 1 → wpList P ops Q rest (a.put op.dst undef) w') : wpList P ops Q (op :: rest) a w0 := by
  subst hw0
  exact wpList_store_fresh hgd x y ho cs hx hy hi hz h1 h
end
end Go.Proofs.YtkkaejbdekdljaaDoor
/- Walks: the document's Order, whole. -/
set_option linter.unusedVariables false
set_option linter.unusedSimpArgs false
namespace Go.Proofs.YtkkaejbdekdljaaDoor
open Go.RowKit

/-- What a call of the document's Order comes to. -/
def RefOrderPost (w : World) (n : Int) (l : List (Int × Int)) (pn : Nat) (prio : List Int) (e : Ending) (w' : World) : Prop :=
  ∃ v, e = .returned (.tuple #[v, .int .i64 (ordErr n l pn prio).1, .int .i64 (ordErr n l pn prio).2]) ∧ w'.ownsRow w.heap.size 3 1 v (ordOut n l pn prio).length (nats (ordOut n l pn prio)) ∧ New w w'
theorem refOrder_bad {w : World} {n : Int} {l : List (Int × Int)} {pn : Nat} {prio : List Int} {a c : Int} (h : ordErr n l pn prio = (a, c)) (ha : a ≠ 0) : ∀ w', New w w' → RefOrderPost w n l pn prio (.returned (.tuple #[.slice none 0 0, .int .i64 a, .int .i64 c])) w' := fun w' hw =>
  ⟨_, by rw [h], by have e : ordOut n l pn prio = [] := by simp [ordOut, h, ha]
                    rw [e]; exact own_nil _ _ _ _, hw⟩

set_option maxRecDepth 100000 in
set_option maxHeartbeats 1000000 in
theorem refOrder_any (n : Int) (A P : Option Addr) (m c pn pc : Nat) (l : List (Int × Int)) (prio : List Int) (w : World) (ha : Sl w A m 2 (twos l)) (hp : Sl w P pn 1 (nums prio)) (hm4 : m ≤ 4294967296) :
    Calls Tryd.prog 15 #[.int .i64 n, .slice A m c, .slice P pn pc] w (RefOrderPost w n l pn prio) := by
  have hpm := hp.le
  by_cases h1 : n < 0
  · have hs := fun w => refSize_any n w
    simp only [if_pos h1] at hs
    have HH := Lib.hid (refOrder_bad (w := w) (n := n) (l := l) (pn := pn) (prio := prio) (a := 1) (c := 0) (by simp [ordErr, h1]) (by decide))
    have HS := Lib.hid hs
    clear hs
    go_enter Tryd.func15, Tryd.ntmps15
    go_wp2_with (go_at_call 33; refine (HS.out _).mono ?_; rintro e w1 ⟨rfl, rfl⟩)
    go_ret3
    exact HH.out _ (Mod.refl _ _)
  · by_cases h2 : 4096 < n
    · have hs := fun w => refSize_any n w
      simp only [if_neg h1, if_pos h2] at hs
      have HH := Lib.hid (refOrder_bad (w := w) (n := n) (l := l) (pn := pn) (prio := prio) (a := 5) (c := 0) (by simp [ordErr, h1, h2]) (by decide))
      have HS := Lib.hid hs
      clear hs
      go_enter Tryd.func15, Tryd.ntmps15
      go_wp2_with (go_at_call 33; refine (HS.out _).mono ?_; rintro e w1 ⟨rfl, rfl⟩)
      go_ret3
      exact HH.out _ (Mod.refl _ _)
    · obtain ⟨n, rfl⟩ := Int.eq_ofNat_of_zero_le (Int.not_lt.1 h1)
      have hn : n ≤ 4096 := by omega
      have hs := fun w => refSize_any (n : Int) w
      simp only [if_neg h1, if_neg h2] at hs
      have HS := Lib.hid hs
      clear hs
      by_cases h3 : pn < n
      · have HH := Lib.hid (refOrder_bad (w := w) (n := (n : Int)) (l := l) (pn := pn) (prio := prio) (a := 2) (c := 0) (by unfold ordErr; rw [if_neg h1, if_neg h2, if_pos (by omega)]) (by decide))
        go_enter Tryd.func15, Tryd.ntmps15
        go_wp2_with (go_at_call 33; refine (HS.out _).mono ?_; rintro e w1 ⟨rfl, rfl⟩)
        go_ret3
        exact HH.out _ (Mod.refl _ _)
      · by_cases h4 : n < pn
        · have HH := Lib.hid (refOrder_bad (w := w) (n := (n : Int)) (l := l) (pn := pn) (prio := prio) (a := 3) (c := 0) (by unfold ordErr; rw [if_neg h1, if_neg h2, if_neg (by omega), if_pos (by omega)]) (by decide))
          go_enter Tryd.func15, Tryd.ntmps15
          go_wp2_with (go_at_call 33; refine (HS.out _).mono ?_; rintro e w1 ⟨rfl, rfl⟩)
          go_ret3
          exact HH.out _ (Mod.refl _ _)
        · obtain rfl : pn = n := by omega
          cases hlost : lostFrom pn 0 l with
          | some k =>
            have HH := Lib.hid (refOrder_bad (w := w) (n := (pn : Int)) (l := l) (pn := pn) (prio := prio) (a := 10) (c := k) (by unfold ordErr; rw [if_neg h1, if_neg h2, if_neg (by omega), if_neg (by omega)]; simp [hlost]) (by decide))
            have hna := fun w ha => refLost_any pn A m c l w ha
            simp only [hlost, lostInt] at hna
            have HN := Lib.hid hna
            clear hna hlost
            go_enter Tryd.func15, Tryd.ntmps15
            go_wp2_with (first
              | (go_at_call 33; refine (HS.out _).mono ?_; rintro e w1 ⟨rfl, rfl⟩)
              | (go_at_call 34; refine (HN.out _ ha).mono ?_; rintro e w2 ⟨rfl, hw2⟩))
            go_ret3
            exact HH.out _ hw2
          | none =>
            have hna := fun w ha => refLost_any pn A m c l w ha
            simp only [hlost, lostInt] at hna
            have HN := Lib.hid hna
            have HI := Lib.hid (lostFrom_none hlost)
            by_cases hfull : (ordered l (prioOf prio) pn).length = pn
            · have hge : ordErr (pn : Int) l pn prio = (0, 0) := by unfold ordErr; rw [if_neg h1, if_neg h2, if_neg (by omega), if_neg (by omega)]; simp [hlost, hfull]
              have HP : ∀ w' v, New w w' → w'.ownsRow w.heap.size 3 1 v (ordered l (prioOf prio) pn).length (nats (ordered l (prioOf prio) pn)) → RefOrderPost w pn l pn prio (.returned (.tuple #[v, .int .i64 0, .int .i64 0])) w' := fun w' v hw hv =>
                ⟨_, by rw [hge], by simpa [ordOut, hge] using hv, hw⟩
              have HH := Lib.hid HP
              have HF := Lib.hid hfull
              clear HP hna hlost hge hfull
              go_enter Tryd.func15, Tryd.ntmps15
              go_wp2_with (first
                | (go_at_call 33; refine (HS.out _).mono ?_; rintro e w1 ⟨rfl, rfl⟩)
                | (go_at_call 34; refine (HN.out _ ha).mono ?_; rintro e w2 ⟨rfl, hw2⟩)
                | (go_at_call 45; refine (refOrder0_any pn A P m c pc l prio _ hn (ha.new_ hw2) HI.out (hp.new_ hw2) hm4).mono ?_; rintro e w3 ⟨v, b, rfl, hb, hv, hw3⟩; have hb2 : b = true := (by rw [hb, HF.out]; simp); clear hb; subst hb2))
              go_ret3
              exact HH.out _ v (New.trans hw2 hw3) (own_mono (hv trivial) hw2.size)
            · have HH := Lib.hid (refOrder_bad (w := w) (n := (pn : Int)) (l := l) (pn := pn) (prio := prio) (a := 12) (c := 0) (by unfold ordErr; rw [if_neg h1, if_neg h2, if_neg (by omega), if_neg (by omega)]; simp [hlost, hfull]) (by decide))
              have HF := Lib.hid hfull
              clear hna hlost hfull
              go_enter Tryd.func15, Tryd.ntmps15
              go_wp2_with (first
                | (go_at_call 33; refine (HS.out _).mono ?_; rintro e w1 ⟨rfl, rfl⟩)
                | (go_at_call 34; refine (HN.out _ ha).mono ?_; rintro e w2 ⟨rfl, hw2⟩)
                | (go_at_call 45; refine (refOrder0_any pn A P m c pc l prio _ hn (ha.new_ hw2) HI.out (hp.new_ hw2) hm4).mono ?_; rintro e w3 ⟨v, b, rfl, hb, hv, hw3⟩; have hb2 : b = false := (by rw [hb]; simpa using HF.out); clear hb; subst hb2))
              go_ret3
              exact HH.out _ (New.trans hw2 hw3)
end Go.Proofs.YtkkaejbdekdljaaDoor
/- Walks: the law LinksOrder. -/
set_option linter.unusedVariables false
set_option linter.unusedSimpArgs false
namespace Go.Proofs.YtkkaejbdekdljaaDoor
open Go.RowKit

theorem nums_eq (l : List Int) : nums l = cellsL encInts l := by
  induction l with
  | nil => rfl
  | cons a l ih => simp [nums, cellsL, encInts] at *; try exact ih
theorem run_length (l : List (Int × Int)) (prio : Nat → Int) (n : Nat) : ∀ f out, (run l prio n f out).length ≤ out.length + f := by
  intro f
  induction f with
  | zero => intro out; simp [run]
  | succ f ih => intro out; simp only [run]; split
                 · omega
                 · exact Nat.le_trans (ih _) (by simp; omega)
theorem ordOut_length (n : Int) (l : List (Int × Int)) (pn : Nat) (prio : List Int) : (ordOut n l pn prio).length ≤ 4096 := by
  unfold ordOut
  split
  · rename_i h0
    have h2 : ¬ n < 0 ∧ ¬ 4096 < n := by
      refine ⟨fun h => ?_, fun h => ?_⟩
      · simp [ordErr, h] at h0
      · have h3 : ¬ n < 0 := by omega
        simp [ordErr, h, h3] at h0
    have := run_length l (prioOf prio) n.toNat n.toNat []
    simp [ordered] at *
    omega
  · simp

set_option maxRecDepth 100000 in
set_option maxHeartbeats 4000000 in
theorem linksOrderLaw_any (n : Int) (A P : Option Addr) (m c pn pc : Nat) (l : List (Int × Int)) (prio : List Int) (w : World) (ha : Sl w A m 2 (twos l)) (hp : Sl w P pn 1 (nums prio)) (hg : ErrVar w) :
    Calls Tryd.prog 4 #[.int .i64 n, .slice A m c, .slice P pn pc] w fun e w' => e = .returned (.bool true) ∧ New w w' := by
  have hm := ha.le
  have hpm := hp.le
  by_cases hbig : 300 < m
  · go_enter Tryd.func4, Tryd.ntmps4
    go_wp2_with (go_at_call 7; refine (works_any _).mono ?_; rintro e w1 ⟨rfl, hw1⟩)
    go_ret
    exact ⟨rfl, hw1⟩
  by_cases hbig2 : 300 < pn
  · go_enter Tryd.func4, Tryd.ntmps4
    go_wp2_with (go_at_call 7; refine (works_any _).mono ?_; rintro e w1 ⟨rfl, hw1⟩)
    go_ret
    exact ⟨rfl, hw1⟩
  · have HLEN := Lib.hid (show (ordOut n l pn prio).length ≤ 4294967296 from Nat.le_trans (ordOut_length n l pn prio) (by omega))
    generalize hno : (ordErr n l pn prio).1 = no
    generalize hat : (ordErr n l pn prio).2 = at'
    generalize hou : ordOut n l pn prio = out at HLEN
    have HNO := Lib.hid hno
    have HAT := Lib.hid hat
    have HOU := Lib.hid hou
    clear hno hat hou
    go_enter Tryd.func4, Tryd.ntmps4
    go_wp2_with fail
    refine (refOrder_any n A P m c pn pc l prio _ ha hp (by omega)).mono ?_
    rintro e w1 ⟨v, rfl, hv, hw1⟩
    rw [HNO.out, HAT.out]
    rw [HOU.out] at hv
    obtain ⟨VA, vc, rfl⟩ := own_shape hv
    have hsv := own_sl hv
    rw [nats_eq] at hsv
    clear hv
    go_wp2_with fail
    refine (lentTwos_any A m c l _ (ha.new_ hw1) (by omega)).mono ?_
    rintro e w2 ⟨g, cap, rfl, hL, hw2⟩
    have n2 := New.trans hw1 hw2
    have hcap := hL.cap
    have hsl : Sl w2 (some ⟨g, 0, none⟩) m 2 (twos l) := by
      have h := hL
      rw [cellsL_append] at h
      exact h.sl (by rw [cellsL_length encTwos_len, ha.length encTwos_len (by decide)])
    have HL := Lib.hid hL
    clear hL hcap
    go_wp2_with fail
    refine (lentInts_any P pn pc prio _ (by have := hp.new_ n2; rwa [nums_eq] at this) (by omega)).mono ?_
    rintro e w3 ⟨g2, cap2, rfl, hL2, hw3⟩
    have n3 := New.trans n2 hw3
    have hcap2 := hL2.cap
    have hsl2 : Sl w3 (some ⟨g2, 0, none⟩) pn 1 (nums prio) := by
      have h := hL2
      rw [cellsL_append] at h
      rw [nums_eq]
      exact h.sl (by rw [cellsL_length encInts_len, (show Sl w P pn 1 (cellsL encInts prio) by rw [← nums_eq]; exact hp).length encInts_len (by decide)])
    have HL2 := Lib.hid hL2
    clear hL2 hcap2
    go_wp2_with fail
    refine (linksOrder_any n _ _ m cap pn cap2 l prio _ (hsl.new_ hw3) hsl2 (by omega)).mono ?_
    rintro e w4 ⟨va, ea, rfl, hea, hva, hw4⟩
    have n4 := New.trans n3 hw4
    go_wp2_with fail
    refine (linksOrder_any n _ _ m cap pn cap2 l prio _ ((hsl.new_ hw3).new_ hw4) (hsl2.new_ hw4) (by omega)).mono ?_
    rintro e w5 ⟨vb, eb, rfl, heb, hvb, hw5⟩
    rw [HNO.out, HAT.out] at hea heb
    rw [HOU.out] at hva hvb
    have n5 := New.trans n4 hw5
    obtain ⟨AA, ac, rfl⟩ := own_shape hva
    obtain ⟨BA, bc, rfl⟩ := own_shape hvb
    have hrows : RowsOf w5 w3.heap.size 3 1 [.slice AA out.length ac, .slice BA out.length bc] [(out.length, nats out), (out.length, nats out)] := RowsOf.two (own_new hva hw5) hvb hw4.size (fun x hx hx2 => by
      have h1 := (hva.lt x hx).2
      have h2 := (hvb.lt x hx2).1
      omega)
    have hsa : Sl w5 AA out.length 1 (nums (out.map fun x : Nat => (x : Int))) := by have := own_sl (own_new hva hw5); rwa [nats_eq] at this
    have hsb : Sl w5 BA out.length 1 (nums (out.map fun x : Nat => (x : Int))) := by have := own_sl hvb; rwa [nats_eq] at this
    have HROWS := Lib.hid hrows
    clear hva hvb hrows
    have hsv5 := hsv.new_ (New.trans (New.trans (New.trans hw2 hw3) hw4) hw5)
    clear hsv
    go_wp2_with fail
    refine (told_any hea _ (hg.new_ n5)).mono ?_
    rintro e w6 ⟨rfl, hw6⟩
    go_wp2_with fail
    refine (told_any heb _ ((hg.new_ n5).new_ hw6)).mono ?_
    rintro e w7 ⟨rfl, hw7⟩
    have n57 := New.trans hw6 hw7
    go_wp2_with fail
    refine (sameInts_any AA VA _ _ ac vc _ _ _ (hsa.new_ n57) (hsv5.new_ n57)).mono ?_
    rintro e w8 ⟨rfl, hw8⟩
    have n58 := New.trans n57 hw8
    go_wp2_with fail
    refine (sameInts_any BA VA _ _ bc vc _ _ _ (hsb.new_ n58) (hsv5.new_ n58)).mono ?_
    rintro e w9 ⟨rfl, hw9⟩
    have n59 := New.trans n58 hw9
    go_wp2_with fail
    refine (works_any _).mono ?_
    rintro e w10 ⟨rfl, hw10⟩
    have n510 := New.trans n59 hw10
    go_wp2_with fail
    refine (apartInts_any (some ⟨w10.heap.size, 0, none⟩) 2 2 w3.heap.size [.slice AA out.length ac, .slice BA out.length bc] _ _ (Sl.lit w10 24 _ 2 1 rfl (by omega)) (fun ad had hown => by
        injection had with had
        subst had
        have := (HROWS.out.owns hown).2.1
        have := n510.size
        simp only at *
        omega) (HROWS.out.new_ (New.trans n510 ((Mod.refl _ _).alloc _))) (fun x hx => by
        simp at hx
        rw [hx]; exact HLEN.out) (by omega) (by simp; have := n510.size; have := (New.trans hw4 hw5).size; omega)).mono ?_
    rintro e w11 ⟨rfl, hw11⟩
    have hLk : Lent w11 w1.heap.size 67 2 g m cap (cellsL encTwos (l ++ marksTwos 16)) := by
      have h1 := ((HL.out.new_ (New.trans (New.trans hw3 hw4) hw5)).new_ n510).new_ ((Mod.refl (fun _ => False) w10).alloc (.cells #[.slice AA out.length ac, .slice BA out.length bc] 24))
      exact own_mod h1 hw11 (fun x hx hown => by
        have h2 := HROWS.out.owns hown
        have h3 := (HL.out.lt x hx).2
        have := hw3.size
        omega)
    have hLk2 : Lent w11 w2.heap.size 3 1 g2 pn cap2 (cellsL encInts (prio ++ marksInts 16)) := by
      have h1 := ((HL2.out.new_ (New.trans hw4 hw5)).new_ n510).new_ ((Mod.refl (fun _ => False) w10).alloc (.cells #[.slice AA out.length ac, .slice BA out.length bc] 24))
      exact own_mod h1 hw11 (fun x hx hown => by
        have h2 := HROWS.out.owns hown
        have h3 := (HL2.out.lt x hx).2
        omega)
    have n11 : New w w11 := Mod.trans (New.trans (New.trans n5 n510) ((Mod.refl _ _).alloc _)) hw11 (fun i hi hown => by
      have h2 := (HROWS.out.owns hown).1
      have := n3.size
      omega)
    go_wp2_with fail
    refine (keptTwos_any g A m cap c _ l _ hLk (ha.new_ n11) (by omega)).mono ?_
    rintro e w12 ⟨rfl, hw12⟩
    go_wp2_with fail
    refine (keptInts_any g2 P pn cap2 pc _ prio _ (own_new hLk2 hw12) (by have := (hp.new_ n11).new_ hw12; rwa [nums_eq] at this) (by omega)).mono ?_
    rintro e w13 ⟨rfl, hw13⟩
    go_wp2
    go_ret
    exact ⟨rfl, New.trans (New.trans n11 hw12) hw13⟩
end Go.Proofs.YtkkaejbdekdljaaDoor
