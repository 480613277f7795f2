/- Words: two stores of texts and a store of numbers, apart. -/
import Derived.Test.YtfifalopbfopnaaGreatDoorZb
import Derived.Test.YtfifalopbfopnaaGreatDoorUm
set_option linter.unusedVariables false
set_option linter.unusedSimpArgs false
namespace Go.Proofs.YtfifalopbfopnaaGreatDoor
open Go.RowKit

structure TrioAt (w0 : World) (p q r : Nat) (X Y : Lay) (Z : I.Lay) (s : StS) (N : Nat) (W : World) (t : StS) (u : StS) : Prop where
  new : New w0 W
  a : StoreAt W X N s
  b : StoreAt W Y N t
  c : I.StoreAt W Z N (numSt u)
  ap : X.s = p
  bq : Y.s = q
  cr : Z.s = r
  fa : ∀ b, Foot X b → w0.heap.size ≤ b
  fb : ∀ b, Foot Y b → w0.heap.size ≤ b
  fc : ∀ b, I.Foot Z b → w0.heap.size ≤ b
  ab : ∀ b, Foot X b → ¬ Foot Y b
  ac : ∀ b, Foot X b → ¬ I.Foot Z b
  bc : ∀ b, Foot Y b → ¬ I.Foot Z b
def Trio (w0 : World) (p q r : Nat) (s t u : StS) (N : Nat) (W : World) : Prop := ∃ X Y Z, TrioAt w0 p q r X Y Z s N W t u
section
variable {w0 W W' : World} {p q r : Nat} {X Y : Lay} {Z : I.Lay} {s t u : StS} {N : Nat}
theorem TrioAt.swap (h : TrioAt w0 p q r X Y Z s N W t u) : TrioAt w0 q p r Y X Z t N W s u :=
  ⟨h.new, h.b, h.a, h.c, h.bq, h.ap, h.cr, h.fb, h.fa, h.fc, fun b h1 h2 => h.ab b h2 h1, h.bc, h.ac⟩
theorem Trio.swap (h : Trio w0 p q r s t u N W) : Trio w0 q p r t s u N W := by
  obtain ⟨X, Y, Z, h⟩ := h
  exact ⟨Y, X, Z, h.swap⟩
theorem TrioAt.new_ (h : TrioAt w0 p q r X Y Z s N W t u) (hm : New W W') : TrioAt w0 p q r X Y Z s N W' t u :=
  ⟨New.trans h.new hm, h.a.new_ hm, h.b.new_ hm, h.c.new_ hm, h.ap, h.bq, h.cr, h.fa, h.fb, h.fc, h.ab, h.ac, h.bc⟩
theorem Trio.new_ (h : Trio w0 p q r s t u N W) (hm : New W W') : Trio w0 p q r s t u N W' := by
  obtain ⟨X, Y, Z, h⟩ := h
  exact ⟨X, Y, Z, h.new_ hm⟩
theorem Trio.mono (h : Trio w0 p q r s t u N W) {N' : Nat} (hN : N ≤ N') (hN' : N' ≤ 1048576) : Trio w0 p q r s t u N' W := by
  obtain ⟨X, Y, Z, h⟩ := h
  exact ⟨X, Y, Z, h.new, h.a.mono hN hN', h.b.mono hN hN', h.c.mono hN hN', h.ap, h.bq, h.cr, h.fa, h.fb, h.fc, h.ab, h.ac, h.bc⟩
theorem Trio.new0 (h : Trio w0 p q r s t u N W) : New w0 W := by
  obtain ⟨X, Y, Z, h⟩ := h
  exact h.new
/-- Three stores that are just made. -/
theorem Trio.start {w w1 w2 w3 : World} {L0 L1 : Lay} {L2 : I.Lay} (h1 : StoreAt w1 L0 0 stNew) (n1 : New w w1) (f1 : ∀ b, Foot L0 b → w.heap.size ≤ b) (h2 : StoreAt w2 L1 0 stNew) (n2 : New w1 w2) (f2 : ∀ b, Foot L1 b → w1.heap.size ≤ b)
    (h3 : I.StoreAt w3 L2 0 stNew) (n3 : New w2 w3) (f3 : ∀ b, I.Foot L2 b → w2.heap.size ≤ b) : Trio w L0.s L1.s L2.s stNew stNew stNew 0 w3 :=
  ⟨L0, L1, L2, {
    new := New.trans (New.trans n1 n2) n3
    a := h1.new_ (New.trans n2 n3)
    b := h2.new_ n3
    c := h3
    ap := rfl
    bq := rfl
    cr := rfl
    fa := f1
    fb := fun b hb => Nat.le_trans n1.size (f2 b hb)
    fc := fun b hb => Nat.le_trans (Nat.le_trans n1.size n2.size) (f3 b hb)
    ab := fun b hb hy => by have := h1.foot_lt hb; have := f2 b hy; omega
    ac := fun b hb hy => by have := h1.foot_lt hb; have := f3 b hy; have := n2.size; omega
    bc := fun b hb hy => by have := h2.foot_lt hb; have := f3 b hy; omega }⟩
/-- A state with two blocks of the caller's. -/
def TrioB (w0 : World) (p q r : Nat) (s t u : StS) (N : Nat) (l : List (Nat × TypeId × List Value)) (W : World) : Prop :=
  ∃ X Y Z, TrioAt w0 p q r X Y Z s N W t u ∧ ∀ x ∈ l, Blk W x.1 x.2.1 x.2.2 ∧ ¬ Foot X x.1 ∧ ¬ Foot Y x.1 ∧ ¬ I.Foot Z x.1
variable {l : List (Nat × TypeId × List Value)}
theorem TrioB.trio (h : TrioB w0 p q r s t u N l W) : Trio w0 p q r s t u N W := by
  obtain ⟨X, Y, Z, h, _⟩ := h
  exact ⟨X, Y, Z, h⟩
theorem Trio.b (h : Trio w0 p q r s t u N W) : TrioB w0 p q r s t u N [] W := by
  obtain ⟨X, Y, Z, h⟩ := h
  exact ⟨X, Y, Z, h, by simp⟩
theorem TrioB.swap (h : TrioB w0 p q r s t u N l W) : TrioB w0 q p r t s u N l W := by
  obtain ⟨X, Y, Z, h, hl⟩ := h
  exact ⟨Y, X, Z, h.swap, fun x hx => ⟨(hl x hx).1, (hl x hx).2.2.1, (hl x hx).2.1, (hl x hx).2.2.2⟩⟩
theorem TrioB.new_ (h : TrioB w0 p q r s t u N l W) (hm : New W W') : TrioB w0 p q r s t u N l W' := by
  obtain ⟨X, Y, Z, h, hl⟩ := h
  exact ⟨X, Y, Z, h.new_ hm, fun x hx => ⟨(hl x hx).1.new_ hm, (hl x hx).2⟩⟩
/-- A block that was just made. -/
theorem TrioB.blk (h : TrioB w0 p q r s t u N l W) {g : Nat} {ty : TypeId} {cs : List Value} (hm : New W W') (hb : Blk W' g ty cs) (hg : W.heap.size ≤ g) : TrioB w0 p q r s t u N ((g, ty, cs) :: l) W' := by
  obtain ⟨X, Y, Z, h, hl⟩ := h
  refine ⟨X, Y, Z, h.new_ hm, fun x hx => ?_⟩
  rcases List.mem_cons.1 hx with e | hx
  · subst e
    exact ⟨hb, fun hf => by have := h.a.foot_lt hf; omega, fun hf => by have := h.b.foot_lt hf; omega, fun hf => by have := h.c.foot_lt hf; omega⟩
  · exact ⟨(hl x hx).1.new_ hm, (hl x hx).2⟩
theorem TrioB.at_ (h : TrioB w0 p q r s t u N l W) {x : Nat × TypeId × List Value} (hx : x ∈ l) : Blk W x.1 x.2.1 x.2.2 := by
  obtain ⟨X, Y, Z, h, hl⟩ := h
  exact (hl x hx).1
theorem TrioB.ask_call (h : TrioB w0 p q r s t u N l W) {c : CallV} (hc : CallOk c) (hN : N + 1 ≤ 1048576) (hg : ErrVar w0) :
    Calls Tryz.prog 10 #[.pointer (some ⟨p, 0, none⟩), .agg (encCall c).toArray] W fun e w' => (∃ m, e = .returned (saidVal (answer m s c))) ∧ TrioB w0 p q r (after s c) t u (N + 1) l w' := by
  obtain ⟨X, Y, Z, h0, hl⟩ := h
  have h1 := ask_any X N s c W h0.a hc hN (hg.new_ h0.new) (fun hf => by have := h0.fa _ hf; have := hg.lt; omega)
  rw [h0.ap] at h1
  refine h1.mono fun e w' ⟨he, hs⟩ => ⟨⟨_, he⟩, ?_⟩
  have hs0 := hs
  obtain ⟨X', e1, e2, e3, e4, e5⟩ := hs
  refine ⟨X', Y, Z, ?_, fun x hx => ⟨hs0.blk (hl x hx).1 (hl x hx).2.1, fun hf => ?_, (hl x hx).2.2⟩⟩
  · exact {
    new := Mod.trans h0.new e4 (fun b hb hf => by have := h0.fa b hf; omega)
    a := e3
    b := (h0.b.mod e4 (fun b hb hf => h0.ab b hf hb)).mono (by omega) hN
    c := (h0.c.mod e4 (fun b hb hf => h0.ac b hf hb)).mono (by omega) hN
    ap := by rw [e1]; exact h0.ap
    bq := h0.bq
    cr := h0.cr
    fa := fun b hb => by
      rcases e5 b hb with hf | hf
      · exact h0.fa b hf
      · have := h0.new.size; omega
    fb := h0.fb
    fc := h0.fc
    ab := fun b hb hy => by
      rcases e5 b hb with hf | hf
      · exact h0.ab b hf hy
      · have := h0.b.foot_lt hy; omega
    ac := fun b hb hy => by
      rcases e5 b hb with hf | hf
      · exact h0.ac b hf hy
      · have := h0.c.foot_lt hy; omega
    bc := h0.bc }
  · rcases e5 _ hf with hf | hf
    · exact (hl x hx).2.1 hf
    · have := (hl x hx).1.lt; omega
theorem TrioB.number_call (h : TrioB w0 p q r s t u N l W) {c : CallV} (m : Nat) (hc : CallOk c) (hN : N + 1 ≤ 1048576) (h0 : 0 ≤ c.kind) (h8 : c.kind ≤ 8) (h3 : c.kind ≠ 3) :
    Calls Tryz.prog 23 #[.pointer (some ⟨r, 0, none⟩), .agg (encCall c).toArray, saidVal (answer m u c)] W fun e w' => e = .returned (.bool true) ∧ TrioB w0 p q r s t (after u c) (N + 1) l w' := by
  obtain ⟨X, Y, Z, h, hl⟩ := h
  have h1 := number_any Z N m u c W h.c hc hN h0 h8 h3
  rw [h.cr] at h1
  refine h1.mono fun e w' ⟨he, hs⟩ => ⟨he, ?_⟩
  have hs0 := hs
  obtain ⟨Z', e1, e2, e3, e4, e5⟩ := hs
  refine ⟨X, Y, Z', ?_, fun x hx => ⟨hs0.blk (hl x hx).1 (hl x hx).2.2.2, (hl x hx).2.1, (hl x hx).2.2.1, fun hf => ?_⟩⟩
  · exact {
    new := Mod.trans h.new e4 (fun b hb hf => by have := h.fc b hf; omega)
    a := (h.a.mod e4 (fun b hb hf => h.ac b hb hf)).mono (by omega) hN
    b := (h.b.mod e4 (fun b hb hf => h.bc b hb hf)).mono (by omega) hN
    c := e3
    ap := h.ap
    bq := h.bq
    cr := by rw [e1]; exact h.cr
    fa := h.fa
    fb := h.fb
    fc := fun b hb => by
      rcases e5 b hb with hf | hf
      · exact h.fc b hf
      · have := h.new.size; omega
    ab := h.ab
    ac := fun b hb hy => by
      rcases e5 b hy with hf | hf
      · exact h.ac b hb hf
      · have := h.a.foot_lt hb; omega
    bc := fun b hb hy => by
      rcases e5 b hy with hf | hf
      · exact h.bc b hb hf
      · have := h.b.foot_lt hb; omega }
  · rcases e5 _ hf with hf | hf
    · exact (hl x hx).2.2.2 hf
    · have := (hl x hx).1.lt; omega
theorem Trio.keysA (h : Trio w0 p q r s t u N W) : Calls Tryz.prog 12 #[.pointer (some ⟨p, 0, none⟩)] W (KeysPost W (keysOf s.rows)) := by
  obtain ⟨X, Y, Z, h⟩ := h
  have h1 := storeKeys_any X N s W h.a
  rwa [h.ap] at h1
theorem Trio.keysC (h : Trio w0 p q r s t u N W) : Calls Tryz.prog 22 #[.pointer (some ⟨r, 0, none⟩)] W (I.KeysPost W (keysOf u.rows)) := by
  obtain ⟨X, Y, Z, h⟩ := h
  have h1 := I.storeKeys_any Z N (numSt u) W h.c
  rwa [h.cr, show keysOf (numSt u).rows = keysOf u.rows from keysOf_mapR lenB u.rows] at h1
theorem Trio.versA (h : Trio w0 p q r s t u N W) : Calls Tryz.prog 16 #[.pointer (some ⟨p, 0, none⟩)] W fun e w' => e = .returned (.int .i64 (stVersions s : Int)) ∧ New W w' := by
  obtain ⟨X, Y, Z, h⟩ := h
  have h1 := storeVersions_any X N s W h.a
  rwa [h.ap] at h1
theorem Trio.versC (h : Trio w0 p q r s t u N W) : Calls Tryz.prog 24 #[.pointer (some ⟨r, 0, none⟩)] W fun e w' => e = .returned (.int .i64 (stVersions u : Int)) ∧ New W w' := by
  obtain ⟨X, Y, Z, h⟩ := h
  have h1 := I.storeVersions_any Z N (numSt u) W h.c
  rwa [h.cr, show stVersions (numSt u) = stVersions u from stVersions_map lenB u] at h1
theorem Trio.shards (h : Trio w0 p q r s t u N W) : ∃ m : Nat, 1 ≤ m ∧ m ≤ 64 ∧ ∀ W', New W W' → Calls Tryz.prog 18 #[.pointer (some ⟨p, 0, none⟩)] W' fun e w' => e = .returned (.int .i64 (m : Int)) ∧ New W' w' := by
  obtain ⟨X, Y, Z, h⟩ := h
  refine ⟨X.bs.length, h.a.m1.1, h.a.m1.2, fun W' hW => ?_⟩
  have h1 := storeShards_any X N s W' (h.a.new_ hW)
  rwa [h.ap] at h1
theorem Trio.count (h : Trio w0 p q r s t u N W) : (keysOf s.rows).length ≤ N := by
  obtain ⟨X, Y, Z, h⟩ := h
  rw [(keysOf_up h.a.ok.nodup).2.2]
  exact h.a.rowsN
end
end Go.Proofs.YtfifalopbfopnaaGreatDoor
