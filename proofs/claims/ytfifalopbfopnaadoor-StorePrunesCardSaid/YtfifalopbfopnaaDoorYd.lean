/- Words: two stores, apart, and a row of keys that is none of theirs. -/
import Derived.Test.YtfifalopbfopnaaDoorYc
import Derived.Test.YtfifalopbfopnaaDoorUm
set_option linter.unusedVariables false
set_option linter.unusedSimpArgs false
namespace Go.Proofs.YtfifalopbfopnaaDoor
open Go.RowKit

structure DuoAt (w0 : World) (p q : Nat) (X Y : Lay) (s t : StS) (N : Nat) (kv : Value) (ks : List Key2) (W : World) : Prop where
  new : New w0 W
  a : StoreAt W X N s
  b : StoreAt W Y N t
  ap : X.s = p
  bq : Y.s = q
  fa : ∀ b, Foot X b → w0.heap.size ≤ b
  fb : ∀ b, Foot Y b → w0.heap.size ≤ b
  dis : ∀ b, Foot X b → ¬ Foot Y b
  ko : W.ownsRow w0.heap.size 27 2 kv ks.length (cellsL encKey ks)
  ka : ∀ b, kv.ownBlock = some b → ¬ Foot X b ∧ ¬ Foot Y b
def Duo (w0 : World) (p q : Nat) (s t : StS) (N : Nat) (kv : Value) (ks : List Key2) (W : World) : Prop := ∃ X Y, DuoAt w0 p q X Y s t N kv ks W
section
variable {w0 W W' : World} {p q : Nat} {X Y : Lay} {s t : StS} {N : Nat} {kv : Value} {ks : List Key2}
theorem DuoAt.swap (h : DuoAt w0 p q X Y s t N kv ks W) : DuoAt w0 q p Y X t s N kv ks W :=
  ⟨h.new, h.b, h.a, h.bq, h.ap, h.fb, h.fa, fun b h1 h2 => h.dis b h2 h1, h.ko, fun b hb => ⟨(h.ka b hb).2, (h.ka b hb).1⟩⟩
theorem Duo.swap (h : Duo w0 p q s t N kv ks W) : Duo w0 q p t s N kv ks W := by
  obtain ⟨X, Y, h⟩ := h
  exact ⟨Y, X, h.swap⟩
theorem DuoAt.new_ (h : DuoAt w0 p q X Y s t N kv ks W) (hm : New W W') : DuoAt w0 p q X Y s t N kv ks W' :=
  ⟨New.trans h.new hm, h.a.new_ hm, h.b.new_ hm, h.ap, h.bq, h.fa, h.fb, h.dis, own_new h.ko hm, h.ka⟩
theorem Duo.new_ (h : Duo w0 p q s t N kv ks W) (hm : New W W') : Duo w0 p q s t N kv ks W' := by
  obtain ⟨X, Y, h⟩ := h
  exact ⟨X, Y, h.new_ hm⟩
theorem Duo.new0 (h : Duo w0 p q s t N kv ks W) : New w0 W := by
  obtain ⟨X, Y, h⟩ := h
  exact h.new
theorem Duo.mono (h : Duo w0 p q s t N kv ks W) {N' : Nat} (hN : N ≤ N') (hN' : N' ≤ 1048576) : Duo w0 p q s t N' kv ks W := by
  obtain ⟨X, Y, h⟩ := h
  exact ⟨X, Y, h.new, h.a.mono hN hN', h.b.mono hN hN', h.ap, h.bq, h.fa, h.fb, h.dis, h.ko, h.ka⟩
theorem DuoAt.step (h : DuoAt w0 p q X Y s t N kv ks W) {N' : Nat} {s' : StS} (hN : N ≤ N') (hN' : N' ≤ 1048576) (hs : Step W X N' s' W') : Duo w0 p q s' t N' kv ks W' := by
  obtain ⟨X', h1, h2, h3, h4, h5⟩ := hs
  have hkl : ∀ b, kv.ownBlock = some b → b < W.heap.size := fun b hb => (h.ko.lt b hb).2
  exact ⟨X', Y, {
    new := Mod.trans h.new h4 (fun b hb hf => by have := h.fa b hf; omega)
    a := h3
    b := (h.b.mod h4 (fun b hb hf => h.dis b hf hb)).mono hN hN'
    ap := by rw [h1]; exact h.ap
    bq := h.bq
    fa := fun b hb => by
      rcases h5 b hb with hf | hf
      · exact h.fa b hf
      · have := h.new.size; omega
    fb := h.fb
    dis := fun b hb hy => by
      rcases h5 b hb with hf | hf
      · exact h.dis b hf hy
      · have := h.b.foot_lt hy; omega
    ko := own_mod' h.ko h4 (fun b hb => (h.ka b hb).1)
    ka := fun b hb => ⟨fun hf => by
      rcases h5 b hf with hf | hf
      · exact (h.ka b hb).1 hf
      · have := hkl b hb; omega, (h.ka b hb).2⟩ }⟩
/-- Two stores that are just made. -/
theorem Duo.start {w w1 w2 : World} {L0 L1 : Lay} (h1 : StoreAt w1 L0 0 stNew) (n1 : New w w1) (f1 : ∀ b, Foot L0 b → w.heap.size ≤ b) (h2 : StoreAt w2 L1 0 stNew) (n2 : New w1 w2) (f2 : ∀ b, Foot L1 b → w1.heap.size ≤ b) :
    Duo w L0.s L1.s stNew stNew 0 (.slice none 0 0) [] w2 :=
  ⟨L0, L1, {
    new := New.trans n1 n2
    a := h1.new_ n2
    b := h2
    ap := rfl
    bq := rfl
    fa := f1
    fb := fun b hb => Nat.le_trans n1.size (f2 b hb)
    dis := fun b hb hy => by have := h1.foot_lt hb; have := f2 b hy; omega
    ko := own_nil _ _ _ _
    ka := fun b hb => by simp [Value.ownBlock] at hb }⟩
/-- A row of keys that was just made. -/
theorem Duo.keys (h : Duo w0 p q s t N kv ks W) {kv' : Value} {ks' : List Key2} (hk : W'.ownsRow W.heap.size 27 2 kv' ks'.length (cellsL encKey ks')) (hm : New W W') : Duo w0 p q s t N kv' ks' W' := by
  obtain ⟨X, Y, h⟩ := h
  have h' := h.new_ hm
  exact ⟨X, Y, {
    new := h'.new
    a := h'.a
    b := h'.b
    ap := h'.ap
    bq := h'.bq
    fa := h'.fa
    fb := h'.fb
    dis := h'.dis
    ko := own_mono hk h.new.size
    ka := fun b hb => ⟨fun hf => by have := (hk.lt b hb).1; have := h.a.foot_lt hf; omega, fun hf => by have := (hk.lt b hb).1; have := h.b.foot_lt hf; omega⟩ }⟩
theorem Duo.ask_call (h : Duo w0 p q s t N kv ks W) {c : CallV} (hc : CallOk c) (hN : N + 1 ≤ 1048576) (hg : ErrVar w0) :
    Calls Tryd.prog 6 #[.pointer (some ⟨p, 0, none⟩), .agg (encCall c).toArray] W fun e w' => (∃ v, e = .returned v) ∧ Duo w0 p q (after s c) t (N + 1) kv ks w' := by
  obtain ⟨X, Y, h⟩ := h
  have h1 := ask_any X N s c W h.a hc hN (hg.new_ h.new) (fun hf => by have := h.fa _ hf; have := hg.lt; omega)
  rw [h.ap] at h1
  exact h1.mono fun e w' ⟨he, hs⟩ => ⟨⟨_, he⟩, h.step (by omega) hN hs⟩
theorem Duo.prune_call (h : Duo w0 p q s t N kv ks W) {k : Key2} (hk : KeyWf k) (n : Int) (hN : N ≤ 1048576) :
    Calls Tryd.prog 9 #[.pointer (some ⟨p, 0, none⟩), .agg #[.int .i64 k.1, .int .i64 k.2], .int .i64 n] W fun e w' => e = .returned (.int .i64 (goneV (rowOf s.rows k) (stOldest s n) : Int)) ∧ Duo w0 p q (stPrune s k n) t N kv ks w' := by
  obtain ⟨X, Y, h⟩ := h
  have h1 := storePrune_any X N s k n W h.a hk
  rw [h.ap] at h1
  exact h1.mono fun e w' ⟨he, hs⟩ => ⟨he, h.step (Nat.le_refl _) hN hs⟩
theorem Duo.oldest_call (h : Duo w0 p q s t N kv ks W) (n : Int) :
    Calls Tryd.prog 7 #[.pointer (some ⟨p, 0, none⟩), .int .i64 n] W fun e w' => e = .returned (.int .i64 (stOldest s n)) ∧ New W w' := by
  obtain ⟨X, Y, h⟩ := h
  have h1 := storeOldest_any X N s n W h.a
  rwa [h.ap] at h1
theorem Duo.last_call (h : Duo w0 p q s t N kv ks W) {k : Key2} (hk : KeyWf k) :
    Calls Tryd.prog 10 #[.pointer (some ⟨p, 0, none⟩), .agg #[.int .i64 k.1, .int .i64 k.2]] W fun e w' => e = .returned (ansL (rowOf s.rows k)) ∧ New W w' := by
  obtain ⟨X, Y, h⟩ := h
  have h1 := storeLast_any X N s k W h.a hk
  rwa [h.ap] at h1
theorem Duo.keys_call (h : Duo w0 p q s t N kv ks W) : Calls Tryd.prog 8 #[.pointer (some ⟨p, 0, none⟩)] W (KeysPost W (keysOf s.rows)) := by
  obtain ⟨X, Y, h⟩ := h
  have h1 := storeKeys_any X N s W h.a
  rwa [h.ap] at h1
theorem Duo.versions_call (h : Duo w0 p q s t N kv ks W) : Calls Tryd.prog 13 #[.pointer (some ⟨p, 0, none⟩)] W fun e w' => e = .returned (.int .i64 (stVersions s : Int)) ∧ New W w' := by
  obtain ⟨X, Y, h⟩ := h
  have h1 := storeVersions_any X N s W h.a
  rwa [h.ap] at h1
theorem Duo.sees_call (h : Duo w0 p q s t N kv ks W) {A : Option Addr} {n cap : Nat} {cs : List CallV} {o : Int} (hs : Sl W A n 6 (cellsL encCall cs)) (hok : ∀ c ∈ cs, CallOk c) (heq : ∀ k m, o ≤ m → atV (rowOf s.rows k) m = atV (rowOf t.rows k) m) :
    Calls Tryd.prog 11 #[.pointer (some ⟨p, 0, none⟩), .pointer (some ⟨q, 0, none⟩), .slice A n cap, .int .i64 o] W fun e w' => e = .returned (.bool true) ∧ New W w' := by
  obtain ⟨X, Y, h⟩ := h
  have h1 := sees_any X Y N s t A n cap cs o W h.a h.b hs hok heq
  rwa [h.ap, h.bq] at h1
theorem Duo.row (h : Duo w0 p q s t N kv ks W) : W.ownsRow w0.heap.size 27 2 kv ks.length (cellsL encKey ks) := by
  obtain ⟨X, Y, h⟩ := h
  exact h.ko
theorem Duo.count (h : Duo w0 p q s t N kv ks W) : (keysOf s.rows).length ≤ N ∧ s.ok ∧ N ≤ 1048576 := by
  obtain ⟨X, Y, h⟩ := h
  exact ⟨by rw [(keysOf_up h.a.ok.nodup).2.2]; exact h.a.rowsN, h.a.ok, h.a.bigN⟩
end
end Go.Proofs.YtfifalopbfopnaaDoor
