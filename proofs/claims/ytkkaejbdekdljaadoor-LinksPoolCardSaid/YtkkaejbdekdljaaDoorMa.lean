/- Words: maps to ints, the call's own. -/
import Derived.Test.YtkkaejbdekdljaaDoorProg
import Derived.Test.YtkkaejbdekdljaaDoorWe
import Derived.Maps.OwnSet
set_option linter.unusedVariables false
set_option linter.unusedSimpArgs false
namespace Go.Proofs.YtkkaejbdekdljaaDoor
open Go.RowKit Go.Maps

theorem Tryd.zeroInt (w : World) : (zeroValue 3).run Tryd.prog w = .ok (.int .i64 0) w := by kernel_rfl

/-- Block b is a map of at most n entries; it holds f. -/
def MapOf {K : Type} (k : TypeId) (enc : K → Value) (w : World) (b n : Nat) (f : K → Option Int) : Prop :=
  ∃ D : DataW Unit, w.ownsMap Tryd.prog k (plainElem Tryd.prog 3) b n D ∧ ∀ x kl, keyOf Tryd.prog k (enc x) = some kl → (f x = none → Maps.has D kl = false) ∧ ∀ c, f x = some c → Maps.has D kl = true ∧ D.atKey kl (.lit (.int .i64 0)) = .lit (.int .i64 c)
def upd {K : Type} [DecidableEq K] (f : K → Option Int) (x : K) (v : Int) : K → Option Int := fun y => if y = x then some v else f y

section
variable {K : Type} {k : TypeId} {enc : K → Value} {w w' : World} {b n : Nat} {f : K → Option Int}
theorem MapOf.made (w : World) (k : TypeId) (enc : K → Value) : MapOf k enc (w.alloc (.map #[] 0)) w.heap.size 0 (fun _ => none) :=
  ⟨_, World.ownsMap_made w _ _ _, fun x kl _ => ⟨fun _ => rfl, fun c h => by cases h⟩⟩
theorem MapOf.lt (h : MapOf k enc w b n f) : b < w.heap.size := by obtain ⟨D, h, _⟩ := h; exact h.lt
theorem MapOf.kept {row : Option Nat} (h : MapOf k enc w b n f) (hg : w.grownBy w' row) (hne : some b ≠ row) : MapOf k enc w' b n f := by
  obtain ⟨D, h, r⟩ := h
  exact ⟨D, h.kept hg hne, r⟩
theorem MapOf.mod {S : Nat → Prop} (h : MapOf k enc w b n f) (hm : Mod S w w') (hs : ¬ S b) : MapOf k enc w' b n f := by
  obtain ⟨D, ⟨es, clock, hb, r⟩, q⟩ := h
  exact ⟨D, ⟨es, clock, (hm.block b (Array.getElem?_eq_some_iff.1 hb).1 hs).trans hb, r⟩, q⟩
theorem MapOf.new_ (h : MapOf k enc w b n f) (hm : New w w') : MapOf k enc w' b n f := h.mod hm (fun h => h)
theorem MapOf.mono {m : Nat} (h : MapOf k enc w b n f) (hn : n ≤ m) : MapOf k enc w b m f := by
  obtain ⟨D, h, r⟩ := h
  exact ⟨D, h.mono hn, r⟩
theorem MapOf.congr {g : K → Option Int} (h : MapOf k enc w b n f) (e : ∀ x kl, keyOf Tryd.prog k (enc x) = some kl → g x = f x) : MapOf k enc w b n g := by
  obtain ⟨D, h, r⟩ := h
  exact ⟨D, h, fun x kl hx => by rw [e x kl hx]; exact r x kl hx⟩
/-- A map's block is none of a row's. -/
theorem MapOf.ne_own {B : Nat} {e : TypeId} {sz m : Nat} {v : Value} {xs : List Value} (h : MapOf k enc w b n f) (ho : w.ownsRow B e sz v m xs) : v.ownBlock ≠ some b := by
  obtain ⟨D, ⟨es, clock, hb, _⟩, _⟩ := h
  rcases ho.2 with ⟨rfl, _⟩ | ⟨g, cap, cur, rfl, _, hh, _⟩
  · simp [Value.ownBlock]
  · intro e1
    have : g = b := by simpa [Value.ownBlock] using e1
    subst this
    rw [hh] at hb
    cases hb

variable {ops : Array Oper} {rest : List Oper} {o : Oper} {a : Act} {Q : Exit → Act → World → Prop}
theorem wpList_mapOf_none (hg : o.guard = none) (m x : Operand) (t : TypeId) (hop : o.op = Op.lookup t m x true) (L : Keyed Tryd.prog k) (ht : Tryd.prog.underlying t = some (.map k 3))
    (hm : a.eval m = .map (some b)) (hown : MapOf k enc w b n f) (key : K) (hx : a.eval x = enc key) {kl : Lit} (hkey : keyOf Tryd.prog k (enc key) = some kl) (hf : f key = none)
    (hK : wpList Tryd.prog ops Q rest (a.put o.dst (.tuple #[.int .i64 0, .bool false])) w) : wpList Tryd.prog ops Q (o :: rest) a w := by
  obtain ⟨D, hD, r⟩ := hown
  have hh := (r key kl hkey).1 hf
  refine wpList_lookup_own_ok_int w hg m x t hop k 3 .i64 L ht Tryd.underlying3 (Tryd.zeroInt w) b n D hm hD _ kl hx hkey (fun c hc _ => ?_)
  rw [atKey_of_not_has hh] at hc
  injection hc with hc
  injection hc with _ hc
  rw [hh, ← hc]
  exact hK
theorem wpList_mapOf_some (hg : o.guard = none) (m x : Operand) (t : TypeId) (hop : o.op = Op.lookup t m x true) (L : Keyed Tryd.prog k) (ht : Tryd.prog.underlying t = some (.map k 3))
    (hm : a.eval m = .map (some b)) (hown : MapOf k enc w b n f) (key : K) (hx : a.eval x = enc key) {kl : Lit} (hkey : keyOf Tryd.prog k (enc key) = some kl) {v : Int} (hf : f key = some v)
    (hK : wpList Tryd.prog ops Q rest (a.put o.dst (.tuple #[.int .i64 v, .bool true])) w) : wpList Tryd.prog ops Q (o :: rest) a w := by
  obtain ⟨D, hD, r⟩ := hown
  have hh := (r key kl hkey).2 v hf
  refine wpList_lookup_own_ok_int w hg m x t hop k 3 .i64 L ht Tryd.underlying3 (Tryd.zeroInt w) b n D hm hD _ kl hx hkey (fun c hc _ => ?_)
  rw [hh.2] at hc
  injection hc with hc
  injection hc with _ hc
  rw [hh.1, ← hc]
  exact hK
theorem wpList_mapOf_put [DecidableEq K] (henc : ∀ x y, enc x = enc y → x = y) (hg : o.guard = none) (m x v : Operand) (t : TypeId) (hop : o.op = Op.mapUpdate t m x v) (L : Keyed Tryd.prog k) (ht : Tryd.prog.underlying t = some (.map k 3))
    (hm : a.eval m = .map (some b)) (hown : MapOf k enc w b n f) (hn : n < maxLen) (key : K) (hx : a.eval x = enc key) {kl : Lit} (hkey : keyOf Tryd.prog k (enc key) = some kl) (c : Int) (hv : a.eval v = .int .i64 c) (hw : (Lit.int .i64 c).wf = true)
    (hK : ∀ w', MapOf k enc w' b (n + 1) (upd f key c) → w.grownBy w' (some b) → wpList Tryd.prog ops Q rest (a.put o.dst undef) w') : wpList Tryd.prog ops Q (o :: rest) a w := by
  obtain ⟨D, hD, r⟩ := hown
  refine wpList_mapUpdate_own w hg m x v t hop k 3 L ht (plainElem Tryd.prog 3) b n D hm hD hn _ _ kl hx hv hkey (.lit (.int .i64 c)) [] (plainElem_int Tryd.underlying3 hw) (fun w' h1 h2 => hK w' ⟨_, h1, fun y ly hy => ?_⟩ h2)
  have hM := hD.isMap
  by_cases e : y = key
  · subst e
    rw [hkey] at hy
    injection hy with hy
    subst hy
    refine ⟨fun h => by simp [upd] at h, fun c' h => ?_⟩
    have : c = c' := by simpa [upd] using h
    subst this
    exact ⟨has_put_same hM (L.key hkey) _, atKey_put_same hM (L.key hkey) _ _⟩
  · have hne : ly ≠ kl := fun h => e (henc _ _ (L.inj hy (by rw [h]; exact hkey)))
    have hu : upd f key c y = f y := by simp [upd, e]
    rw [hu, has_put_other hne, atKey_put_other hne]
    exact r y ly hy
end
end Go.Proofs.YtkkaejbdekdljaaDoor
