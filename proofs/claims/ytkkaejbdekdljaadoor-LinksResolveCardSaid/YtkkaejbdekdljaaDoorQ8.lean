/- Words and walks, part 8 of 19. -/
import Derived.SizedLaws
import Derived.Test.YtkkaejbdekdljaaDoorProg
import Derived.Maps.OwnSet
import Derived.Laws.StructEq
import Derived.Deep.QuietTactic
import Derived.BigQuiet
import Derived.DeepKeys4
import Derived.Laws.BytesArg
import Derived.Test.YtkkaejbdekdljaaDoorQ2
import Derived.Test.YtkkaejbdekdljaaDoorQ7
/- Rows: a slice of slices among the arguments, opened. -/
set_option linter.unusedVariables false
set_option linter.unusedSimpArgs false
namespace Go.Proofs.YtkkaejbdekdljaaDoor
open Go.ChangeShapes Go.WideShapes Go.RowKit

theorem weights_mem_all {H : Type} {P : Program} {e : TypeId} : ∀ {ds : List (DataW H)} {d : DataW H}, d ∈ ds → ∀ n ∈ d.weights P e, n ∈ DataW.weightsAll P e ds
  | a :: r, d, hd, n, hn => by
    simp only [DataW.weightsAll, List.mem_append]
    rcases List.mem_cons.1 hd with rfl | hd
    · exact .inl hn
    · exact .inr (weights_mem_all hd n hn)

section
variable {H : Type} {enc : TypeId × Value → H}
/-- One slice, read at any depth: its elements, and how many its datum has at least. -/
theorem open_slf {α : Type} {en : α → List Value} {sz : Nat} {good : α → Prop} (hs : ∀ p, (en p).length = sz) (hz : 0 < sz) {t e : TypeId} (ht : Tryd.prog.underlying t = some (.slice e)) (hC : Tryd.prog.cellsOf e = sz) {W : World} {fuel : Nat} {cs : List Value} {x : DataW H × List MemPlace}
    (hone : ∀ (fuel : Nat) (cs : List Value) (x : DataW H × List MemPlace), cs.length = sz → DataW.trod enc Tryd.prog W 0 (fun _ => true) true fuel e cs = some x → ∃ q, cs = en q ∧ good q)
    (hf : DataW.trod enc Tryd.prog W 0 (fun _ => true) true fuel t cs = some x) :
    ∃ R n c, ∃ l : List α, cs = [.slice R n c] ∧ l.length = n ∧ Sl W R n sz (cellsL en l) ∧ (∀ (k : Nat) (p : α), l[k]? = some p → good p) ∧ (n = 0 ∨ ∃ es sp, x.1 = .slice es sp ∧ es.length = n) := by
  rcases Go.Deep.open_slice ht hf with ⟨hcs, hx⟩ | ⟨a, len, cap, m, n, D, Pl, hcs, _, hl, hm, hmm, hx, hi⟩
  · exact ⟨none, 0, 0, [], hcs, rfl, by simpa [cellsL] using Sl.nil W none sz, fun k p h => by simp at h, .inl rfl⟩
  · have hmm' : len ≤ m := by rw [hmm]; simp; exact hl
    have hlen : len ≤ 9223372036854775807 := by unfold maxLen at hm; omega
    obtain ⟨l, hll, hq⟩ := list_of (fun i q => W.cells? 0 (a.add (i * sz)) sz = some (en q) ∧ good q) len fun i hil => by
      obtain ⟨cs', hc, hti⟩ := hi i (by omega)
      rw [hC] at hc
      obtain ⟨_, hcl, _⟩ := World.cells?_some hc
      obtain ⟨q, rfl, hg⟩ := hone _ _ _ hcl hti
      exact ⟨q, hc, hg⟩
    refine ⟨some a, len, cap, l, hcs, hll, sl_of_elems hs hz hll hlen fun i q hil j v hv => ?_, fun k p hp => (hq k p hp).2, .inr ⟨_, _, by rw [hx], by simp⟩⟩
    obtain ⟨_, hcl, hat⟩ := World.cells?_some (hq i q hil).1
    have hj : j < sz := by have := (List.getElem?_eq_some_iff.1 hv).1; rwa [hs] at this
    rw [← add_of_add, hat j hj, hv]

theorem open_nest {α : Type} {en : α → List Value} {sz by' : Nat} {good : α → Prop} (hs : ∀ p, (en p).length = sz) (hz : 0 < sz) {t e e2 : TypeId} (ht : Tryd.prog.underlying t = some (.slice e)) (he : Tryd.prog.underlying e = some (.slice e2)) (hC1 : Tryd.prog.cellsOf e = 1) (hC : Tryd.prog.cellsOf e2 = sz) (hby : Tryd.prog.bytesOf e2 = by') (hby0 : 0 < by')
    {W : World} {a0 : Option Addr} {len cap : Nat} {d : DataW H} {p : List MemPlace}
    (hone : ∀ (fuel : Nat) (cs : List Value) (x : DataW H × List MemPlace), cs.length = sz → DataW.trod enc Tryd.prog W 0 (fun _ => true) true fuel e2 cs = some x → ∃ q, cs = en q ∧ good q)
    (h : DataW.Trod enc Tryd.prog W 0 (fun _ => true) true t (.slice a0 len cap) d p) (hw : ∀ n ∈ d.weights Tryd.prog t, n ≤ 140737488355328) :
    ∃ (vs : List Value) (ls : List (List α)), Nest en sz W a0 len vs ls ∧ (∀ (i k : Nat) (l : List α) (x : α), ls[i]? = some l → l[k]? = some x → good x) ∧ ∀ (i : Nat) (l : List α), ls[i]? = some l → l.length ≤ 140737488355328 := by
  obtain ⟨fuel, hf⟩ := h
  rcases Go.Deep.open_slice ht hf with ⟨hcs, hx⟩ | ⟨a, len', cap', m, n, D, Pl, hcs, _, hl, hm, hmm, hx, hi⟩
  · simp [Value.cells] at hcs
    obtain ⟨rfl, rfl, rfl⟩ := hcs
    exact ⟨[], [], ⟨Sl.nil W none 1, rfl, fun i v l h => by simp at h⟩, fun i k l x h => by simp at h, fun i l h => by simp at h⟩
  · simp [Value.cells] at hcs
    obtain ⟨rfl, rfl, rfl⟩ := hcs
    have hmm' : len ≤ m := by rw [hmm]; simp; exact hl
    have hlen : len ≤ 9223372036854775807 := by unfold maxLen at hm; omega
    injection hx with hx1 hx2
    obtain ⟨qs, hll, hq⟩ := list_of (fun i (q : Value × List α) => W.cell? (a.add (i * 1)) = some q.1 ∧ (∃ R c, q.1 = .slice R q.2.length c ∧ Sl W R q.2.length sz (cellsL en q.2)) ∧ (∀ (k : Nat) (x : α), q.2[k]? = some x → good x) ∧ q.2.length ≤ 140737488355328) len fun i hil => by
      obtain ⟨cs', hc, hti⟩ := hi i (by omega)
      rw [hC1] at hc
      obtain ⟨_, hcl, hat⟩ := World.cells?_some hc
      obtain ⟨R, k, c, l, rfl, hk, hsl, hg, hsz⟩ := open_slf hs hz he hC hone hti
      have h0 := hat 0 (by omega)
      refine ⟨(.slice R k c, l), by simpa [Addr.add] using h0, ⟨R, c, by rw [hk], by rw [hk]; exact hsl⟩, hg, ?_⟩
      rcases hsz with h0 | ⟨es, sp, hx0, hes⟩
      · simp only; omega
      · have hD : D i = .slice es sp := hx0
        have hm1 : (es.length + sp.length) * by' ∈ (D i).weights Tryd.prog e := by rw [hD]; simp [DataW.weights, he, hby]
        have hmem : D i ∈ (List.range len).map D := List.mem_map.2 ⟨i, List.mem_range.2 hil, rfl⟩
        have := hw _ (by rw [hx1]; simp only [DataW.weights, ht]; exact List.mem_cons_of_mem _ (List.mem_append_left _ (weights_mem_all hmem _ hm1)))
        have h2 : (es.length + sp.length) * 1 ≤ (es.length + sp.length) * by' := Nat.mul_le_mul_left _ hby0
        simp only
        omega
    refine ⟨qs.map (·.1), qs.map (·.2), ⟨?_, by simp [hll], fun i v l hv hl => ?_⟩, fun i k l x hl hx => ?_, fun i l hl => ?_⟩
    · refine Sl.of_add (by simp [hll]) hlen (by omega) fun _ => ⟨a, rfl, fun j u hu => ?_⟩
      rw [List.getElem?_map] at hu
      obtain ⟨q, hq1, rfl⟩ := Option.map_eq_some_iff.1 hu
      have := (hq j q hq1).1
      rwa [Nat.mul_one] at this
    · rw [List.getElem?_map] at hv hl
      obtain ⟨q, hq1, rfl⟩ := Option.map_eq_some_iff.1 hv
      rw [hq1] at hl
      simp at hl
      subst hl
      exact (hq i q hq1).2.1
    · rw [List.getElem?_map] at hl
      obtain ⟨q, hq1, rfl⟩ := Option.map_eq_some_iff.1 hl
      exact (hq i q hq1).2.2.1 k x hx
    · rw [List.getElem?_map] at hl
      obtain ⟨q, hq1, rfl⟩ := Option.map_eq_some_iff.1 hl
      exact (hq i q hq1).2.2.2
end
end Go.Proofs.YtkkaejbdekdljaaDoor
/- Words: maps to ints, the call's own. -/
set_option linter.unusedVariables false
set_option linter.unusedSimpArgs false
namespace Go.Proofs.YtkkaejbdekdljaaDoor
open Go.RowKit Go.Maps

theorem Tryd.zeroInt (w : World) : (zeroValue 3).run Tryd.prog w = .ok (.int .i64 0) w := by kernel_rfl

/-- Block b is a map of at most n entries; it holds f. -/
def MapOf {K : Type} (k : TypeId) (enc : K → Value) (w : World) (b n : Nat) (f : K → Option Int) : Prop :=
  ∃ D : DataW Unit, w.ownsMap Tryd.prog k (plainElem Tryd.prog 3) b n D ∧ ∀ x kl, keyOf Tryd.prog k (enc x) = some kl → (f x = none → Maps.has D kl = false) ∧ ∀ c, f x = some c → Maps.has D kl = true ∧ D.atKey kl (.lit (.int .i64 0)) = .lit (.int .i64 c)
def upd {K : Type} [DecidableEq K] (f : K → Option Int) (x : K) (v : Int) : K → Option Int := fun y => if y = x then some v else f y

section
variable {K : Type} {k : TypeId} {enc : K → Value} {w w' : World} {b n : Nat} {f : K → Option Int}
theorem MapOf.made (w : World) (k : TypeId) (enc : K → Value) : MapOf k enc (w.alloc (.map #[] 0)) w.heap.size 0 (fun _ => none) :=
  ⟨_, World.ownsMap_made w _ _ _, fun x kl _ => ⟨fun _ => rfl, fun c h => by cases h⟩⟩
theorem MapOf.lt (h : MapOf k enc w b n f) : b < w.heap.size := by obtain ⟨D, h, _⟩ := h; exact h.lt
theorem MapOf.kept {row : Option Nat} (h : MapOf k enc w b n f) (hg : w.grownBy w' row) (hne : some b ≠ row) : MapOf k enc w' b n f := by
  obtain ⟨D, h, r⟩ := h
  exact ⟨D, h.kept hg hne, r⟩
theorem MapOf.mod {S : Nat → Prop} (h : MapOf k enc w b n f) (hm : Mod S w w') (hs : ¬ S b) : MapOf k enc w' b n f := by
  obtain ⟨D, ⟨es, clock, hb, r⟩, q⟩ := h
  exact ⟨D, ⟨es, clock, (hm.block b (Array.getElem?_eq_some_iff.1 hb).1 hs).trans hb, r⟩, q⟩
theorem MapOf.new_ (h : MapOf k enc w b n f) (hm : New w w') : MapOf k enc w' b n f := h.mod hm (fun h => h)
theorem MapOf.mono {m : Nat} (h : MapOf k enc w b n f) (hn : n ≤ m) : MapOf k enc w b m f := by
  obtain ⟨D, h, r⟩ := h
  exact ⟨D, h.mono hn, r⟩
theorem MapOf.congr {g : K → Option Int} (h : MapOf k enc w b n f) (e : ∀ x kl, keyOf Tryd.prog k (enc x) = some kl → g x = f x) : MapOf k enc w b n g := by
  obtain ⟨D, h, r⟩ := h
  exact ⟨D, h, fun x kl hx => by rw [e x kl hx]; exact r x kl hx⟩
/-- A map's block is none of a row's. -/
theorem MapOf.ne_own {B : Nat} {e : TypeId} {sz m : Nat} {v : Value} {xs : List Value} (h : MapOf k enc w b n f) (ho : w.ownsRow B e sz v m xs) : v.ownBlock ≠ some b := by
  obtain ⟨D, ⟨es, clock, hb, _⟩, _⟩ := h
  rcases ho.2 with ⟨rfl, _⟩ | ⟨g, cap, cur, rfl, _, hh, _⟩
  · simp [Value.ownBlock]
  · intro e1
    have : g = b := by simpa [Value.ownBlock] using e1
    subst this
    rw [hh] at hb
    cases hb

variable {ops : Array Oper} {rest : List Oper} {o : Oper} {a : Act} {Q : Exit → Act → World → Prop}
theorem wpList_mapOf_none (hg : o.guard = none) (m x : Operand) (t : TypeId) (hop : o.op = Op.lookup t m x true) (L : Keyed Tryd.prog k) (ht : Tryd.prog.underlying t = some (.map k 3))
    (hm : a.eval m = .map (some b)) (hown : MapOf k enc w b n f) (key : K) (hx : a.eval x = enc key) {kl : Lit} (hkey : keyOf Tryd.prog k (enc key) = some kl) (hf : f key = none)
    (hK : wpList Tryd.prog ops Q rest (a.put o.dst (.tuple #[.int .i64 0, .bool false])) w) : wpList Tryd.prog ops Q (o :: rest) a w := by
  obtain ⟨D, hD, r⟩ := hown
  have hh := (r key kl hkey).1 hf
  refine wpList_lookup_own_ok_int w hg m x t hop k 3 .i64 L ht Tryd.underlying3 (Tryd.zeroInt w) b n D hm hD _ kl hx hkey (fun c hc _ => ?_)
  rw [atKey_of_not_has hh] at hc
  injection hc with hc
  injection hc with _ hc
  rw [hh, ← hc]
  exact hK
theorem wpList_mapOf_some (hg : o.guard = none) (m x : Operand) (t : TypeId) (hop : o.op = Op.lookup t m x true) (L : Keyed Tryd.prog k) (ht : Tryd.prog.underlying t = some (.map k 3))
    (hm : a.eval m = .map (some b)) (hown : MapOf k enc w b n f) (key : K) (hx : a.eval x = enc key) {kl : Lit} (hkey : keyOf Tryd.prog k (enc key) = some kl) {v : Int} (hf : f key = some v)
    (hK : wpList Tryd.prog ops Q rest (a.put o.dst (.tuple #[.int .i64 v, .bool true])) w) : wpList Tryd.prog ops Q (o :: rest) a w := by
  obtain ⟨D, hD, r⟩ := hown
  have hh := (r key kl hkey).2 v hf
  refine wpList_lookup_own_ok_int w hg m x t hop k 3 .i64 L ht Tryd.underlying3 (Tryd.zeroInt w) b n D hm hD _ kl hx hkey (fun c hc _ => ?_)
  rw [hh.2] at hc
  injection hc with hc
  injection hc with _ hc
  rw [hh.1, ← hc]
  exact hK
theorem wpList_mapOf_put [DecidableEq K] (henc : ∀ x y, enc x = enc y → x = y) (hg : o.guard = none) (m x v : Operand) (t : TypeId) (hop : o.op = Op.mapUpdate t m x v) (L : Keyed Tryd.prog k) (ht : Tryd.prog.underlying t = some (.map k 3))
    (hm : a.eval m = .map (some b)) (hown : MapOf k enc w b n f) (hn : n < maxLen) (key : K) (hx : a.eval x = enc key) {kl : Lit} (hkey : keyOf Tryd.prog k (enc key) = some kl) (c : Int) (hv : a.eval v = .int .i64 c) (hw : (Lit.int .i64 c).wf = true)
    (hK : ∀ w', MapOf k enc w' b (n + 1) (upd f key c) → w.grownBy w' (some b) → wpList Tryd.prog ops Q rest (a.put o.dst undef) w') : wpList Tryd.prog ops Q (o :: rest) a w := by
  obtain ⟨D, hD, r⟩ := hown
  refine wpList_mapUpdate_own w hg m x v t hop k 3 L ht (plainElem Tryd.prog 3) b n D hm hD hn _ _ kl hx hv hkey (.lit (.int .i64 c)) [] (plainElem_int Tryd.underlying3 hw) (fun w' h1 h2 => hK w' ⟨_, h1, fun y ly hy => ?_⟩ h2)
  have hM := hD.isMap
  by_cases e : y = key
  · subst e
    rw [hkey] at hy
    injection hy with hy
    subst hy
    refine ⟨fun h => by simp [upd] at h, fun c' h => ?_⟩
    have : c = c' := by simpa [upd] using h
    subst this
    exact ⟨has_put_same hM (L.key hkey) _, atKey_put_same hM (L.key hkey) _ _⟩
  · have hne : ly ≠ kl := fun h => e (henc _ _ (L.inj hy (by rw [h]; exact hkey)))
    have hu : upd f key c y = f y := by simp [upd, e]
    rw [hu, has_put_other hne, atKey_put_other hne]
    exact r y ly hy
end
end Go.Proofs.YtkkaejbdekdljaaDoor
/- Walks: the statements' kit at lists of the kind Legs. (Printed by gen_kit.py.) -/
set_option linter.unusedVariables false
set_option linter.unusedSimpArgs false
namespace Go.Proofs.YtkkaejbdekdljaaDoor
open Go.RowKit

def encLegs : Int × Int × Int × Int × Int → List Value := fun (x0, x1, x2, x3, x4) => [.int .i64 x0, .int .i64 x1, .int .i64 x2, .int .i64 x3, .int .i64 x4]
theorem encLegs_len : ∀ p, (encLegs p).length = 5 := fun _ => rfl
theorem Tryd.sltLegs : SlT Tryd.prog 43 84 5 40 := ⟨Tryd.underlying43, ⟨.agg #[.int .i64 0, .int .i64 0, .int .i64 0, .int .i64 0, .int .i64 0], by kernel_rfl, rfl⟩, by decide, by decide⟩
def markLegs (i : Int) : Int × Int × Int × Int × Int := (-100, i, 0, 0, 0)
def marksLegs (k : Nat) : List (Int × Int × Int × Int × Int) := (List.range k).map fun i : Nat => markLegs (i : Int)
theorem marksLegs_succ (k : Nat) : marksLegs (k + 1) = marksLegs k ++ [markLegs (k : Int)] := by simp [marksLegs, List.range_succ]
theorem marksLegs_length (k : Nat) : (marksLegs k).length = k := by simp [marksLegs]

theorem markLegs_any (i : Int) (w : World) (hi : -4294967312 ≤ i ∧ i ≤ 4294967312) :
    Calls Tryd.prog 52 #[.int .i64 90, .int .i64 i] w fun e w' => e = .returned (.agg #[.int .i64 (-100), .int .i64 i, .int .i64 0, .int .i64 0, .int .i64 0]) ∧ New w w' := by
  obtain ⟨h1, h2⟩ := hi
  go_enter Tryd.func52, Tryd.ntmps52
  go_wp2
  exact bodyPost_ret (v := .agg #[.int .i64 (-100), .int .i64 i, .int .i64 0, .int .i64 0, .int .i64 0]) (by simp [results, Tryd.results52, go_sem]) rfl ⟨rfl, (Mod.refl _ _).alloc _⟩

def FullLegsPost (w : World) (n : Nat) (l : List (Int × Int × Int × Int × Int)) (e : Ending) (w' : World) : Prop :=
  ∃ v, e = .returned v ∧ w'.ownsRow w.heap.size 84 5 v (n + 16) (cellsL encLegs (l ++ marksLegs 16)) ∧ New w w'
set_option maxHeartbeats 1000000 in
theorem fullLegs_any (A : Option Addr) (n c : Nat) (l : List (Int × Int × Int × Int × Int)) (w : World) (ha : Sl w A n 5 (cellsL encLegs l)) (hn : n ≤ 4294967296) :
    Calls Tryd.prog 49 #[.slice A n c] w (FullLegsPost w n l) := by
  have HL := Lib.hid (ha.length encLegs_len (by decide))
  go_enter Tryd.func49, Tryd.ntmps49
  go_wp2
  go_loopw [3, 4] (fun v i wr => ∃ k : Nat, k ≤ n ∧ i = .int .i64 (k : Int) ∧ wr.ownsRow w.heap.size 84 5 v k (cellsL encLegs (l.take k)) ∧ New w wr) (fun _ i _ => n - (intOf i).toNat)
  case atStart => exact ⟨0, Nat.zero_le _, rfl, own_nil _ _ _ _, Mod.refl _ _⟩
  case round =>
    obtain ⟨k, hk, rfl, hown, hw⟩ := hrel
    by_cases hlt : k < n
    · obtain ⟨b, off, ⟨x0, x1, x2, x3, x4⟩, rfl, hp, hc⟩ := (ha.new_ hw).elem encLegs_len (by decide) hlt
      have c0 := hc 0 _ rfl
      have c1 := hc 1 _ rfl
      have c2 := hc 2 _ rfl
      have c3 := hc 3 _ rfl
      have c4 := hc 4 _ rfl
      simp only [Nat.add_zero] at c0
      have HP := Lib.hid hp
      clear hp hc
      go_wp2_with (at_builtin; refine wpList_app Tryd.sltLegs rfl (.tmp 12) (.tmp 17) rfl w.heap.size _ k _ rfl (hown.alloc _) ⟨wr.heap.size, 0, none⟩ 1 1 [.int .i64 x0, .int .i64 x1, .int .i64 x2, .int .i64 x3, .int .i64 x4] rfl rfl (cells_new _ _ _) ?c1 ?c2 ?c3 ?_)
      case c1 => simp [Value.oneCell']
      case c2 => omega
      case c3 => simp; have := hw.size; omega
      intro v' w1 hown1 hg1 _
      have hw1 : New w w1 := New.grown (hw.alloc _) (hown.alloc _) (Nat.le_refl _) hg1
      clear hg1
      go_wp2
      go_roundw
      case rel => exact ⟨k + 1, by omega, by go_num, by rw [take_next l k _ HP.out]; exact hown1, hw1⟩
      case measure => simp [intOf]; omega
    · obtain rfl : k = n := by omega
      obtain ⟨OA, oc, rfl⟩ := own_shape hown
      have hown0 : wr.ownsRow w.heap.size 84 5 (.slice OA k oc) (k + 0) (cellsL encLegs (l ++ marksLegs 0)) := by
        rw [List.take_of_length_le (by have := HL.out; omega)] at hown
        simpa [marksLegs] using hown
      have HO := Lib.hid hown0
      clear hown hown0
      go_wp2
      go_loopw [3, 5] (fun v i wr => ∃ j : Nat, j ≤ 16 ∧ i = .int .i64 (j : Int) ∧ wr.ownsRow w.heap.size 84 5 v (k + j) (cellsL encLegs (l ++ marksLegs j)) ∧ New w wr) (fun _ i _ => 16 - (intOf i).toNat)
      case atStart => exact ⟨0, by omega, rfl, HO.out, hw⟩
      case round =>
        obtain ⟨j, hj, rfl, hown, hw2⟩ := hrel
        by_cases hlt : j < 16
        · go_wp2_with fail
          refine (markLegs_any (j : Int) _ (by omega)).mono ?_
          rintro e w1 ⟨rfl, hw1⟩
          have hown1 := own_new hown hw1
          have hw3 := New.trans hw2 hw1
          go_wp2_with (at_builtin; refine wpList_app Tryd.sltLegs rfl (.tmp 23) (.tmp 26) rfl w.heap.size _ (k + j) _ rfl (hown1.alloc _) ⟨w1.heap.size, 0, none⟩ 1 1 [.int .i64 (-100), .int .i64 (j : Int), .int .i64 0, .int .i64 0, .int .i64 0] rfl rfl (cells_new _ _ _) ?c1 ?c2 ?c3 ?_)
          case c1 => simp [Value.oneCell']
          case c2 => omega
          case c3 => simp; have := hw3.size; omega
          intro v' w4 hown4 hg4 _
          have hw4 : New w w4 := New.grown (hw3.alloc _) (hown1.alloc _) (Nat.le_refl _) hg4
          clear hg4
          go_wp2
          go_roundw
          case rel => exact ⟨j + 1, by omega, by go_num, by rw [marksLegs_succ, ← List.append_assoc, cellsL_append, cellsL_one]; exact hown4, hw4⟩
          case measure => simp [intOf]; omega
        · obtain rfl : j = 16 := by omega
          go_wp2
          go_ret
          exact ⟨_, rfl, hown, hw2⟩

def LentLegsPost (w : World) (n : Nat) (l : List (Int × Int × Int × Int × Int)) (e : Ending) (w' : World) : Prop :=
  ∃ g cap, e = .returned (.slice (some ⟨g, 0, none⟩) n cap) ∧ Lent w' w.heap.size 84 5 g n cap (cellsL encLegs (l ++ marksLegs 16)) ∧ New w w'
theorem lentLegs_any (A : Option Addr) (n c : Nat) (l : List (Int × Int × Int × Int × Int)) (w : World) (ha : Sl w A n 5 (cellsL encLegs l)) (hn : n ≤ 4294967296) :
    Calls Tryd.prog 20 #[.slice A n c] w (LentLegsPost w n l) := by
  go_enter Tryd.func20, Tryd.ntmps20
  go_wp2_with fail
  refine (fullLegs_any A n c l _ ha hn).mono ?_
  rintro e w1 ⟨v, rfl, hown, hw1⟩
  obtain ⟨B, cap, rfl⟩ := own_shape hown
  obtain ⟨g, rfl, hg1, hg2⟩ : ∃ g, B = some ⟨g, 0, none⟩ ∧ w.heap.size ≤ g ∧ g < w1.heap.size := by
    obtain ⟨g, cap, hv, h1, h2⟩ := hown.form (by omega)
    injection hv with hv
    exact ⟨g, hv, h1, h2⟩
  have hL : Lent w1 w.heap.size 84 5 g n cap (cellsL encLegs (l ++ marksLegs 16)) := hown
  obtain ⟨hc1, hc2⟩ := hL.cap
  have HLT := Lib.hid hL
  clear hown hL
  go_wp2
  go_ret
  exact ⟨g, cap, rfl, HLT.out, hw1⟩

theorem at_marksLegs (k i : Nat) (h : i < k) : (marksLegs k)[i]? = some (markLegs (i : Int)) := by simp [marksLegs, h]
set_option maxHeartbeats 1000000 in
theorem keptFullLegs_any (O A : Option Addr) (n oc c : Nat) (l : List (Int × Int × Int × Int × Int)) (w : World) (ho : Sl w O (n + 16) 5 (cellsL encLegs (l ++ marksLegs 16))) (ha : Sl w A n 5 (cellsL encLegs l)) (hn : n ≤ 4294967296) :
    Calls Tryd.prog 53 #[.slice O (n + 16) oc, .slice A n c] w fun e w' => e = .returned (.bool true) ∧ New w w' := by
  have HL := Lib.hid (ha.length encLegs_len (by decide))
  have hd : (((n + 16 : Nat) : Int) != ((n : Int) + 16)) = false := by simp
  go_enter Tryd.func53, Tryd.ntmps53
  go_wp2
  go_loopw [5] (fun i wr => ∃ k : Nat, k ≤ n + 16 ∧ i = .int .i64 (k : Int) ∧ New w wr) (fun i _ => n + 16 - (intOf i).toNat)
  case atStart => exact ⟨0, by omega, rfl, Mod.refl _ _⟩
  case round =>
    obtain ⟨k, hk, rfl, hw⟩ := hrel
    by_cases hlt : k < n + 16
    · go_wp2_with fail
      refine (markLegs_any ((k : Int) - (n : Int)) _ (by omega)).mono ?_
      rintro e w1 ⟨rfl, hw1⟩
      have hw2 := New.trans hw hw1
      obtain ⟨ob, oo, q, rfl, hpo, hco⟩ := (ho.new_ hw2).elem encLegs_len (by decide) hlt
      by_cases hkn : k < n
      · obtain ⟨b, off, ⟨x0, x1, x2, x3, x4⟩, rfl, hp, hc⟩ := (ha.new_ hw2).elem encLegs_len (by decide) hkn
        have hpe : (l ++ marksLegs 16)[k]? = l[k]? := List.getElem?_append_left (by have := HL.out; omega)
        rw [hpe, hp] at hpo
        injection hpo with hpo
        subst hpo
        have c0 := hc 0 _ rfl
        have c1 := hc 1 _ rfl
        have c2 := hc 2 _ rfl
        have c3 := hc 3 _ rfl
        have c4 := hc 4 _ rfl
        simp only [Nat.add_zero] at c0
        have o0 := hco 0 _ rfl
        have o1 := hco 1 _ rfl
        have o2 := hco 2 _ rfl
        have o3 := hco 3 _ rfl
        have o4 := hco 4 _ rfl
        simp only [Nat.add_zero] at o0
        have hob := World.block_lt_of_cell? w1 _ o0
        have hbl := World.block_lt_of_cell? w1 _ c0
        clear hp hc hpe hco
        try clear hpo
        skip
        go_wp2
        go_quiet (fail)
        go_wp2
        go_roundw
        case rel => exact ⟨k + 1, by omega, by go_num, (hw2.alloc _).drewN _⟩
        case measure => simp [intOf]; omega
      · have hpe : (l ++ marksLegs 16)[k]? = some (markLegs ((k - n : Nat) : Int)) := by
          rw [List.getElem?_append_right (by have := HL.out; omega), at_marksLegs _ _ (by have := HL.out; omega)]
          have := HL.out
          rw [this]
        rw [hpe] at hpo
        injection hpo with hpo
        have hkk : ((k - n : Nat) : Int) = (k : Int) - (n : Int) := by omega
        rw [hkk] at hpo
        subst hpo
        have o0 := hco 0 _ rfl
        have o1 := hco 1 _ rfl
        have o2 := hco 2 _ rfl
        have o3 := hco 3 _ rfl
        have o4 := hco 4 _ rfl
        simp only [Nat.add_zero] at o0
        have hob := World.block_lt_of_cell? w1 _ o0
        clear hpe hco hkk
        skip
        go_wp2
        go_quiet (fail)
        go_wp2
        go_roundw
        case rel => exact ⟨k + 1, by omega, by go_num, (hw2.alloc _).drewN _⟩
        case measure => simp [intOf]; omega
    · go_wp2
      go_ret
      exact ⟨rfl, hw⟩

theorem keptLegs_any (g : Nat) (A : Option Addr) (n cap c B : Nat) (l : List (Int × Int × Int × Int × Int)) (w : World) (hL : Lent w B 84 5 g n cap (cellsL encLegs (l ++ marksLegs 16))) (ha : Sl w A n 5 (cellsL encLegs l)) (hn : n ≤ 4294967296) :
    Calls Tryd.prog 25 #[.slice (some ⟨g, 0, none⟩) n cap, .slice A n c] w fun e w' => e = .returned (.bool true) ∧ New w w' := by
  obtain ⟨hc1, hc2⟩ := hL.cap
  have hd : ((n : Int) != (n : Int)) = false := by simp
  have HF := Lib.hid hL.full
  clear hL
  go_enter Tryd.func25, Tryd.ntmps25
  go_wp2_with fail
  refine (keptFullLegs_any _ A n cap c l _ HF.out ha hn).mono ?_
  rintro e w1 ⟨rfl, hw1⟩
  go_wp2
  go_ret
  exact ⟨rfl, hw1⟩
end Go.Proofs.YtkkaejbdekdljaaDoor
/- Plain: the pooling of legs. -/
set_option linter.unusedVariables false
set_option linter.unusedSimpArgs false
namespace Go.Proofs.YtkkaejbdekdljaaDoor

abbrev Leg5 := Int × Int × Int × Int × Int
def legKey (p : Leg5) : Leg5 := (p.1, p.2.1, p.2.2.1, 0, p.2.2.2.2)
def legQty (p : Leg5) : Int := p.2.2.2.1
def legAdd (p : Leg5) (q : Int) : Leg5 := (p.1, p.2.1, p.2.2.1, p.2.2.2.1 + q, p.2.2.2.2)
/-- The last of the first n that have this key. -/
def lastN (out : List Leg5) (k : Leg5) : Nat → Option Nat
  | 0 => none
  | j + 1 => if out[j]?.map legKey = some k then some j else lastN out k j
def lastIdx (out : List Leg5) (k : Leg5) : Option Nat := lastN out k out.length
def idxInt : Option Nat → Int
  | none => -1
  | some i => (i : Int)
/-- From what has been pooled, over the legs that are left: the error's number, or 0 and what is pooled. -/
def poolRun : List Leg5 → List Leg5 → Int × List Leg5
  | out, [] => (0, out)
  | out, x :: r =>
    if legQty x < 1 then (16, []) else
    match lastIdx out (legKey x) with
    | none => poolRun (out ++ [x]) r
    | some i =>
      match out[i]? with
      | none => (0, [])
      | some y => if 9223372036854775807 - legQty x < legQty y then (9, []) else poolRun (out.set i (legAdd y (legQty x))) r
def poolEnd (p : Int × List Leg5) : Int × List Leg5 := if p.1 ≠ 0 then (p.1, []) else if p.2.length = 0 then (2, []) else if 4 < p.2.length then (5, []) else (0, p.2)
def poolAns (l : List Leg5) : Int × List Leg5 := poolEnd (poolRun [] l)

theorem legKey_add (p : Leg5) (q : Int) : legKey (legAdd p q) = legKey p := rfl
theorem legKey_key (p : Leg5) : legKey (legKey p) = legKey p := rfl
theorem lastN_lt {out : List Leg5} {k : Leg5} : ∀ {n i : Nat}, lastN out k n = some i → i < n ∧ out[i]?.map legKey = some k
  | 0, i, h => by simp [lastN] at h
  | n + 1, i, h => by
    unfold lastN at h
    split at h
    · injection h with h; subst h; rename_i h1; exact ⟨by omega, h1⟩
    · have := lastN_lt h; exact ⟨by omega, this.2⟩
theorem lastN_congr {out out' : List Leg5} {k : Leg5} : ∀ (n : Nat), (∀ i, i < n → out[i]?.map legKey = out'[i]?.map legKey) → lastN out k n = lastN out' k n
  | 0, _ => rfl
  | n + 1, h => by unfold lastN; rw [h n (by omega), lastN_congr n fun i hi => h i (by omega)]
theorem lastIdx_snoc (out : List Leg5) (x : Leg5) (k : Leg5) : lastIdx (out ++ [x]) k = if legKey x = k then some out.length else lastIdx out k := by
  unfold lastIdx
  rw [List.length_append, List.length_singleton]
  show (if (out ++ [x])[out.length]?.map legKey = some k then _ else _) = _
  rw [List.getElem?_append_right (Nat.le_refl _), Nat.sub_self]
  simp only [List.getElem?_cons_zero, Option.map_some, Option.some.injEq]
  split
  · rfl
  · exact lastN_congr _ fun i hi => by rw [List.getElem?_append_left hi]
theorem lastIdx_set {out : List Leg5} {i : Nat} {y z : Leg5} (h : out[i]? = some y) (hk : legKey z = legKey y) (k : Leg5) : lastIdx (out.set i z) k = lastIdx out k := by
  unfold lastIdx
  rw [List.length_set]
  refine lastN_congr _ fun j hj => ?_
  rw [List.getElem?_set]
  split
  · rename_i e; subst e
    rw [if_pos hj, h]; simp [hk]
  · rfl
theorem lastIdx_at {out : List Leg5} {k : Leg5} {i : Nat} (h : lastIdx out k = some i) : ∃ y, i < out.length ∧ out[i]? = some y ∧ legKey y = k := by
  have h1 := lastN_lt h
  obtain ⟨y, hy, hk⟩ := Option.map_eq_some_iff.1 h1.2
  exact ⟨y, h1.1, hy, hk⟩
theorem lastN_hit {out : List Leg5} {k y : Leg5} {j : Nat} (h : out[j]? = some y) (hk : legKey y = k) : lastN out k (j + 1) = some j := by
  unfold lastN; rw [h]; simp [hk]
theorem lastN_miss {out : List Leg5} {k y : Leg5} {j : Nat} (h : out[j]? = some y) (hk : legKey y ≠ k) : lastN out k (j + 1) = lastN out k j := by
  rw [lastN]; rw [h]; simp [hk]

theorem poolRun_bad {out : List Leg5} {x : Leg5} {r : List Leg5} (h : legQty x < 1) : poolRun out (x :: r) = (16, []) := by rw [poolRun, if_pos h]
theorem poolRun_new {out : List Leg5} {x : Leg5} {r : List Leg5} (h : ¬ legQty x < 1) (hi : lastIdx out (legKey x) = none) : poolRun out (x :: r) = poolRun (out ++ [x]) r := by
  rw [poolRun, if_neg h, hi]
theorem poolRun_over {out : List Leg5} {x y : Leg5} {r : List Leg5} {i : Nat} (h : ¬ legQty x < 1) (hi : lastIdx out (legKey x) = some i) (hy : out[i]? = some y) (ho : 9223372036854775807 - legQty x < legQty y) : poolRun out (x :: r) = (9, []) := by
  rw [poolRun, if_neg h, hi]; simp only [hy]; rw [if_pos ho]
theorem poolRun_add {out : List Leg5} {x y : Leg5} {r : List Leg5} {i : Nat} (h : ¬ legQty x < 1) (hi : lastIdx out (legKey x) = some i) (hy : out[i]? = some y) (ho : ¬ 9223372036854775807 - legQty x < legQty y) : poolRun out (x :: r) = poolRun (out.set i (legAdd y (legQty x))) r := by
  rw [poolRun, if_neg h, hi]; simp only [hy]; rw [if_neg ho]
/-- Each pooled quantity is at least 1, at most the greatest. -/
def QtyOk (out : List Leg5) : Prop := ∀ (i : Nat) (y : Leg5), out[i]? = some y → 1 ≤ legQty y ∧ legQty y ≤ 9223372036854775807
theorem QtyOk.nil : QtyOk [] := fun i y h => by simp at h
theorem QtyOk.snoc {out : List Leg5} {x : Leg5} (h : QtyOk out) (h1 : 1 ≤ legQty x) (h2 : legQty x ≤ 9223372036854775807) : QtyOk (out ++ [x]) := fun i y hy => by
  by_cases hi : i < out.length
  · rw [List.getElem?_append_left hi] at hy; exact h i y hy
  · rw [List.getElem?_append_right (by omega)] at hy
    have := (List.getElem?_eq_some_iff.1 hy).1
    simp at this
    rw [this] at hy
    simp at hy
    subst hy
    exact ⟨h1, h2⟩
theorem QtyOk.set {out : List Leg5} {i : Nat} {z : Leg5} (h : QtyOk out) (h1 : 1 ≤ legQty z) (h2 : legQty z ≤ 9223372036854775807) : QtyOk (out.set i z) := fun j y hy => by
  rw [List.getElem?_set] at hy
  split at hy
  · split at hy
    · injection hy with hy; subst hy; exact ⟨h1, h2⟩
    · simp at hy
  · exact h j y hy

/-- Two rows of legs, in turns: what is left. -/
theorem left_outer {ls : List (List Leg5)} {i : Nat} {l : List Leg5} (h : ls[i]? = some l) : (ls.drop i).flatten = l ++ (ls.drop (i + 1)).flatten := by
  have hi := (List.getElem?_eq_some_iff.1 h).1
  rw [List.drop_eq_getElem_cons hi]
  have : ls[i] = l := (List.getElem?_eq_some_iff.1 h).2
  rw [this]; simp
theorem left_inner {l : List Leg5} {k : Nat} {x : Leg5} (h : l[k]? = some x) : l.drop k = x :: l.drop (k + 1) := by
  have hi := (List.getElem?_eq_some_iff.1 h).1
  rw [List.drop_eq_getElem_cons hi, (List.getElem?_eq_some_iff.1 h).2]
theorem poolEnd_bad {p : Int × List Leg5} (h : p.1 ≠ 0) : poolEnd p = (p.1, []) := by unfold poolEnd; rw [if_pos h]
end Go.Proofs.YtkkaejbdekdljaaDoor
/- Words: legs as keys of a map. -/
set_option linter.unusedVariables false
set_option linter.unusedSimpArgs false
namespace Go.Proofs.YtkkaejbdekdljaaDoor
open Go.RowKit Go.Maps

def legVal (p : Leg5) : Value := .agg #[.int .i64 p.1, .int .i64 p.2.1, .int .i64 p.2.2.1, .int .i64 p.2.2.2.1, .int .i64 p.2.2.2.2]
theorem legVal_inj (x y : Leg5) (h : legVal x = legVal y) : x = y := by
  obtain ⟨a, b, c, d, e⟩ := x
  obtain ⟨a', b', c', d', e'⟩ := y
  simpa [legVal] using h
theorem Tryd.laidOutM : laidOutB Tryd.prog = true := by kernel_rfl
theorem Tryd.keyedLeg : Keyed Tryd.prog 84 := Keyed.of_law (deep_law_laid Tryd.laidOutM (m := 4) (by decide) (by rw [show Tryd.prog.types.size = 179 from by kernel_rfl]; decide) (by kernel_rfl) (by kernel_rfl))
def LegWf (p : Leg5) : Prop := (Lit.int .i64 p.1).wf = true ∧ (Lit.int .i64 p.2.1).wf = true ∧ (Lit.int .i64 p.2.2.1).wf = true ∧ (Lit.int .i64 p.2.2.2.1).wf = true ∧ (Lit.int .i64 p.2.2.2.2).wf = true
theorem LegWf.key {p : Leg5} (h : LegWf p) : LegWf (legKey p) := ⟨h.1, h.2.1, h.2.2.1, (show (Lit.int .i64 0).wf = true by decide), h.2.2.2.2⟩
theorem LegWf.qty {p : Leg5} (h : LegWf p) : legQty p ≤ 9223372036854775807 := by
  have h3 := of_decide_eq_true ((Bool.and_eq_true _ _).mp h.2.2.2.1).2
  exact h3
theorem Tryd.klInt (d : Nat) {x : Int} (h : (Lit.int .i64 x).wf = true) : Tryd.prog.keyLits (d + 1) 3 [.int .i64 x] = some [.int .i64 x] := by
  unfold Program.keyLits; rw [Tryd.underlying3]; simp [h]
theorem Tryd.klInt64 (d : Nat) {x : Int} (h : (Lit.int .i64 x).wf = true) : Tryd.prog.keyLits (d + 1) 2 [.int .i64 x] = some [.int .i64 x] := by
  unfold Program.keyLits; rw [Tryd.underlying2]; simp [h]
theorem Tryd.cellsLeg : Tryd.prog.cellsOf 84 = 5 := by kernel_rfl
theorem Tryd.cellsInt3 : Tryd.prog.cellsOf 3 = 1 := by kernel_rfl
theorem Tryd.cellsInt64 : Tryd.prog.cellsOf 2 = 1 := by kernel_rfl
theorem Tryd.klLeg (d : Nat) {x0 x1 x2 x3 x4 : Int} (h0 : (Lit.int .i64 x0).wf = true) (h1 : (Lit.int .i64 x1).wf = true) (h2 : (Lit.int .i64 x2).wf = true) (h3 : (Lit.int .i64 x3).wf = true) (h4 : (Lit.int .i64 x4).wf = true) :
    Tryd.prog.keyLits (d + 2) 84 [.int .i64 x0, .int .i64 x1, .int .i64 x2, .int .i64 x3, .int .i64 x4] = some [.int .i64 x0, .int .i64 x1, .int .i64 x2, .int .i64 x3, .int .i64 x4] := by
  have k0 := Tryd.klInt d h0
  have k1 := Tryd.klInt d h1
  have k2 := Tryd.klInt d h2
  have k3 := Tryd.klInt64 d h3
  have k4 := Tryd.klInt d h4
  unfold Program.keyLits
  rw [Tryd.underlying84, Tryd.cellsLeg]
  simp [Tryd.cellsInt3, Tryd.cellsInt64, k0, k1, k2, k3, k4]
theorem Tryd.keyOfLeg {p : Leg5} (h : LegWf p) : ∃ kl, keyOf Tryd.prog 84 (legVal p) = some kl := by
  obtain ⟨x0, x1, x2, x3, x4⟩ := p
  obtain ⟨h0, h1, h2, h3, h4⟩ := h
  unfold keyOf
  rw [Tryd.underlying84]
  have e1 : Tryd.prog.keyType 84 = true := by kernel_rfl
  obtain ⟨d, hd⟩ : ∃ d, Tryd.prog.types.size + 1 = d + 2 := ⟨179 - 1, by rw [show Tryd.prog.types.size = 179 from by kernel_rfl]⟩
  have e6 : (legVal (x0, x1, x2, x3, x4)).formed Tryd.prog 84 = true := by
    unfold Value.formed legVal; simp only [Tryd.underlying84, Tryd.cellsLeg]; rfl
  rw [hd]
  simp only [e1, e6, Bool.and_self, if_true]
  have hk := Tryd.klLeg d h0 h1 h2 h3 h4
  simp only [Value.cells, legVal]
  rw [hk]
  exact ⟨_, rfl⟩
end Go.Proofs.YtkkaejbdekdljaaDoor
/- Walks: MarkText at 90. -/
set_option linter.unusedVariables false
set_option linter.unusedSimpArgs false
namespace Go.Proofs.YtkkaejbdekdljaaDoor
open Go.RowKit
def mkText (i : Int) : ByteArray := strOfNums [35, 90, 0, i % 256, i / 256 % 256]
set_option maxRecDepth 100000 in
theorem markText_any (i : Int) (w : World) (hi : -4294967312 ≤ i ∧ i ≤ 4294967312) :
    Calls Tryd.prog 78 #[.int .i64 90, .int .i64 i] w fun e w' => e = .returned (.string (mkText i)) ∧ New w w' := by
  obtain ⟨h1, h2⟩ := hi
  have hcv : ∀ a b c d : Int, (convert 148 9 (.slice (some ⟨w.heap.size, 0, none⟩) 5 5)).run Tryd.prog (w.alloc (.cells #[.int .u8 35, .int .u8 a, .int .u8 b, .int .u8 c, .int .u8 d] 5)) = .ok (.string (strOfNums [35, a, b, c, d])) (w.alloc (.cells #[.int .u8 35, .int .u8 a, .int .u8 b, .int .u8 c, .int .u8 d] 5)) := fun a b c d =>
    run_convert_bytes_arg _ _ _ Tryd.underlying148 Tryd.underlying5 w.heap.size 0 5 5 [35, a, b, c, d] rfl (fun i hi => by
      have hb := (Blk.new w 5 [.int .u8 35, .int .u8 a, .int .u8 b, .int .u8 c, .int .u8 d]).cell (0 + i)
      match i, hi with
      | 0, _ => exact hb
      | 1, _ => exact hb
      | 2, _ => exact hb
      | 3, _ => exact hb
      | 4, _ => exact hb) _ Tryd.underlying9
  go_enter Tryd.func78, Tryd.ntmps78
  go_wp2
  go_ret
  exact ⟨rfl, (Mod.refl _ _).alloc _⟩
end Go.Proofs.YtkkaejbdekdljaaDoor
