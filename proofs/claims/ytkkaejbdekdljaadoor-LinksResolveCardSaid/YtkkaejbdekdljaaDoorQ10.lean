/- Words and walks, part 10 of 19. -/
import Derived.Test.YtkkaejbdekdljaaDoorQ3
import Derived.Test.YtkkaejbdekdljaaDoorQ4
import Derived.Test.YtkkaejbdekdljaaDoorQ5
import Derived.Test.YtkkaejbdekdljaaDoorQ8
/- Words: maps whose elements are taken as they are (slices, ints), the call's own: looked up without ok. -/
set_option linter.unusedVariables false
set_option linter.unusedSimpArgs false
namespace Go.Proofs.YtkkaejbdekdljaaDoor
open Go.RowKit Go.Maps

/-- An element reads as itself. -/
def rawElem (v : Value) : Option (DataW Value × List MemPlace) := some (.held v, [])
/-- Block b is a map of at most n entries; at x it answers f x (z where there is none). -/
def MapD {K : Type} (k : TypeId) (enc : K → Value) (z : Value) (w : World) (b n : Nat) (f : K → Value) : Prop :=
  ∃ D : DataW Value, w.ownsMap Tryd.prog k rawElem b n D ∧ ∀ x kl, keyOf Tryd.prog k (enc x) = some kl → D.atKey kl (.held z) = .held (f x)
def updV {K : Type} [DecidableEq K] (f : K → Value) (x : K) (v : Value) : K → Value := fun y => if y = x then v else f y

section
variable {K : Type} {k : TypeId} {enc : K → Value} {z : Value} {w w' : World} {b n : Nat} {f : K → Value}
theorem MapD.made (w : World) (k : TypeId) (enc : K → Value) (z : Value) : MapD k enc z (w.alloc (.map #[] 0)) w.heap.size 0 (fun _ => z) :=
  ⟨_, World.ownsMap_made w _ _ _, fun x kl _ => rfl⟩
theorem MapD.lt (h : MapD k enc z w b n f) : b < w.heap.size := by obtain ⟨D, h, _⟩ := h; exact h.lt
theorem MapD.kept {row : Option Nat} (h : MapD k enc z w b n f) (hg : w.grownBy w' row) (hne : some b ≠ row) : MapD k enc z w' b n f := by
  obtain ⟨D, h, r⟩ := h
  exact ⟨D, h.kept hg hne, r⟩
theorem MapD.mod {S : Nat → Prop} (h : MapD k enc z w b n f) (hm : Mod S w w') (hs : ¬ S b) : MapD k enc z w' b n f := by
  obtain ⟨D, ⟨es, clock, hb, r⟩, q⟩ := h
  exact ⟨D, ⟨es, clock, (hm.block b (Array.getElem?_eq_some_iff.1 hb).1 hs).trans hb, r⟩, q⟩
theorem MapD.new_ (h : MapD k enc z w b n f) (hm : New w w') : MapD k enc z w' b n f := h.mod hm (fun h => h)
theorem MapD.mono {m : Nat} (h : MapD k enc z w b n f) (hn : n ≤ m) : MapD k enc z w b m f := by
  obtain ⟨D, h, r⟩ := h
  exact ⟨D, h.mono hn, r⟩
theorem MapD.congr {g : K → Value} (h : MapD k enc z w b n f) (e : ∀ x, g x = f x) : MapD k enc z w b n g := by
  obtain ⟨D, h, r⟩ := h
  exact ⟨D, h, fun x kl hx => by rw [e x]; exact r x kl hx⟩
/-- A map's block is none of a row's. -/
theorem MapD.ne_own {B : Nat} {e : TypeId} {sz m : Nat} {v : Value} {xs : List Value} (h : MapD k enc z w b n f) (ho : w.ownsRow B e sz v m xs) : v.ownBlock ≠ some b := by
  obtain ⟨D, ⟨es, clock, hb, _⟩, _⟩ := h
  rcases ho.2 with ⟨rfl, _⟩ | ⟨g, cap, cur, rfl, _, hh, _⟩
  · simp [Value.ownBlock]
  · intro e1
    have : g = b := by simpa [Value.ownBlock] using e1
    subst this
    rw [hh] at hb
    cases hb
theorem MapD.not_blk {g : Nat} {t : TypeId} {cs : List Value} (h : MapD k enc z w b n f) (hb : Blk w g t cs) : g ≠ b := by
  rintro rfl
  obtain ⟨D, ⟨es, clock, hb', _⟩, _⟩ := h
  unfold Blk at hb
  rw [hb] at hb'
  cases hb'

variable {ops : Array Oper} {rest : List Oper} {o : Oper} {a : Act} {Q : Exit → Act → World → Prop}
set_option maxRecDepth 100000 in
theorem wpList_mapD_look {e : TypeId} (hg : o.guard = none) (m x : Operand) (t : TypeId) (hop : o.op = Op.lookup t m x false) (L : Keyed Tryd.prog k) (ht : Tryd.prog.underlying t = some (.map k e)) (hz : (zeroValue e).run Tryd.prog w = .ok z w)
    (hm : a.eval m = .map (some b)) (hown : MapD k enc z w b n f) (key : K) (hx : a.eval x = enc key) {kl : Lit} (hkey : keyOf Tryd.prog k (enc key) = some kl) (v : Value) (hf : f key = v)
    (hK : wpList Tryd.prog ops Q rest (a.put o.dst v) w) : wpList Tryd.prog ops Q (o :: rest) a w := by
  obtain ⟨D, hD, r⟩ := hown
  refine wpList_plain hg fun K' hK' => ?_
  obtain ⟨v', ps, hrun, hv⟩ := hD.lookup L ht hz (zd := .held z) (zp := []) rfl hkey
  rw [r key kl hkey, hf] at hv
  have hv2 : v' = v := by
    unfold rawElem at hv
    injection hv with hv
    injection hv with hv
    injection hv
  subst hv2
  unfold Oper.wp
  simp [execOp, hop, hm, hx, hrun, Result.andThen]
  exact hK' _ _ hK
set_option maxRecDepth 100000 in
theorem wpList_mapD_put {e : TypeId} [DecidableEq K] (henc : ∀ x y, enc x = enc y → x = y) (hg : o.guard = none) (m x v : Operand) (t : TypeId) (hop : o.op = Op.mapUpdate t m x v) (L : Keyed Tryd.prog k) (ht : Tryd.prog.underlying t = some (.map k e))
    (hm : a.eval m = .map (some b)) (hown : MapD k enc z w b n f) (hn : n < maxLen) (key : K) (hx : a.eval x = enc key) {kl : Lit} (hkey : keyOf Tryd.prog k (enc key) = some kl) (c : Value) (hv : a.eval v = c)
    (hK : ∀ w', MapD k enc z w' b (n + 1) (updV f key c) → w.grownBy w' (some b) → wpList Tryd.prog ops Q rest (a.put o.dst undef) w') : wpList Tryd.prog ops Q (o :: rest) a w := by
  obtain ⟨D, hD, r⟩ := hown
  refine wpList_mapUpdate_own w hg m x v t hop k e L ht rawElem b n D hm hD hn _ _ kl hx hv hkey (.held c) [] rfl (fun w' h1 h2 => hK w' ⟨_, h1, fun y ly hy => ?_⟩ h2)
  have hM := hD.isMap
  by_cases e : y = key
  · subst e
    rw [hkey] at hy
    injection hy with hy
    subst hy
    have hu : updV f y c y = c := by simp [updV]
    rw [hu]
    exact atKey_put_same hM (L.key hkey) _ _
  · have hne : ly ≠ kl := fun h => e (henc _ _ (L.inj hy (by rw [h]; exact hkey)))
    have hu : updV f key c y = f y := by simp [updV, e]
    rw [hu, atKey_put_other hne]
    exact r y ly hy
end
def intVal (x : Int) : Value := .int .i64 x
theorem intVal_inj (x y : Int) (h : intVal x = intVal y) : x = y := by injection h
theorem Tryd.keyedInt : Keyed Tryd.prog 3 := int_keyed Tryd.underlying3
theorem Tryd.keyOfInt {x : Int} (h : (Lit.int .i64 x).wf = true) : keyOf Tryd.prog 3 (intVal x) = some (.int .i64 x) := keyOf_int_mk Tryd.underlying3 h
end Go.Proofs.YtkkaejbdekdljaaDoor
/- Plain: an order of things of which some (the heads) alone have edges, seen at the heads: it is the order of the heads' numbers. -/
set_option linter.unusedVariables false
set_option linter.unusedSimpArgs false
namespace Go.Proofs.YtkkaejbdekdljaaDoor

/-- How many heads there are below k. -/
def num (hd : Nat → Bool) : Nat → Nat
  | 0 => 0
  | k + 1 => num hd k + (if hd k then 1 else 0)
theorem num_le {hd : Nat → Bool} {i j : Nat} (h : i ≤ j) : num hd i ≤ num hd j := by
  induction j with
  | zero => have : i = 0 := by omega
            subst this; exact Nat.le_refl _
  | succ j ih =>
    by_cases e : i = j + 1
    · subst e; exact Nat.le_refl _
    · have := ih (by omega); simp only [num]; omega
theorem num_lt {hd : Nat → Bool} {i j : Nat} (h : i < j) (hi : hd i = true) : num hd i < num hd j := by
  have h1 : num hd (i + 1) ≤ num hd j := num_le h
  simp only [num, hi, if_true] at h1
  omega
theorem num_inj {hd : Nat → Bool} {i j : Nat} (hi : hd i = true) (hj : hd j = true) (h : num hd i = num hd j) : i = j := by
  rcases Nat.lt_trichotomy i j with h1 | h1 | h1
  · have := num_lt h1 hi; omega
  · exact h1
  · have := num_lt h1 hj; omega
/-- The heads' numbers of some things. -/
def proj (hd : Nat → Bool) (out : List Nat) : List Nat := (out.filter hd).map (num hd)
theorem proj_head {hd : Nat → Bool} {out : List Nat} {b : Nat} (h : hd b = true) : proj hd (out ++ [b]) = proj hd out ++ [num hd b] := by simp [proj, h]
theorem proj_other {hd : Nat → Bool} {out : List Nat} {b : Nat} (h : hd b = false) : proj hd (out ++ [b]) = proj hd out := by simp [proj, h]
theorem proj_contains {hd : Nat → Bool} {out : List Nat} {i : Nat} (h : hd i = true) : (proj hd out).contains (num hd i) = out.contains i := by
  rw [Bool.eq_iff_iff]
  simp only [List.contains_iff_mem, proj, List.mem_map, List.mem_filter]
  constructor
  · rintro ⟨x, ⟨hx, hh⟩, e⟩
    rw [← num_inj hh h e]; exact hx
  · intro hi
    exact ⟨i, ⟨hi, h⟩, rfl⟩
/-- The pick among the heads is the pick of the numbers. -/
theorem pick_num {hd r r' : Nat → Bool} {prio prio' : Nat → Int} : ∀ (k : Nat), (∀ i, i < k → hd i = true → r' (num hd i) = r i ∧ prio' (num hd i) = prio i) →
    pick r' prio' (num hd k) = (pick (fun i => hd i && r i) prio k).map (num hd)
  | 0, _ => rfl
  | k + 1, h => by
    have ih := pick_num k fun i hi => h i (by omega)
    cases hk : hd k with
    | false =>
      rw [pick_skip (by simp [hk])]
      simp only [num, hk, Bool.false_eq_true, if_false, Nat.add_zero]
      exact ih
    | true =>
      obtain ⟨h1, h2⟩ := h k (by omega) hk
      simp only [num, hk, if_true]
      cases hp : pick (fun i => hd i && r i) prio k with
      | none =>
        rw [hp] at ih
        simp only [pick, hp, ih, Option.map_none, h1, hk, Bool.true_and]
        cases r k <;> simp
      | some b =>
        rw [hp] at ih
        have hb := pick_lt hp
        have hbh : hd b = true := by have := hb.2; simp at this; exact this.1
        have h3 := (h b (by omega) hbh).2
        simp only [pick, hp, ih, Option.map_some, h1, h2, h3, hk, Bool.true_and]
        split <;> simp
theorem pick_heads {hd r : Nat → Bool} {prio : Nat → Int} : ∀ (k : Nat), (pick r prio k = none → pick (fun i => hd i && r i) prio k = none) ∧
    ∀ b, pick r prio k = some b → (hd b = true → pick (fun i => hd i && r i) prio k = some b) ∧ ∀ c, pick (fun i => hd i && r i) prio k = some c → prio c ≤ prio b
  | 0 => ⟨fun _ => rfl, fun b h => by simp [pick] at h⟩
  | k + 1 => by
    obtain ⟨ih1, ih2⟩ := pick_heads (hd := hd) (r := r) (prio := prio) k
    cases hr : r k with
    | false =>
      rw [pick_skip hr, pick_skip (r := fun i => hd i && r i) (by simp [hr])]
      exact ⟨ih1, ih2⟩
    | true =>
      cases hp : pick r prio k with
      | none =>
        have hq := ih1 hp
        rw [pick_first hr hp]
        refine ⟨fun h => by simp at h, fun b hb => ?_⟩
        injection hb with hb
        subst hb
        cases hk : hd k with
        | true => rw [pick_first (r := fun i => hd i && r i) (by simp [hk, hr]) hq]; exact ⟨fun _ => rfl, fun c hc => by injection hc with hc; subst hc; exact Int.le_refl _⟩
        | false => rw [pick_skip (r := fun i => hd i && r i) (by simp [hk]), hq]; exact ⟨fun h => by simp at h, fun c hc => by simp at hc⟩
      | some a =>
        obtain ⟨j1, j2⟩ := ih2 a hp
        by_cases hlt : prio a < prio k
        · rw [pick_more hr hp hlt]
          refine ⟨fun h => by simp at h, fun b hb => ?_⟩
          injection hb with hb
          subst hb
          cases hk : hd k with
          | true =>
            cases hq : pick (fun i => hd i && r i) prio k with
            | none => rw [pick_first (r := fun i => hd i && r i) (by simp [hk, hr]) hq]; exact ⟨fun _ => rfl, fun c hc => by injection hc with hc; subst hc; exact Int.le_refl _⟩
            | some c0 =>
              have := j2 c0 hq
              rw [pick_more (r := fun i => hd i && r i) (by simp [hk, hr]) hq (by omega)]
              exact ⟨fun _ => rfl, fun c hc => by injection hc with hc; subst hc; exact Int.le_refl _⟩
          | false =>
            rw [pick_skip (r := fun i => hd i && r i) (by simp [hk])]
            exact ⟨fun h => by simp at h, fun c hc => by have := j2 c hc; omega⟩
        · rw [pick_stay hp hlt]
          refine ⟨fun h => by simp at h, fun b hb => ?_⟩
          injection hb with hb
          subst hb
          cases hk : hd k with
          | true =>
            cases hq : pick (fun i => hd i && r i) prio k with
            | none =>
              rw [pick_first (r := fun i => hd i && r i) (by simp [hk, hr]) hq]
              exact ⟨fun h => by rw [j1 h] at hq; simp at hq, fun c hc => by injection hc with hc; subst hc; omega⟩
            | some c0 =>
              have h3 := j2 c0 hq
              by_cases h4 : prio c0 < prio k
              · rw [pick_more (r := fun i => hd i && r i) (by simp [hk, hr]) hq h4]
                exact ⟨fun h => by have := j1 h; rw [hq] at this; injection this with this; subst this; exact absurd h4 hlt, fun c hc => by injection hc with hc; subst hc; omega⟩
              · rw [pick_stay (r := fun i => hd i && r i) hq h4]
                exact ⟨fun h => by rw [← hq]; exact j1 h, fun c hc => by injection hc with hc; subst hc; exact h3⟩
          | false =>
            rw [pick_skip (r := fun i => hd i && r i) (by simp [hk])]
            exact ⟨j1, j2⟩
theorem stand_length : ∀ {n : Nat} {out : List Nat}, Stand n out → out.length ≤ n
  | 0, out, h => by
    cases out with
    | nil => simp
    | cons a l => have := h.lt a (by simp); omega
  | n + 1, out, h => by
    have h1 : Stand n (out.filter (· != n)) := ⟨fun b hb => by
      obtain ⟨hb, hn⟩ := List.mem_filter.1 hb
      have := h.lt b hb
      simp at hn; omega, h.nodup.filter _⟩
    have h2 := stand_length h1
    have h3 : out.length ≤ (out.filter (· != n)).length + 1 := by
      have hnd := h.nodup
      clear h h1 h2
      induction out with
      | nil => simp
      | cons a l ih =>
        obtain ⟨ha, hl⟩ := List.nodup_cons.1 hnd
        by_cases e : a = n
        · subst e
          have : l.filter (· != a) = l := List.filter_eq_self.2 fun x hx => by simp; intro e; exact ha (e ▸ hx)
          simp [this]
        · have := ih hl
          simp [e]; omega
    omega

/-- The edges between heads, by the heads' numbers. -/
def numEdges (hd : Nat → Bool) (l : List (Int × Int)) : List (Int × Int) := l.map fun p => ((num hd p.1.toNat : Int), (num hd p.2.toNat : Int))
/-- Each edge leads from a head to a head. -/
def HeadEdges (hd : Nat → Bool) (l : List (Int × Int)) : Prop := ∀ p, p ∈ l → hd p.1.toNat = true ∧ hd p.2.toNat = true
theorem cnt_head {hd : Nat → Bool} {l : List (Int × Int)} (hl : HeadEdges hd l) (out : List Nat) {i : Nat} (hi : hd i = true) : cnt (numEdges hd l) (proj hd out) (num hd i) = cnt l out i := by
  unfold cnt numEdges
  rw [List.countP_map]
  refine List.countP_congr fun p hp => ?_
  obtain ⟨h1, h2⟩ := hl p hp
  simp only [Function.comp, Int.toNat_natCast]
  rw [proj_contains h1]
  have : (num hd p.2.toNat == num hd i) = (p.2.toNat == i) := by
    rw [Bool.eq_iff_iff]; simp only [beq_iff_eq]
    exact ⟨fun e => num_inj h2 hi e, fun e => by rw [e]⟩
  rw [this]
theorem cnt_other {hd : Nat → Bool} {l : List (Int × Int)} (hl : HeadEdges hd l) (out : List Nat) {i : Nat} (hi : hd i = false) : cnt l out i = 0 := by
  unfold cnt
  rw [List.countP_eq_zero]
  intro p hp
  obtain ⟨_, h2⟩ := hl p hp
  simp only [Bool.and_eq_true, beq_iff_eq, not_and]
  intro e
  rw [e, hi] at h2
  cases h2
theorem ready_head {hd : Nat → Bool} {l : List (Int × Int)} (hl : HeadEdges hd l) (out : List Nat) {i : Nat} (hi : hd i = true) : ready (numEdges hd l) (proj hd out) (num hd i) = ready l out i := by
  unfold ready; rw [proj_contains hi, cnt_head hl out hi]
theorem proj_stand {hd : Nat → Bool} {n : Nat} {out : List Nat} (h : Stand n out) : Stand (num hd n) (proj hd out) := by
  refine ⟨fun b hb => ?_, ?_⟩
  · obtain ⟨x, hx, rfl⟩ := List.mem_map.1 hb
    obtain ⟨hx, hh⟩ := List.mem_filter.1 hx
    exact num_lt (h.lt x hx) hh
  · unfold proj
    have h1 := h.nodup
    clear h
    induction out with
    | nil => simp
    | cons a l ih =>
      obtain ⟨ha, hl⟩ := List.nodup_cons.1 h1
      cases hda : hd a with
      | false => simp [hda]; exact ih hl
      | true =>
        simp only [List.filter_cons, hda, if_true, List.map_cons, List.nodup_cons]
        refine ⟨fun hm => ?_, ih hl⟩
        obtain ⟨x, hx, e⟩ := List.mem_map.1 hm
        obtain ⟨hx, hh⟩ := List.mem_filter.1 hx
        exact ha (num_inj hh hda e ▸ hx)
/-- The order over all things, seen at the heads, is the order of their numbers. -/
theorem run_heads {hd : Nat → Bool} {l : List (Int × Int)} {prio prio' : Nat → Int} {n : Nat} (hl : HeadEdges hd l) (hp : ∀ i, i < n → hd i = true → prio' (num hd i) = prio i) :
    ∀ (f f' : Nat) (out : List Nat), Stand n out → n ≤ f + out.length → num hd n ≤ f' + (proj hd out).length → proj hd (run l prio n f out) = run (numEdges hd l) prio' (num hd n) f' (proj hd out) := by
  intro f
  induction f with
  | zero =>
    intro f' out hs hf hf'
    have hpk : pick (ready l out) prio n = none := by
      cases hp : pick (ready l out) prio n with
      | none => rfl
      | some b =>
        have h1 := pick_lt hp
        have := stand_length (hs.snoc h1.1 (ready_not h1.2))
        simp at this; omega
    have hn := pick_num (hd := hd) (r := ready l out) (r' := ready (numEdges hd l) (proj hd out)) (prio := prio) (prio' := prio') n fun i hi hh => ⟨ready_head hl out hh, hp i hi hh⟩
    rw [(pick_heads n).1 hpk] at hn
    rw [run_none (f := f') hn]; rfl
  | succ f ih =>
    intro f' out hs hf hf'
    have hn := pick_num (hd := hd) (r := ready l out) (r' := ready (numEdges hd l) (proj hd out)) (prio := prio) (prio' := prio') n fun i hi hh => ⟨ready_head hl out hh, hp i hi hh⟩
    cases hpk : pick (ready l out) prio n with
    | none =>
      rw [(pick_heads n).1 hpk] at hn
      rw [run_none hpk, run_none (f := f') hn]
    | some b =>
      have h1 := pick_lt hpk
      have hs2 := hs.snoc h1.1 (ready_not h1.2)
      rw [run_some hpk]
      cases hb : hd b with
      | false =>
        rw [ih f' (out ++ [b]) hs2 (by simp; omega) (by rw [proj_other hb]; exact hf'), proj_other hb]
      | true =>
        rw [((pick_heads n).2 b hpk).1 hb] at hn
        have hs3 := stand_length (proj_stand (hd := hd) hs2)
        rw [proj_head hb] at hs3
        simp only [List.length_append, List.length_singleton] at hs3
        obtain ⟨f'', rfl⟩ : ∃ f'', f' = f'' + 1 := ⟨f' - 1, by omega⟩
        rw [run_some hn, ← proj_head hb]
        exact ih f'' (out ++ [b]) hs2 (by simp; omega) (by rw [proj_head hb]; simp; omega)
theorem ordered_heads {hd : Nat → Bool} {l : List (Int × Int)} {prio prio' : Nat → Int} {n : Nat} (hl : HeadEdges hd l) (hp : ∀ i, i < n → hd i = true → prio' (num hd i) = prio i) :
    proj hd (ordered l prio n) = ordered (numEdges hd l) prio' (num hd n) :=
  run_heads hl hp n (num hd n) [] ⟨fun b hb => by simp at hb, by simp⟩ (by simp) (by simp)

theorem pick_none {r : Nat → Bool} {prio : Nat → Int} : ∀ {k : Nat}, pick r prio k = none → ∀ i, i < k → r i = false
  | 0, _, i, hi => by omega
  | k + 1, h, i, hi => by
    cases hr : r k with
    | false =>
      rw [pick_skip hr] at h
      by_cases e : i = k
      · subst e; exact hr
      · exact pick_none h i (by omega)
    | true =>
      cases hp : pick r prio k with
      | none => rw [pick_first hr hp] at h; cases h
      | some b =>
        by_cases hlt : prio b < prio k
        · rw [pick_more hr hp hlt] at h; cases h
        · rw [pick_stay hp hlt] at h; cases h
theorem run_stand {l : List (Int × Int)} {prio : Nat → Int} {n : Nat} : ∀ (f : Nat) {out : List Nat}, Stand n out → Stand n (run l prio n f out)
  | 0, out, h => h
  | f + 1, out, h => by
    cases hp : pick (ready l out) prio n with
    | none => rw [run_none hp]; exact h
    | some b => rw [run_some hp]; exact run_stand f (h.snoc (pick_lt hp).1 (ready_not (pick_lt hp).2))
theorem run_end {l : List (Int × Int)} {prio : Nat → Int} {n : Nat} : ∀ (f : Nat) {out : List Nat}, Stand n out → n ≤ f + out.length → pick (ready l (run l prio n f out)) prio n = none
  | 0, out, h, hf => by
    cases hp : pick (ready l out) prio n with
    | none => exact hp
    | some b =>
      have := stand_length (h.snoc (pick_lt hp).1 (ready_not (pick_lt hp).2))
      simp at this; omega
  | f + 1, out, h, hf => by
    cases hp : pick (ready l out) prio n with
    | none => rw [run_none hp]; exact hp
    | some b => rw [run_some hp]; exact run_end f (h.snoc (pick_lt hp).1 (ready_not (pick_lt hp).2)) (by simp; omega)
theorem ordered_stand (l : List (Int × Int)) (prio : Nat → Int) (n : Nat) : Stand n (ordered l prio n) := run_stand n ⟨fun b hb => by simp at hb, by simp⟩
theorem num_both (hd : Nat → Bool) : ∀ n, num hd n + num (fun i => !hd i) n = n
  | 0 => rfl
  | n + 1 => by have := num_both hd n; cases h : hd n <;> simp [num, h] <;> omega
theorem filter_both (hd : Nat → Bool) (out : List Nat) : (out.filter hd).length + (out.filter fun i => !hd i).length = out.length := by
  induction out with
  | nil => rfl
  | cons a l ih => cases h : hd a <;> simp [h] <;> omega
theorem num_le_filter {g : Nat → Bool} : ∀ {n : Nat} {out : List Nat}, (∀ i, i < n → g i = true → i ∈ out) → num g n ≤ (out.filter g).length
  | 0, out, _ => by simp [num]
  | n + 1, out, h => by
    cases hg : g n with
    | false => simp only [num, hg, Bool.false_eq_true, if_false, Nat.add_zero]; exact num_le_filter fun i hi => h i (by omega)
    | true =>
      have h1 := num_le_filter (g := g) (n := n) (out := out.filter (· != n)) fun i hi hgi => by
        refine List.mem_filter.2 ⟨h i (by omega) hgi, ?_⟩
        simp; omega
      have hm := h n (by omega) hg
      have h2 : ((out.filter (· != n)).filter g).length + 1 ≤ (out.filter g).length := by
        clear h h1
        induction out with
        | nil => simp at hm
        | cons a l ih =>
          by_cases e : a = n
          · subst e
            simp only [List.filter_cons, bne_self_eq_false, Bool.false_eq_true, if_false, hg, if_true, List.length_cons]
            have : ((l.filter (· != a)).filter g).length ≤ (l.filter g).length := by
              rw [List.filter_filter]
              refine List.Sublist.length_le ?_
              rw [show (fun a_1 => g a_1 && (a_1 != a)) = (fun x => (x != a) && g x) from by funext x; exact Bool.and_comm _ _, ← List.filter_filter]
              exact List.filter_sublist
            omega
          · have hm2 : n ∈ l := by rcases List.mem_cons.1 hm with h | h; exact absurd h.symm e; exact h
            have := ih hm2
            have he : (a != n) = true := by simp [e]
            cases hga : g a <;> simp only [List.filter_cons, he, if_true, hga, Bool.false_eq_true, if_false, List.length_cons] <;> omega
      simp only [num, hg, if_true]
      omega
/-- All things stand if and only if all heads do. -/
theorem full_heads {hd : Nat → Bool} {l : List (Int × Int)} {prio prio' : Nat → Int} {n : Nat} (hl : HeadEdges hd l) (hp : ∀ i, i < n → hd i = true → prio' (num hd i) = prio i) :
    (ordered l prio n).length = n ↔ (ordered (numEdges hd l) prio' (num hd n)).length = num hd n := by
  rw [← ordered_heads hl hp]
  have hs := ordered_stand l prio n
  have hend : pick (ready l (ordered l prio n)) prio n = none := run_end n ⟨fun b hb => by simp at hb, by simp⟩ (by simp)
  have h1 : (proj hd (ordered l prio n)).length = ((ordered l prio n).filter hd).length := by simp [proj]
  have h2 : (proj (fun i => !hd i) (ordered l prio n)).length = ((ordered l prio n).filter fun i => !hd i).length := by simp [proj]
  have a1 := stand_length (proj_stand (hd := hd) hs)
  have a2 := stand_length (proj_stand (hd := fun i => !hd i) hs)
  have b1 := num_both hd n
  have b2 := filter_both hd (ordered l prio n)
  rw [h1] at a1 ⊢
  rw [h2] at a2
  constructor
  · intro h; omega
  · intro h
    have h3 : num (fun i => !hd i) n ≤ ((ordered l prio n).filter fun i => !hd i).length := num_le_filter fun i hi hh => by
      have hh2 : hd i = false := by simpa using hh
      have h4 := pick_none hend i hi
      unfold ready at h4
      rw [cnt_other hl _ hh2] at h4
      simpa using h4
    omega
end Go.Proofs.YtkkaejbdekdljaaDoor
/- Plain: the answer of Resolve: the groups in the order of their heads; seen from the heads' numbers it is the same. -/
set_option linter.unusedVariables false
set_option linter.unusedSimpArgs false
namespace Go.Proofs.YtkkaejbdekdljaaDoor

def isHead (R : Nat → Nat) (i : Nat) : Bool := R i == i
/-- The things below n whose head is h. -/
def mem (R : Nat → Nat) (n h : Nat) : List Nat := (List.range n).filter fun k => R k == h
theorem mem_succ (R : Nat → Nat) (n h : Nat) : mem R (n + 1) h = mem R n h ++ (if R n = h then [n] else []) := by
  unfold mem
  rw [List.range_succ, List.filter_append]
  by_cases e : R n = h <;> simp [e]
theorem mem_length_le (R : Nat → Nat) (n h : Nat) : (mem R n h).length ≤ n := by
  have := List.length_filter_le (fun k => R k == h) (List.range n)
  simpa [mem] using this
theorem mem_lt {R : Nat → Nat} {n h x : Nat} (hx : x ∈ mem R n h) : x < n := by
  have := (List.mem_filter.1 hx).1
  simpa using this
/-- The heads below n. -/
def firsts (R : Nat → Nat) (n : Nat) : List Nat := (List.range n).filter (isHead R)
theorem firsts_succ (R : Nat → Nat) (n : Nat) : firsts R (n + 1) = firsts R n ++ (if isHead R n then [n] else []) := by
  unfold firsts
  rw [List.range_succ, List.filter_append]
  cases e : isHead R n <;> simp [e]
theorem firsts_length (R : Nat → Nat) : ∀ n, (firsts R n).length = num (isHead R) n
  | 0 => rfl
  | n + 1 => by
    rw [firsts_succ, List.length_append, firsts_length R n]
    cases e : isHead R n <;> simp [num, e]
theorem firsts_get (R : Nat → Nat) : ∀ (n i : Nat), i < n → isHead R i = true → (firsts R n)[num (isHead R) i]? = some i
  | 0, i, hi, _ => by omega
  | n + 1, i, hi, hh => by
    rw [firsts_succ]
    by_cases e : i = n
    · subst e
      rw [List.getElem?_append_right (by rw [firsts_length]; exact Nat.le_refl _), firsts_length, Nat.sub_self, hh]
      rfl
    · rw [List.getElem?_append_left (by rw [firsts_length]; exact num_lt (by omega) hh)]
      exact firsts_get R n i (by omega) hh
theorem firsts_at {R : Nat → Nat} {n i : Nat} (hi : i < n) (hh : isHead R i = true) : at_ (firsts R n) (num (isHead R) i) = i := by
  simp [at_, List.getD_eq_getElem?_getD, firsts_get R n i hi hh]
theorem firsts_head {R : Nat → Nat} {n k : Nat} (hk : k < num (isHead R) n) : at_ (firsts R n) k < n ∧ isHead R (at_ (firsts R n) k) = true := by
  have hl : k < (firsts R n).length := by rw [firsts_length]; exact hk
  have h1 : at_ (firsts R n) k = (firsts R n)[k] := by simp [at_, List.getD_eq_getElem?_getD, List.getElem?_eq_getElem hl]
  have h2 := List.getElem_mem hl
  rw [← h1] at h2
  obtain ⟨h3, h4⟩ := List.mem_filter.1 h2
  exact ⟨by simpa using h3, h4⟩
/-- The greatest of a and of these things' values. -/
def maxOf (p : Nat → Int) (a : Int) (l : List Nat) : Int := l.foldl (fun m x => max m (p x)) a
theorem maxOf_snoc (p : Nat → Int) (a : Int) (l : List Nat) (x : Nat) : maxOf p a (l ++ [x]) = max (maxOf p a l) (p x) := by simp [maxOf]
def prioH (R : Nat → Nat) (n : Nat) (p : Nat → Int) (h : Nat) : Int := maxOf p (p h) (mem R n h)
def headEdges (R : Nat → Nat) (l : List (Int × Int)) : List (Int × Int) := l.map fun q => ((R q.1.toNat : Int), (R q.2.toNat : Int))
def resOrd (R : Nat → Nat) (T : List (Int × Int)) (p : Nat → Int) (n : Nat) : List Nat := ordered (headEdges R T) (prioH R n p) n
/-- The groups in their order. -/
def resOut (R : Nat → Nat) (T : List (Int × Int)) (p : Nat → Int) (n : Nat) : List (List Nat) := ((resOrd R T p n).filter (isHead R)).map (mem R n)
theorem head_edges {R : Nat → Nat} {n : Nat} {T : List (Int × Int)} (hR : ∀ i, i < n → R (R i) = R i) (hT : ∀ q, q ∈ T → q.1.toNat < n ∧ q.2.toNat < n) : HeadEdges (isHead R) (headEdges R T) := fun q hq => by
  obtain ⟨t, ht, rfl⟩ := List.mem_map.1 hq
  obtain ⟨h1, h2⟩ := hT t ht
  simp [isHead, hR _ h1, hR _ h2]
theorem resolve_heads {R : Nat → Nat} {n : Nat} {T : List (Int × Int)} {p prio' : Nat → Int} (hR : ∀ i, i < n → R (R i) = R i) (hT : ∀ q, q ∈ T → q.1.toNat < n ∧ q.2.toNat < n)
    (hp : ∀ k, k < num (isHead R) n → prio' k = prioH R n p (at_ (firsts R n) k)) :
    (ordered (numEdges (isHead R) (headEdges R T)) prio' (num (isHead R) n)).map (fun k => mem R n (at_ (firsts R n) k)) = resOut R T p n ∧
    decide ((ordered (numEdges (isHead R) (headEdges R T)) prio' (num (isHead R) n)).length = num (isHead R) n) = decide ((resOrd R T p n).length = n) := by
  have hE := head_edges hR hT
  have hpp : ∀ i, i < n → isHead R i = true → prio' (num (isHead R) i) = prioH R n p i := fun i hi hh => by
    rw [hp _ (num_lt hi hh), firsts_at hi hh]
  have h1 := ordered_heads hE hpp
  have h2 := full_heads hE hpp
  refine ⟨?_, ?_⟩
  · rw [← h1]
    unfold proj resOut resOrd
    rw [List.map_map]
    refine List.map_congr_left fun i hi => ?_
    obtain ⟨hi, hh⟩ := List.mem_filter.1 hi
    have hlt := (ordered_stand (headEdges R T) (prioH R n p) n).lt i hi
    simp only [Function.comp]
    rw [firsts_at hlt hh]
  · unfold resOrd
    rw [decide_eq_decide]
    first | exact h2 | exact h2.symm
end Go.Proofs.YtkkaejbdekdljaaDoor
/- Words: groups of things in a map of slices, the heads in a slice, their numbers in a map. -/
set_option linter.unusedVariables false
set_option linter.unusedSimpArgs false
namespace Go.Proofs.YtkkaejbdekdljaaDoor
open Go.RowKit Go.Maps

def natVal (x : Nat) : Value := .int .i64 (x : Int)
theorem natVal_inj (x y : Nat) (h : natVal x = natVal y) : x = y := by
  unfold natVal at h; injection h with _ h; omega
theorem Tryd.keyOfNat {x : Nat} (h : x ≤ 4294967296) : keyOf Tryd.prog 3 (natVal x) = some (.int .i64 (x : Int)) := Tryd.keyOfInt (WalkArith.wf_i64 (by omega))
abbrev nilS : Value := .slice none 0 0
/-- The heads' numbers, of the heads below k. -/
def numAt (R : Nat → Nat) (k : Nat) : Nat → Value := fun h => .int .i64 (if isHead R h = true ∧ h < k then (num (isHead R) h : Int) else 0)
theorem numAt_zero (R : Nat → Nat) : numAt R 0 = fun _ => .int .i64 0 := by funext h; simp [numAt]
theorem numAt_head {R : Nat → Nat} {k : Nat} (h : isHead R k = true) : updV (numAt R k) k (.int .i64 ((firsts R k).length : Int)) = numAt R (k + 1) := by
  funext x
  unfold updV numAt
  by_cases e : x = k
  · subst e; simp [h, firsts_length]
  · rw [if_neg e]
    by_cases hx : isHead R x = true ∧ x < k
    · rw [if_pos hx, if_pos ⟨hx.1, by omega⟩]
    · rw [if_neg hx, if_neg (fun hh => hx ⟨hh.1, by omega⟩)]
theorem numAt_skip {R : Nat → Nat} {k : Nat} (h : isHead R k = false) : numAt R (k + 1) = numAt R k := by
  funext x
  unfold numAt
  by_cases e : x = k
  · subst e; simp [h]
  · by_cases hx : isHead R x = true ∧ x < k
    · rw [if_pos hx, if_pos ⟨hx.1, by omega⟩]
    · rw [if_neg hx, if_neg (fun hh => hx ⟨hh.1, by omega⟩)]
theorem firsts_skip {R : Nat → Nat} {k : Nat} (h : isHead R k = false) : firsts R (k + 1) = firsts R k := by rw [firsts_succ, h]; simp
theorem firsts_head' {R : Nat → Nat} {k : Nat} (h : isHead R k = true) : firsts R (k + 1) = firsts R k ++ [k] := by rw [firsts_succ, h]; simp
theorem nats_append (l r : List Nat) : nats (l ++ r) = nats l ++ nats r := by simp [nats]
/-- The rows of the groups of the things below k. -/
def memRows (R : Nat → Nat) (n k : Nat) : List (Nat × List Value) := (List.range n).map fun h => ((mem R k h).length, nats (mem R k h))
theorem memRows_at {R : Nat → Nat} {n k h : Nat} (hh : h < n) : (memRows R n k)[h]? = some ((mem R k h).length, nats (mem R k h)) := by simp [memRows, hh]
theorem memRows_succ {R : Nat → Nat} {n k : Nat} (hx : R k < n) : memRows R n (k + 1) = (memRows R n k).set (R k) ((mem R k (R k)).length + 1, nats (mem R k (R k)) ++ [.int .i64 (k : Int)]) := by
  refine List.ext_getElem? fun h => ?_
  by_cases hh : h < n
  · rw [memRows_at hh]
    by_cases e : R k = h
    · subst e
      rw [List.getElem?_set_self (by simpa [memRows] using hx), mem_succ, if_pos rfl, nats_append]
      simp [nats]
    · rw [List.getElem?_set_ne e, memRows_at hh, mem_succ, if_neg e, List.append_nil]
  · rw [List.getElem?_eq_none (by simp [memRows]; omega), List.getElem?_eq_none (by simp [memRows]; omega)]
theorem memRows_zero (R : Nat → Nat) (n : Nat) : memRows R n 0 = List.replicate n (0, []) := by
  refine List.ext_getElem? fun h => ?_
  by_cases hh : h < n
  · rw [memRows_at hh]; simp [mem, nats, hh]
  · rw [List.getElem?_eq_none (by simp [memRows]; omega), List.getElem?_eq_none (by simp; omega)]
/-- The heads below kf, their numbers, and the groups of the things below km. -/
structure Grp (w : World) (B m1 m2 n kf km : Nat) (R : Nat → Nat) (fv : Value) (vs : List Value) : Prop where
  rows : RowsOf w B 3 1 (fv :: vs) (((firsts R kf).length, nats (firsts R kf)) :: memRows R n km)
  mg : MapD 3 natVal nilS w m1 km (fun h => vs.getD h nilS)
  mn : MapD 3 natVal (.int .i64 0) w m2 kf (numAt R kf)
  ne : m1 ≠ m2
section
variable {w w' w6 w7 : World} {B m1 m2 n kf km : Nat} {R : Nat → Nat} {fv fv' v' : Value} {vs : List Value}
theorem RowsOf.besides {sz b : Nat} {e : TypeId} {us : List Value} {ls : List (Nat × List Value)} (h : RowsOf w B e sz us ls) (hg : w.grownBy w' (some b)) (hb : ∀ (v : Value) (m : Nat) (xs : List Value), w.ownsRow B e sz v m xs → v.ownBlock ≠ some b) : RowsOf w' B e sz us ls :=
  h.kept (S := (· = b)) (Mod.of_grown hg (fun k hk => by injection hk with hk; exact hk.symm)) (fun i v g hv hvg hS => by
    have hi : i < ls.length := by rw [← h.len]; exact (List.getElem?_eq_some_iff.1 hv).1
    subst hS
    exact hb v _ _ (h.own i v _ hv (List.getElem?_eq_getElem hi)) hvg)
theorem Grp.new_ (h : Grp w B m1 m2 n kf km R fv vs) (hm : New w w') : Grp w' B m1 m2 n kf km R fv vs := ⟨h.rows.new_ hm, h.mg.new_ hm, h.mn.new_ hm, h.ne⟩
theorem Grp.vlen (h : Grp w B m1 m2 n kf km R fv vs) : vs.length = n := by
  have := h.rows.len
  simpa [memRows] using this
theorem Grp.heads (h : Grp w B m1 m2 n kf km R fv vs) : w.ownsRow B 3 1 fv (firsts R kf).length (nats (firsts R kf)) := h.rows.own 0 fv _ rfl rfl
theorem Grp.group (h : Grp w B m1 m2 n kf km R fv vs) {x : Nat} (hx : x < n) : w.ownsRow B 3 1 (vs.getD x nilS) (mem R km x).length (nats (mem R km x)) := by
  have hl : x < vs.length := by rw [h.vlen]; exact hx
  exact h.rows.own (x + 1) _ ((mem R km x).length, nats (mem R km x)) (by simp [List.getD_eq_getElem?_getD, List.getElem?_eq_getElem hl]) (by simp [memRows_at hx])
theorem Grp.skip (h : Grp w B m1 m2 n kf km R fv vs) (hh : isHead R kf = false) : Grp w B m1 m2 n (kf + 1) km R fv vs :=
  ⟨by rw [firsts_skip hh]; exact h.rows, h.mg, (h.mn.mono (by omega)).congr fun x => by rw [numAt_skip hh], h.ne⟩
/-- A head's number has been laid down. -/
theorem Grp.number (h : Grp w B m1 m2 n kf km R fv vs) (hg : w.grownBy w' (some m2)) : RowsOf w' B 3 1 (fv :: vs) (((firsts R kf).length, nats (firsts R kf)) :: memRows R n km) ∧ MapD 3 natVal nilS w' m1 km (fun h => vs.getD h nilS) :=
  ⟨h.rows.besides hg fun v m xs ho => h.mn.ne_own ho, h.mg.kept hg (fun e => h.ne (by injection e))⟩
/-- .. and the head stands behind the others. -/
theorem Grp.head (h : RowsOf w B 3 1 (fv :: vs) (((firsts R kf).length, nats (firsts R kf)) :: memRows R n km)) (hmg : MapD 3 natVal nilS w m1 km (fun h => vs.getD h nilS)) (hmn : MapD 3 natVal (.int .i64 0) w m2 (kf + 1) (updV (numAt R kf) kf (.int .i64 ((firsts R kf).length : Int)))) (hne : m1 ≠ m2)
    (hh : isHead R kf = true) (hg : w.grownBy w' fv.ownBlock) (hown : w'.ownsRow B 3 1 fv' ((firsts R kf).length + 1) (nats (firsts R kf) ++ [.int .i64 (kf : Int)])) (hb : fv'.ownBlock = fv.ownBlock ∨ fv'.ownBlock = some w.heap.size) : Grp w' B m1 m2 n (kf + 1) km R fv' vs := by
  have ho := h.own 0 fv _ rfl rfl
  refine ⟨?_, hmg.kept hg (fun e => hmg.ne_own ho e.symm), ?_, hne⟩
  · have := h.upd (i := 0) (x := ((firsts R kf).length + 1, nats (firsts R kf) ++ [.int .i64 (kf : Int)])) rfl hg hown hb
    rw [firsts_head' hh, nats_append, List.length_append]
    exact this
  · rw [numAt_head hh] at hmn
    exact hmn.kept hg (fun e => hmn.ne_own ho e.symm)
/-- A thing stands behind its group. -/
theorem Grp.thing (h : Grp w B m1 m2 n kf km R fv vs) (hx : R km < n) (hg : w.grownBy w6 (vs.getD (R km) nilS).ownBlock) (hown : w6.ownsRow B 3 1 v' ((mem R km (R km)).length + 1) (nats (mem R km (R km)) ++ [.int .i64 (km : Int)]))
    (hb : v'.ownBlock = (vs.getD (R km) nilS).ownBlock ∨ v'.ownBlock = some w.heap.size) (hmp : MapD 3 natVal nilS w7 m1 (km + 1) (updV (fun h => vs.getD h nilS) (R km) v')) (hg7 : w6.grownBy w7 (some m1)) : Grp w7 B m1 m2 n kf (km + 1) R fv (vs.set (R km) v') := by
  have hl : R km < vs.length := by rw [h.vlen]; exact hx
  have hv : (fv :: vs)[R km + 1]? = some (vs.getD (R km) nilS) := by simp [List.getD_eq_getElem?_getD, List.getElem?_eq_getElem hl]
  have hr6 := h.rows.upd (i := R km + 1) (x := ((mem R km (R km)).length + 1, nats (mem R km (R km)) ++ [.int .i64 (km : Int)])) hv hg hown hb
  have hg1 := h.mg.kept hg (fun e => h.mg.ne_own (h.group hx) e.symm)
  have hg2 := h.mn.kept hg (fun e => h.mn.ne_own (h.group hx) e.symm)
  refine ⟨?_, hmp.congr fun x => ?_, hg2.kept hg7 (fun e => h.ne (by injection e with e; exact e.symm)), h.ne⟩
  · rw [memRows_succ hx]
    exact hr6.besides hg7 fun v m xs ho => hg1.ne_own ho
  · simp only [updV, List.getD_eq_getElem?_getD]
    by_cases e : x = R km
    · subst e; rw [if_pos rfl, List.getElem?_set_self hl]; rfl
    · rw [if_neg e, List.getElem?_set_ne (Ne.symm e)]
theorem Grp.start {n : Nat} (w : World) (R : Nat → Nat) : Grp ((w.alloc (.map #[] 0)).alloc (.map #[] 0)) w.heap.size w.heap.size (w.heap.size + 1) n 0 0 R nilS (List.replicate n nilS) := by
  refine ⟨?_, ?_, ?_, by omega⟩
  · rw [memRows_zero]
    have := RowsOf.nil ((w.alloc (.map #[] 0)).alloc (.map #[] 0)) w.heap.size 3 1 (n + 1)
    exact this
  · refine ((MapD.made w 3 natVal nilS).new_ ((Mod.refl _ _).alloc _)).congr fun x => ?_
    simp only [List.getD_eq_getElem?_getD, List.getElem?_replicate]
    split <;> rfl
  · have := MapD.made (w.alloc (.map #[] 0)) 3 natVal (.int .i64 0)
    rw [numAt_zero]
    simpa using this
end
/-- A look-up in such a map, as an equation. -/
theorem MapD.run {K : Type} {k e t : TypeId} {enc : K → Value} {z : Value} {w : World} {b n : Nat} {f : K → Value} (h : MapD k enc z w b n f) (L : Keyed Tryd.prog k) (ht : Tryd.prog.underlying t = some (.map k e)) (hz : (zeroValue e).run Tryd.prog w = .ok z w) (key : K) {kl : Lit} (hkey : keyOf Tryd.prog k (enc key) = some kl) :
    (Instr.lookup t (.map (some b)) (enc key) false).run Tryd.prog w = .ok (f key) w := by
  obtain ⟨D, hD, r⟩ := h
  obtain ⟨v', ps, hrun, hv⟩ := hD.lookup L ht hz (zd := .held z) (zp := []) rfl hkey
  rw [r key kl hkey] at hv
  simp only [rawElem, Option.some.injEq, Prod.mk.injEq, DataW.held.injEq] at hv
  rw [hrun, hv.1]
theorem Tryd.zeroSl (w : World) : (zeroValue 24).run Tryd.prog w = .ok nilS w := by kernel_rfl
end Go.Proofs.YtkkaejbdekdljaaDoor
