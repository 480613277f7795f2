/- Words: maps of values as they are, with what is there and what is not: looked up with ok, written, struck, gone through; keys (api.Key). -/
import Derived.Test.YtfifalopbfopnaaGreatDoorProg
import Derived.Test.YtfifalopbfopnaaGreatDoorWe
import Derived.Test.YtfifalopbfopnaaGreatDoorVc
import Derived.Maps.RangeWalk
import Derived.DeepKeys4
set_option linter.unusedVariables false
set_option linter.unusedSimpArgs false
namespace Go.Proofs.YtfifalopbfopnaaGreatDoor
open Go.RowKit Go.Maps

/-- An element reads as itself. -/
def heldElem (v : Value) : Option (DataW Value × List MemPlace) := some (.held v, [])
section
variable {K : Type} {k : TypeId} {enc : K → Value}
/-- What a datum says of the keys. -/
def Tells (k : TypeId) (enc : K → Value) (D : DataW Value) (M : K → Option Value) : Prop :=
  (∀ x kl, keyOf Tryz.prog k (enc x) = some kl → (M x = none → Maps.has D kl = false) ∧ ∀ v, M x = some v → Maps.has D kl = true ∧ ∀ z, D.atKey kl z = .held v) ∧
  (∀ x, M x ≠ none → ∃ kl, keyOf Tryz.prog k (enc x) = some kl)
/-- Block b is a map of at most n entries that holds M. -/
def MapO (k : TypeId) (enc : K → Value) (w : World) (b n : Nat) (M : K → Option Value) : Prop :=
  ∃ D : DataW Value, w.ownsMap Tryz.prog k heldElem b n D ∧ Tells k enc D M
def updO [DecidableEq K] (M : K → Option Value) (x : K) (v : Option Value) : K → Option Value := fun y => if y = x then v else M y
variable {w w' : World} {b n : Nat} {M : K → Option Value}
theorem MapO.made (w : World) (k : TypeId) (enc : K → Value) : MapO k enc (w.alloc (.map #[] 0)) w.heap.size 0 (fun _ => none) :=
  ⟨_, World.ownsMap_made w _ _ _, fun x kl _ => ⟨fun _ => rfl, fun v h => by cases h⟩, fun x h => absurd rfl h⟩
theorem MapO.lt (h : MapO k enc w b n M) : b < w.heap.size := by obtain ⟨D, h, _⟩ := h; exact h.lt
theorem MapO.mod {S : Nat → Prop} (h : MapO k enc w b n M) (hm : Mod S w w') (hs : ¬ S b) : MapO k enc w' b n M := by
  obtain ⟨D, ⟨es, clock, hb, r⟩, q⟩ := h
  exact ⟨D, ⟨es, clock, (hm.block b (Array.getElem?_eq_some_iff.1 hb).1 hs).trans hb, r⟩, q⟩
theorem MapO.new_ (h : MapO k enc w b n M) (hm : New w w') : MapO k enc w' b n M := h.mod hm (fun h => h)
theorem MapO.mono {m : Nat} (h : MapO k enc w b n M) (hn : n ≤ m) : MapO k enc w b m M := by
  obtain ⟨D, h, r⟩ := h
  exact ⟨D, h.mono hn, r⟩
theorem MapO.congr {M' : K → Option Value} (h : MapO k enc w b n M) (e : ∀ x, M' x = M x) : MapO k enc w b n M' := by
  have : M' = M := funext e
  rw [this]; exact h
/-- A map's block holds no cells. -/
theorem MapO.not_cells (h : MapO k enc w b n M) {cs : Array Value} {t : TypeId} {f : Nat × Nat} : w.heap[b]? ≠ some (.cells cs t f) := by
  obtain ⟨D, ⟨es, clock, hb, _⟩, _⟩ := h
  rw [hb]; intro h; cases h
theorem MapO.not_blk {g : Nat} {t : TypeId} {cs : List Value} (h : MapO k enc w b n M) (hb : Blk w g t cs) : g ≠ b := by
  rintro rfl
  exact h.not_cells hb
theorem MapO.ne_own {B : Nat} {e : TypeId} {sz m : Nat} {v : Value} {xs : List Value} (h : MapO k enc w b n M) (ho : w.ownsRow B e sz v m xs) : v.ownBlock ≠ some b := by
  rcases ho.2 with ⟨rfl, _⟩ | ⟨g, cap, cur, rfl, _, hh, _⟩
  · simp [Value.ownBlock]
  · intro e1
    have : g = b := by simpa [Value.ownBlock] using e1
    subst this
    exact h.not_cells hh

variable {ops : Array Oper} {rest : List Oper} {o : Oper} {a : Act} {Q : Exit → Act → World → Prop}
theorem held_inv {v : Value} {d : DataW Value} {ps : List MemPlace} (h : heldElem v = some (d, ps)) : d = .held v := by
  unfold heldElem at h; injection h with h; injection h with h1 _; exact h1.symm
set_option maxRecDepth 100000 in
/-- 'v, ok := m[k]' as a run. -/
theorem MapO.look {e t : TypeId} {z : Value} (h : MapO k enc w b n M) (L : Keyed Tryz.prog k) (ht : Tryz.prog.underlying t = some (.map k e)) (hz : (zeroValue e).run Tryz.prog w = .ok z w)
    (x : K) {kl : Lit} (hkey : keyOf Tryz.prog k (enc x) = some kl) :
    (Instr.lookup t (.map (some b)) (enc x) true).run Tryz.prog w = .ok (match M x with | some v => .tuple #[v, .bool true] | none => .tuple #[z, .bool false]) w := by
  obtain ⟨D, hD, r, _⟩ := h
  obtain ⟨v', ps, hrun, hv⟩ := hD.look_ok L ht hz (zd := .held z) (zp := []) rfl hkey
  have hv2 := held_inv hv
  rw [hrun]
  cases hM : M x with
  | none =>
    have h1 := (r x kl hkey).1 hM
    rw [atKey_of_not_has h1] at hv2
    injection hv2 with hv2
    rw [h1, hv2]
  | some v =>
    obtain ⟨h1, h2⟩ := (r x kl hkey).2 v hM
    rw [h2] at hv2
    injection hv2 with hv2
    rw [h1, hv2]
set_option maxRecDepth 100000 in
theorem wpList_mapO_look {e t : TypeId} {z : Value} (hg : o.guard = none) (m x : Operand) (hop : o.op = Op.lookup t m x true) (L : Keyed Tryz.prog k) (ht : Tryz.prog.underlying t = some (.map k e)) (hz : (zeroValue e).run Tryz.prog w = .ok z w)
    (hm : a.eval m = .map (some b)) (hown : MapO k enc w b n M) (key : K) (hx : a.eval x = enc key) {kl : Lit} (hkey : keyOf Tryz.prog k (enc key) = some kl) (r : Value) (hr : (match M key with | some v => Value.tuple #[v, .bool true] | none => .tuple #[z, .bool false]) = r)
    (hK : wpList Tryz.prog ops Q rest (a.put o.dst r) w) : wpList Tryz.prog ops Q (o :: rest) a w := by
  refine wpList_plain hg fun K' hK' => ?_
  have hrun := hown.look L ht hz key hkey
  rw [hr] at hrun
  unfold Oper.wp
  simp [execOp, hop, hm, hx, hrun, Result.andThen]
  exact hK' _ _ hK
theorem mapTurned_mod {w w' : World} {b : Nat} (h : w.mapTurned w' b) : Mod (· = b) w w' := Mod.of_grown h.grown (fun k e => by injection e with e; exact e.symm)
theorem Tells.put [DecidableEq K] {D : DataW Value} (henc : ∀ x y, enc x = enc y → x = y) (L : Keyed Tryz.prog k) (hM : IsMap D) (h : Tells k enc D M) {x : K} {kl : Lit} (hkey : keyOf Tryz.prog k (enc x) = some kl) (v : Value) : Tells k enc (D.put kl (.held v)) (updO M x (some v)) := by
  refine ⟨fun y ly hy => ?_, fun y hy => ?_⟩
  · by_cases e : y = x
    · subst e
      rw [hkey] at hy; injection hy with hy; subst hy
      have hu : updO M y (some v) y = some v := by simp [updO]
      rw [hu]
      exact ⟨fun h => (nomatch h), fun v' h => by injection h with h; subst h; exact ⟨has_put_same hM (L.key hkey) _, fun z => atKey_put_same hM (L.key hkey) _ _⟩⟩
    · have hne : ly ≠ kl := fun h => e (henc _ _ (L.inj hy (by rw [h]; exact hkey)))
      have hu : updO M x (some v) y = M y := by simp [updO, e]
      rw [hu, has_put_other hne]
      exact ⟨(h.1 y ly hy).1, fun v' hv' => ⟨((h.1 y ly hy).2 v' hv').1, fun z => by rw [atKey_put_other hne]; exact ((h.1 y ly hy).2 v' hv').2 z⟩⟩
  · by_cases e : y = x
    · subst e; exact ⟨_, hkey⟩
    · have hu : updO M x (some v) y = M y := by simp [updO, e]
      rw [hu] at hy; exact h.2 y hy
theorem Tells.del [DecidableEq K] {D : DataW Value} (henc : ∀ x y, enc x = enc y → x = y) (L : Keyed Tryz.prog k) (h : Tells k enc D M) {x : K} {kl : Lit} (hkey : keyOf Tryz.prog k (enc x) = some kl) : Tells k enc (D.del kl) (updO M x none) := by
  refine ⟨fun y ly hy => ?_, fun y hy => ?_⟩
  · by_cases e : y = x
    · subst e
      rw [hkey] at hy; injection hy with hy; subst hy
      have hu : updO M y none y = none := by simp [updO]
      rw [hu]
      exact ⟨fun _ => has_del_same, fun v' h => by cases h⟩
    · have hne : ly ≠ kl := fun h => e (henc _ _ (L.inj hy (by rw [h]; exact hkey)))
      have hu : updO M x none y = M y := by simp [updO, e]
      rw [hu, has_del_other hne]
      exact ⟨(h.1 y ly hy).1, fun v' hv' => ⟨((h.1 y ly hy).2 v' hv').1, fun z => by rw [atKey_del_other hne]; exact ((h.1 y ly hy).2 v' hv').2 z⟩⟩
  · by_cases e : y = x
    · subst e; simp [updO] at hy
    · have hu : updO M x none y = M y := by simp [updO, e]
      rw [hu] at hy; exact h.2 y hy
/-- 'm[k] = v' as a run. -/
theorem MapO.store [DecidableEq K] {e t : TypeId} (henc : ∀ x y, enc x = enc y → x = y) (h : MapO k enc w b n M) (L : Keyed Tryz.prog k) (ht : Tryz.prog.underlying t = some (.map k e)) (hn : n < maxLen) (x : K) {kl : Lit} (hkey : keyOf Tryz.prog k (enc x) = some kl) (v : Value) :
    ∃ w', (Instr.mapUpdate t (.map (some b)) (enc x) v).run Tryz.prog w = .ok () w' ∧ MapO k enc w' b (n + 1) (updO M x (some v)) ∧ w.mapTurned w' b := by
  obtain ⟨D, hD, r⟩ := h
  obtain ⟨w', h1, h2, h3⟩ := hD.store L ht hn hkey (val := v) (d := .held v) (ps := []) rfl
  exact ⟨w', h1, ⟨_, h2, r.put henc L hD.isMap hkey v⟩, h3⟩
set_option maxRecDepth 100000 in
theorem wpList_mapO_put [DecidableEq K] {e t : TypeId} (henc : ∀ x y, enc x = enc y → x = y) (hg : o.guard = none) (m x v : Operand) (hop : o.op = Op.mapUpdate t m x v) (L : Keyed Tryz.prog k) (ht : Tryz.prog.underlying t = some (.map k e))
    (hm : a.eval m = .map (some b)) (hown : MapO k enc w b n M) (hn : n < maxLen) (key : K) (hx : a.eval x = enc key) {kl : Lit} (hkey : keyOf Tryz.prog k (enc key) = some kl) (c : Value) (hv : a.eval v = c)
    (hK : ∀ w', MapO k enc w' b (n + 1) (updO M key (some c)) → w.mapTurned w' b → wpList Tryz.prog ops Q rest (a.put o.dst undef) w') : wpList Tryz.prog ops Q (o :: rest) a w := by
  refine wpList_plain hg fun K' hK' => ?_
  obtain ⟨w', hrun, r1, r2⟩ := hown.store henc L ht hn key hkey c
  unfold Oper.wp
  simp [execOp, hop, hm, hx, hv, hrun, Result.andThen]
  exact hK' _ _ (hK w' r1 r2)
set_option maxRecDepth 100000 in
theorem wpList_mapO_del [DecidableEq K] {e t : TypeId} (henc : ∀ x y, enc x = enc y → x = y) (hg : o.guard = none) (m x : Operand) (hop : o.op = Op.call { callee := Callee.builtin Builtin.delete, args := #[m, x], argTypes := #[t, k] }) (L : Keyed Tryz.prog k) (ht : Tryz.prog.underlying t = some (.map k e))
    (hm : a.eval m = .map (some b)) (hown : MapO k enc w b n M) (key : K) (hx : a.eval x = enc key) {kl : Lit} (hkey : keyOf Tryz.prog k (enc key) = some kl)
    (hK : ∀ w', MapO k enc w' b n (updO M key none) → w.mapTurned w' b → wpList Tryz.prog ops Q rest (a.put o.dst (.tuple #[])) w') : wpList Tryz.prog ops Q (o :: rest) a w := by
  obtain ⟨D, hD, r⟩ := hown
  exact wpList_delete_own w hg m x t k hop e L ht heldElem b n D hm hD _ kl hx hkey (fun w' h1 h2 => hK w' ⟨_, h1, r.del henc L hkey⟩ h2)

/-- A walk over map b by iterator r: these keys have come. -/
def RangeO (k : TypeId) (enc : K → Value) (w : World) (b r n : Nat) (M : K → Option Value) (done : List K) : Prop :=
  ∃ (D : DataW Value) (left : Lit → Bool) (cnt : Nat), w.ranges Tryz.prog k heldElem b r n D left cnt ∧ Tells k enc D M ∧
    (∀ x kl, keyOf Tryz.prog k (enc x) = some kl → (left kl = true ↔ M x ≠ none ∧ x ∉ done)) ∧ done.Nodup ∧ ∀ x, x ∈ done → M x ≠ none
theorem RangeO.owns {r : Nat} {done : List K} (h : RangeO k enc w b r n M done) : MapO k enc w b n M := by
  obtain ⟨D, left, cnt, h1, h2, _⟩ := h
  exact ⟨D, h1.owns, h2⟩
theorem RangeO.mod {r : Nat} {done : List K} {S : Nat → Prop} (h : RangeO k enc w b r n M done) (hm : Mod S w w') (hb : ¬ S b) (hr : ¬ S r) : RangeO k enc w' b r n M done := by
  obtain ⟨D, left, cnt, h1, h2, r⟩ := h
  have hbl := h1.owns.lt
  have hrl := h1.lt
  obtain ⟨es, clock, since, seen, c0, q1, q2, q3, q4, q5, q6⟩ := h1
  exact ⟨D, left, cnt, ⟨es, clock, since, seen, c0, (hm.block _ hbl hb).trans q1, q2, q3, q4, (hm.block _ hrl hr).trans q5, q6⟩, h2, r⟩
theorem RangeO.left_mod {r : Nat} {done : List K} {S : Nat → Prop} (h : RangeO k enc w b r n M done) (hm : Mod S w w') (hb : ¬ S b) (hr : ¬ S r) : w'.rangeLeft b r = w.rangeLeft b r := by
  obtain ⟨D, left, cnt, h1, h2, _⟩ := h
  have hbl := h1.owns.lt
  have hrl := h1.lt
  unfold World.rangeLeft
  rw [hm.block _ hbl hb, hm.block _ hrl hr]
theorem RangeO.lt {r : Nat} {done : List K} (h : RangeO k enc w b r n M done) : r < w.heap.size := by
  obtain ⟨D, left, cnt, h1, _⟩ := h; exact h1.lt
set_option maxRecDepth 100000 in
theorem wpList_range_mapO {e t : TypeId} (hg : o.guard = none) (m : Operand) (hop : o.op = Op.range t m) (L : Keyed Tryz.prog k) (ht : Tryz.prog.underlying t = some (.map k e))
    (hm : a.eval m = .map (some b)) (hown : MapO k enc w b n M)
    (hK : ∀ w', RangeO k enc w' b w.heap.size n M [] → New w w' → w'.heap.size = w.heap.size + 1 → wpList Tryz.prog ops Q rest (a.put o.dst (.pointer (some ⟨w.heap.size, 0, none⟩))) w') :
    wpList Tryz.prog ops Q (o :: rest) a w := by
  obtain ⟨D, hD, r⟩ := hown
  refine wpList_range_own w hg m t hop k e L ht heldElem b n D hm hD (fun w' h1 h2 h3 => hK w' ⟨D, _, _, h1, r, fun x kl hx => ?_, List.nodup_nil, fun x h => by cases h⟩ (Mod.of_grown h2 (fun k e => by cases e)) h3)
  constructor
  · intro hh
    refine ⟨fun hn => ?_, by simp⟩
    rw [(r.1 x kl hx).1 hn] at hh; cases hh
  · rintro ⟨hh, _⟩
    cases hM : M x with
    | none => exact absurd hM hh
    | some v => exact ((r.1 x kl hx).2 v hM).1
set_option maxRecDepth 100000 in
theorem wpList_next_mapO (hg : o.guard = none) (it : Operand) (hop : o.op = Op.next it false) (L : Keyed Tryz.prog k) (henc : ∀ x y, enc x = enc y → x = y) (inv : ∀ key kl, keyOf Tryz.prog k key = some kl → ∃ x, key = enc x) (r : Nat) (done : List K)
    (hit : a.eval it = .pointer (some ⟨r, 0, none⟩)) (h : RangeO k enc w b r n M done)
    (hDone : (∀ x, M x ≠ none → x ∈ done) → wpList Tryz.prog ops Q rest (a.put o.dst (.tuple #[.bool false])) w)
    (hMore : ∀ (x : K) (c : Value) (w' : World), M x = some c → x ∉ done → (∃ kl, keyOf Tryz.prog k (enc x) = some kl) → RangeO k enc w' b r n M (done ++ [x]) → w'.rangeLeft b r < w.rangeLeft b r → Mod (· = r) w w' → w'.heap.size = w.heap.size →
      (Instr.entry (.pointer (some ⟨r, 0, none⟩))).run Tryz.prog w' = .ok (.tuple #[enc x, c]) w' → wpList Tryz.prog ops Q rest (a.put o.dst (.tuple #[.bool true, enc x, c])) w') :
    wpList Tryz.prog ops Q (o :: rest) a w := by
  obtain ⟨D, left, cnt, h1, h2, h3, h4, h5⟩ := h
  refine wpList_next_ranges w hg it hop k L heldElem enc (fun v => v) inv (fun v y _ => ⟨v, rfl⟩) b r n D left cnt hit h1 (fun h0 hl => hDone fun x hx => ?_) (fun x c kl y w' cnt' hkey hl hc hat hrg hlt hgr hsz hen => ?_)
  · obtain ⟨kl, hkl⟩ := h2.2 x hx
    rcases Classical.em (x ∈ done) with hm | hm
    · exact hm
    · have := (h3 x kl hkl).2 ⟨hx, hm⟩
      rw [hl kl] at this; cases this
  · obtain ⟨hx, hnd⟩ := (h3 x kl hkey).1 hl
    have hMx : M x = some c := by
      cases hM : M x with
      | none => exact absurd hM hx
      | some v =>
        have e1 := ((h2.1 x kl hkey).2 v hM).2 (.held v)
        rw [hat] at e1
        have e2 := held_inv (show heldElem c = some (y.1, y.2) from hc)
        rw [e1] at e2
        injection e2 with e2
        rw [e2]
    refine hMore x c w' hMx hnd ⟨kl, hkey⟩ ⟨D, _, cnt', hrg, h2, fun x' kl' hx' => ?_, ?_, ?_⟩ (by rw [hrg.left_eq, h1.left_eq]; exact hlt) (Mod.of_grown hgr (fun k e => by injection e with e; exact e.symm)) hsz hen
    · by_cases e : x' = x
      · subst e
        rw [hkey] at hx'; injection hx' with hx'; subst hx'
        simp [WideAt.sameKey_self (L.key hkey)]
      · have hne : kl' ≠ kl := fun hk => e (henc _ _ (L.inj hx' (by rw [hk]; exact hkey)))
        have h6 := h3 x' kl' hx'
        simp only [sameKey_ne hne, Bool.not_false, Bool.and_true, List.mem_append, List.mem_singleton, e, or_false]
        exact h6
    · rw [List.nodup_append]
      refine ⟨h4, by simp, fun p hp q hq => ?_⟩
      simp at hq; subst hq
      intro e; subst e; exact hnd hp
    · intro z hz
      rcases List.mem_append.1 hz with hz | hz
      · exact h5 z hz
      · simp at hz; subst hz; exact hx
end

/-! ### keys -/
def keyVal (p : Key2) : Value := .agg #[.int .i64 p.1, .int .i64 p.2]
theorem keyVal_inj (x y : Key2) (h : keyVal x = keyVal y) : x = y := by
  obtain ⟨a, b⟩ := x
  obtain ⟨a', b'⟩ := y
  simpa [keyVal] using h
theorem Tryz.laidOutK : laidOutB Tryz.prog = true := by kernel_rfl
theorem Tryz.keyedKey : Keyed Tryz.prog 33 := Keyed.of_law (deep_law_laid Tryz.laidOutK (m := 4) (by decide) (by rw [show Tryz.prog.types.size = 233 from by kernel_rfl]; decide) (by kernel_rfl) (by kernel_rfl))
def KeyWf (p : Key2) : Prop := (Lit.int .i64 p.1).wf = true ∧ (Lit.int .i64 p.2).wf = true
theorem Tryz.kkInt (d : Nat) {x : Int} (h : (Lit.int .i64 x).wf = true) : Tryz.prog.keyLits (d + 1) 3 [.int .i64 x] = some [.int .i64 x] := by
  unfold Program.keyLits; rw [Tryz.underlying3]; simp [h]
theorem Tryz.cellsKey : Tryz.prog.cellsOf 33 = 2 := by kernel_rfl
theorem Tryz.cellsIntK : Tryz.prog.cellsOf 3 = 1 := by kernel_rfl
theorem Tryz.kkKey (d : Nat) {x0 x1 : Int} (h0 : (Lit.int .i64 x0).wf = true) (h1 : (Lit.int .i64 x1).wf = true) :
    Tryz.prog.keyLits (d + 2) 33 [.int .i64 x0, .int .i64 x1] = some [.int .i64 x0, .int .i64 x1] := by
  have k0 := Tryz.kkInt d h0
  have k1 := Tryz.kkInt d h1
  unfold Program.keyLits
  rw [Tryz.underlying33, Tryz.cellsKey]
  simp [Tryz.cellsIntK, k0, k1]
theorem Tryz.keyOfKey {p : Key2} (h : KeyWf p) : ∃ kl, keyOf Tryz.prog 33 (keyVal p) = some kl := by
  obtain ⟨x0, x1⟩ := p
  obtain ⟨h0, h1⟩ := h
  unfold keyOf
  rw [Tryz.underlying33]
  have e1 : Tryz.prog.keyType 33 = true := by kernel_rfl
  obtain ⟨d, hd⟩ : ∃ d, Tryz.prog.types.size + 1 = d + 2 := ⟨233 - 1, by rw [show Tryz.prog.types.size = 233 from by kernel_rfl]⟩
  have e6 : (keyVal (x0, x1)).formed Tryz.prog 33 = true := by
    unfold Value.formed keyVal; simp only [Tryz.underlying33, Tryz.cellsKey]; rfl
  rw [hd]
  simp only [e1, e6, Bool.and_self, if_true]
  have hk := Tryz.kkKey d h0 h1
  simp only [Value.cells, keyVal]
  rw [hk]
  exact ⟨_, rfl⟩
def numVal (x : Int) : Value := .int .i64 x
theorem numVal_inj (x y : Int) (h : numVal x = numVal y) : x = y := by injection h
theorem Tryz.keyedNum : Keyed Tryz.prog 3 := int_keyed Tryz.underlying3
theorem Tryz.keyOfNum {x : Int} (h : (Lit.int .i64 x).wf = true) : keyOf Tryz.prog 3 (numVal x) = some (.int .i64 x) := keyOf_int_mk Tryz.underlying3 h
theorem Tryz.numInv (key : Value) (kl : Lit) (h : keyOf Tryz.prog 3 key = some kl) : ∃ x, key = numVal x := by
  obtain ⟨x, e, _⟩ := keyOf_int_inv Tryz.underlying3 h
  exact ⟨x, e⟩
set_option maxRecDepth 100000 in
theorem Tryz.kkInv (d : Nat) {a : Value} {ls : List Lit} (h : Tryz.prog.keyLits (d + 1) 3 [a] = some ls) : ∃ x, a = .int .i64 x ∧ (Lit.int .i64 x).wf = true := by
  unfold Program.keyLits at h
  rw [Tryz.underlying3] at h
  cases a <;> simp at h
  obtain ⟨⟨h1, h2⟩, _⟩ := h
  exact ⟨_, by rw [h1], h2⟩
set_option maxRecDepth 100000 in
theorem Tryz.keyInv2 (key : Value) (kl : Lit) (h : keyOf Tryz.prog 33 key = some kl) : ∃ x, key = keyVal x ∧ KeyWf x := by
  unfold keyOf at h
  rw [Tryz.underlying33] at h
  simp only at h
  split at h
  · rename_i hc
    simp only [Bool.and_eq_true] at hc
    obtain ⟨_, hf⟩ := hc
    obtain ⟨ls, hl, _⟩ := Option.map_eq_some_iff.1 h
    cases key with
    | agg cs =>
      unfold Value.formed at hf
      simp only [Tryz.underlying33, Tryz.cellsKey, beq_iff_eq] at hf
      obtain ⟨cs⟩ := cs
      match cs, hf with
      | [x, y], _ =>
        obtain ⟨d, hd⟩ : ∃ d, Tryz.prog.types.size + 1 = d + 2 := ⟨233 - 1, by rw [show Tryz.prog.types.size = 233 from by kernel_rfl]⟩
        rw [hd] at hl
        unfold Program.keyLits at hl
        rw [Tryz.underlying33, Tryz.cellsKey] at hl
        simp [Value.cells, Tryz.cellsIntK] at hl
        obtain ⟨l1, h1, h2⟩ := Option.bind_eq_some_iff.1 hl
        obtain ⟨l2, h3, h4⟩ := Option.map_eq_some_iff.1 h2
        obtain ⟨l3, h5, h6⟩ := Option.bind_eq_some_iff.1 h3
        obtain ⟨l4, h7, h8⟩ := Option.bind_eq_some_iff.1 h5
        obtain ⟨p, rfl, hp⟩ := Tryz.kkInv d h1
        obtain ⟨q, rfl, hq⟩ := Tryz.kkInv d h7
        exact ⟨(p, q), rfl, hp, hq⟩
    | _ => unfold Value.formed at hf; simp [Tryz.underlying33] at hf
  · cases h
theorem Tryz.keyInv (key : Value) (kl : Lit) (h : keyOf Tryz.prog 33 key = some kl) : ∃ x, key = keyVal x := by
  obtain ⟨x, e, _⟩ := Tryz.keyInv2 key kl h; exact ⟨x, e⟩
end Go.Proofs.YtfifalopbfopnaaGreatDoor
