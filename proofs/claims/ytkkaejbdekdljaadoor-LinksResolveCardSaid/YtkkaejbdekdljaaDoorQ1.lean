/- Words and walks, part 1 of 19. -/
import Derived.Below
import Derived.Laws.OwnMore
import Derived.Laws.MakeOwn
import Derived.Deep.Draws
import Derived.Deep.AppendLies
import Derived.Maps.AppendAt
import Derived.Laws.Rows
import Derived.OwnWalk
import Derived.WalkKit
import Derived.WalkSpells
import Derived.WalkLawsBesides
import Derived.KernelRfl
import Derived.Lib.Hide
import Derived.Outline
import Derived.Test.YtkkaejbdekdljaaDoorProg
import Derived.LaidEql
import Derived.Stop.Asserts
import Derived.RowKitTokens
/- Words: blocks that are known whole; what has changed in a world; a slice that reads as a list. -/
set_option linter.unusedVariables false
set_option linter.unusedSimpArgs false
namespace Go.Proofs.YtkkaejbdekdljaaDoor
open Go.RowKit

/-- Block g is just these cells of type t; none is frozen. -/
def Blk (w : World) (g : Nat) (t : TypeId) (cs : List Value) : Prop := w.heap[g]? = some (.cells cs.toArray t (0, 0))

/-- What was there in w and is not in S is as it was. -/
structure Mod (S : Nat → Prop) (w w' : World) : Prop where
  os : w'.os = w.os
  tape : w'.tape = w.tape
  output : w'.output = w.output
  size : w.heap.size ≤ w'.heap.size
  block : ∀ k, k < w.heap.size → ¬ S k → w'.heap[k]? = w.heap[k]?

section
variable {w w' w'' : World} {S S' : Nat → Prop} {g : Nat} {t : TypeId} {cs : List Value}

theorem Blk.lt (h : Blk w g t cs) : g < w.heap.size := by
  rcases Nat.lt_or_ge g w.heap.size with hlt | hge
  · exact hlt
  · unfold Blk at h; rw [Array.getElem?_eq_none hge] at h; cases h
theorem Blk.cell (h : Blk w g t cs) (i : Nat) : w.cell? ⟨g, i, none⟩ = cs[i]? := by
  unfold Blk at h
  simp [World.cell?, h]
theorem Blk.frozen (h : Blk w g t cs) (i : Nat) : w.frozen? ⟨g, i, none⟩ = false := by
  unfold Blk at h
  simp [World.frozen?, h]
theorem Blk.new (w : World) (t : TypeId) (cs : List Value) : Blk (w.alloc (.cells cs.toArray t)) w.heap.size t cs := heap_alloc_new w _
theorem Blk.drew (h : Blk w g t cs) : Blk w.drew g t cs := h
theorem Blk.drewN (h : Blk w g t cs) (n : Nat) : Blk (w.drewN n) g t cs := h
theorem Blk.alloc (h : Blk w g t cs) (o : Obj) : Blk (w.alloc o) g t cs := (Below.heap_alloc w o g h.lt).trans h
theorem Blk.set_ (h : Blk w g t cs) (i : Nat) (u : Value) : Blk (w.setCell ⟨g, i, none⟩ u) g t (cs.set i u) := by
  unfold Blk at h ⊢
  simp [World.setCell, Array.getElem?_modify, h]
theorem Blk.far (h : Blk w g t cs) {p : Addr} (hp : g ≠ p.block) (u : Value) : Blk (w.setCell p u) g t cs := (Below.heap_setCell w p u g hp).trans h
theorem Blk.kept (h : Blk w g t cs) (hm : Mod S w w') (hg : ¬ S g) : Blk w' g t cs := (hm.block g h.lt hg).trans h
theorem Blk.ne_ {g' : Nat} {t' : TypeId} {cs' : List Value} (h : Blk w g t cs) (h' : Blk w g' t' cs') (hne : t ≠ t') : g ≠ g' := by
  rintro rfl
  unfold Blk at h h'
  rw [h] at h'
  injection h' with h'
  injection h' with _ ht
  exact hne ht

theorem Mod.refl (S : Nat → Prop) (w : World) : Mod S w w := ⟨rfl, rfl, rfl, Nat.le_refl _, fun _ _ _ => rfl⟩
theorem Mod.trans (h : Mod S w w') (k : Mod S' w' w'') (hs : ∀ i, i < w.heap.size → S' i → S i) : Mod S w w'' :=
  ⟨k.os.trans h.os, k.tape.trans h.tape, k.output.trans h.output, Nat.le_trans h.size k.size,
    fun i hi hn => (k.block i (Nat.lt_of_lt_of_le hi h.size) (fun hx => hn (hs i hi hx))).trans (h.block i hi hn)⟩
theorem Mod.mono (h : Mod S w w') (hs : ∀ i, i < w.heap.size → S i → S' i) : Mod S' w w' := ⟨h.os, h.tape, h.output, h.size, fun i hi hn => h.block i hi (fun hx => hn (hs i hi hx))⟩
theorem Mod.drew (h : Mod S w w') : Mod S w w'.drew := ⟨h.os, h.tape, h.output, h.size, h.block⟩
theorem Mod.drewN (h : Mod S w w') (n : Nat) : Mod S w (w'.drewN n) := ⟨h.os, h.tape, h.output, h.size, h.block⟩
theorem Mod.alloc (h : Mod S w w') (o : Obj) : Mod S w (w'.alloc o) :=
  ⟨h.os, h.tape, h.output, Nat.le_trans h.size (by simp), fun i hi hn => (Below.heap_alloc w' o i (Nat.lt_of_lt_of_le hi h.size)).trans (h.block i hi hn)⟩
theorem Mod.set_ (h : Mod S w w') {p : Addr} (hp : p.block < w.heap.size → S p.block) (u : Value) : Mod S w (w'.setCell p u) :=
  ⟨h.os, h.tape, h.output, by simpa [World.setCell] using h.size, fun i hi hn => (Below.heap_setCell w' p u i (by
    rintro rfl
    exact hn (hp hi))).trans (h.block i hi hn)⟩
theorem Mod.of_below (h : Below w.heap.size w w') : Mod S w w' := ⟨h.os, h.tape, h.output, h.size, fun i hi _ => h.block i hi⟩
theorem Mod.of_grown {row : Option Nat} (h : w.grownBy w' row) (hs : ∀ k, row = some k → S k) : Mod S w w' :=
  ⟨h.os, h.tape, h.output, h.size, fun i hi hn => h.block i hi (fun e => hn (hs i e.symm))⟩
theorem Mod.below {B : Nat} (h : Mod S w w') (hB : B ≤ w.heap.size) (hs : ∀ k, k < B → ¬ S k) : Below B w w' :=
  ⟨h.os, h.tape, h.output, h.size, fun i hi => h.block i (by omega) (hs i hi)⟩
theorem Mod.cell (h : Mod S w w') {p : Addr} {v : Value} (hc : w.cell? p = some v) (hn : ¬ S p.block) : w'.cell? p = some v :=
  (World.cell?_of_block (w := w) (h.block p.block (World.block_lt_of_cell? w p hc) hn)).trans hc
/-- Nothing old has changed. -/
abbrev New (w w' : World) : Prop := Mod (fun _ => False) w w'
theorem New.trans (h : New w w') (k : New w' w'') : New w w'' := Mod.trans h k (fun _ _ h => h)
theorem Blk.new_ (h : Blk w g t cs) (hm : New w w') : Blk w' g t cs := h.kept hm (fun h => h)
end

theorem mod_set (w : World) (g i : Nat) (u : Value) : Mod (· = g) w (w.setCell ⟨g, i, none⟩ u) := (Mod.refl (· = g) w).set_ (fun _ => rfl) u

theorem block_of_add (a : Addr) (n : Nat) : (a.add n).block = a.block := by unfold Addr.add; split <;> rfl
theorem add_of_add (a : Addr) (i j : Nat) : (a.add i).add j = a.add (i + j) := by
  unfold Addr.add
  by_cases hi : i = 0 <;> by_cases hj : j = 0 <;> simp [hi, hj, Nat.add_assoc]
theorem add_plain (g i j : Nat) : (⟨g, i, none⟩ : Addr).add j = ⟨g, i + j, none⟩ := by unfold Addr.add; split <;> simp_all

/-- A slice (nil, empty or not) of n elements of sz cells each reads as these cells. -/
structure Sl (w : World) (A : Option Addr) (n sz : Nat) (xs : List Value) : Prop where
  len : xs.length = n * sz
  le : n ≤ 9223372036854775807
  cells : 0 < n → ∃ b off, A = some ⟨b, off, none⟩ ∧ ∀ j u, xs[j]? = some u → w.cell? ⟨b, off + j, none⟩ = some u

section
variable {w w' : World} {S : Nat → Prop} {A : Option Addr} {n sz : Nat} {xs : List Value}
theorem Sl.nil (w : World) (A : Option Addr) (sz : Nat) : Sl w A 0 sz [] := ⟨by simp, by omega, fun h => absurd h (by omega)⟩
theorem Sl.new_ (h : Sl w A n sz xs) (hm : New w w') : Sl w' A n sz xs :=
  ⟨h.len, h.le, fun hn => by
    obtain ⟨b, off, e, hc⟩ := h.cells hn
    exact ⟨b, off, e, fun j u hu => hm.cell (hc j u hu) (fun h => h)⟩⟩
theorem Sl.kept (h : Sl w A n sz xs) (hm : Mod S w w') (hs : ∀ ad, A = some ad → ¬ S ad.block) : Sl w' A n sz xs :=
  ⟨h.len, h.le, fun hn => by
    obtain ⟨b, off, e, hc⟩ := h.cells hn
    exact ⟨b, off, e, fun j u hu => hm.cell (hc j u hu) (fun h => hs _ e h)⟩⟩
theorem Sl.at1 {k : Nat} (h : Sl w A n 1 xs) (hk : k < n) : ∃ b off u, A = some ⟨b, off, none⟩ ∧ xs[k]? = some u ∧ w.cell? ⟨b, off + k, none⟩ = some u := by
  obtain ⟨b, off, e, hc⟩ := h.cells (by omega)
  have hl : k < xs.length := by have := h.len; omega
  exact ⟨b, off, xs[k], e, List.getElem?_eq_getElem hl, hc k _ (List.getElem?_eq_getElem hl)⟩
/-- From an address at which cells are known: it names no spot. -/
theorem spot_none {a : Addr} {v : Value} (h : w.cell? a = some v) : a = ⟨a.block, a.off, none⟩ := by
  obtain ⟨b, o, s⟩ := a
  cases s with
  | none => rfl
  | some s => unfold World.cell? at h; split at h <;> simp at h
theorem Sl.of_add (h1 : xs.length = n * sz) (h2 : n ≤ 9223372036854775807) (h3 : 0 < sz) (h4 : 0 < n → ∃ ad, A = some ad ∧ ∀ j u, xs[j]? = some u → w.cell? (ad.add j) = some u) : Sl w A n sz xs :=
  ⟨h1, h2, fun hn => by
    obtain ⟨ad, e, hc⟩ := h4 hn
    have hl : 0 < xs.length := by rw [h1]; exact Nat.mul_pos hn h3
    have h0 := hc 0 xs[0] (List.getElem?_eq_getElem hl)
    have : ad.add 0 = ad := by simp [Addr.add]
    rw [this] at h0
    have hs := spot_none h0
    refine ⟨ad.block, ad.off, by rw [e, ← hs], fun j u hu => ?_⟩
    have := hc j u hu
    rw [hs, add_plain] at this
    exact this⟩
end

def nums (xs : List Int) : List Value := xs.map fun x => .int .i64 x
theorem nums_length (xs : List Int) : (nums xs).length = xs.length := by simp [nums]
theorem nums_append (xs ys : List Int) : nums (xs ++ ys) = nums xs ++ nums ys := by simp [nums]
theorem nums_set (xs : List Int) (i : Nat) (v : Int) : (nums xs).set i (.int .i64 v) = nums (xs.set i v) := by simp [nums, List.map_set]
theorem nums_at (xs : List Int) (k : Nat) : (nums xs)[k]? = (xs[k]?).map (fun x => .int .i64 x) := by simp [nums]
theorem ret_int {k : IntKind} {a b : Int} (h : a = b) : Ending.returned (.int k a) = .returned (.int k b) := by rw [h]
theorem ret_bool {a b : Bool} (h : a = b) : Ending.returned (.bool a) = .returned (.bool b) := by rw [h]
end Go.Proofs.YtkkaejbdekdljaaDoor
/- Words: slices of the call's own; append by one lemma; what is new. -/
set_option linter.unusedVariables false
set_option linter.unusedSimpArgs false
namespace Go.Proofs.YtkkaejbdekdljaaDoor
open Go.RowKit

/-- Type t is a slice of e; an e has so many cells and bytes. -/
structure SlT (P : Program) (t e : TypeId) (size bytes : Nat) : Prop where
  und : P.underlying t = some (.slice e)
  info : ∃ z, (P.info? e).map (fun i => (i.zero, i.size, i.bytes)) = some (some z, size, bytes) ∧ z.cells.size = size
  pos : 0 < size
  posb : 0 < bytes

section
variable {P : Program} {w w1 w2 : World} {t e : TypeId} {size bytes : Nat} {v : Value} {n : Nat} {xs : List Value}

theorem wpList_app {ops : Array Oper} {rest : List Oper} {o : Oper} {a : Act} {Q : Exit → Act → World → Prop} (H : SlT P t e size bytes) (hgd : o.guard = none) (s x : Operand)
    (ho : o.op = .call { callee := .builtin .append, args := #[s, x], argTypes := #[t, t] })
    (base : Nat) (v : Value) (n : Nat) (xs : List Value) (hs : a.eval s = v) (hown : w.ownsRow base e size v n xs)
    (ad : Addr) (m c : Nat) (news : List Value) (hx : a.eval x = .slice (some ad) m c) (hl : news.length = m * size) (hnews : ∀ j u, news[j]? = some u → w.cell? (ad.add j) = some u) (h1 : ∀ u ∈ news, u.oneCell' = true)
    (hbytes : (n + m) * bytes ≤ 140737488355328) (hbase : base ≤ w.heap.size)
    (h : ∀ v' w', w'.ownsRow base e size v' (n + m) (xs ++ news) → w.grownBy w' v.ownBlock → (v'.ownBlock = v.ownBlock ∨ v'.ownBlock = some w.heap.size) → wpList P ops Q rest (a.put o.dst v') w') : wpList P ops Q (o :: rest) a w := by
  obtain ⟨z, hi, hz⟩ := H.info
  obtain ⟨i, hi0, hi1, hi2, hi3⟩ := info_parts hi
  have hm : n + m ≤ maxLen := by
    have : (n + m) * 1 ≤ (n + m) * bytes := Nat.mul_le_mul_left _ H.posb
    unfold maxLen; omega
  exact wpList_append_own_at w hgd s x t ho base e i z size bytes H.und hi0 hi1 hi2 hi3 hz H.pos v n xs hs hown ad m c news hx hl hnews h1 hm hbytes hbase fun v' w' a1 a2 _ a4 => h v' w' a1 a2 a4

theorem cells_new (w : World) (cs : List Value) (t : TypeId) : ∀ j u, cs[j]? = some u → (w.alloc (.cells cs.toArray t)).cell? ((⟨w.heap.size, 0, none⟩ : Addr).add j) = some u := by
  intro j u hu
  rw [add_plain, (Blk.new w t cs).cell]
  simpa using hu
theorem own_nil (w : World) (base : Nat) (e : TypeId) (size : Nat) : w.ownsRow base e size (.slice none 0 0) 0 [] := ⟨by simp, .inl ⟨rfl, rfl⟩⟩
theorem own_shape {base : Nat} (h : w.ownsRow base e size v n xs) : ∃ A c, v = .slice A n c := by
  rcases h.2 with ⟨rfl, rfl⟩ | ⟨g, cap, cur, rfl, _⟩
  · exact ⟨none, 0, rfl⟩
  · exact ⟨_, cap, rfl⟩
theorem own_le {base : Nat} (h : w.ownsRow base e size v n xs) : n ≤ 9223372036854775807 := by
  rcases h.2 with ⟨rfl, rfl⟩ | ⟨g, cap, cur, rfl, _, _, h1, h2, _⟩
  · omega
  · unfold maxLen at h2; omega
theorem own_mono {B B' : Nat} (h : w.ownsRow B e size v n xs) (hb : B' ≤ B) : w.ownsRow B' e size v n xs := by
  refine ⟨h.1, ?_⟩
  rcases h.2 with h0 | ⟨g, cap, cur, h1, h2, r⟩
  · exact .inl h0
  · exact .inr ⟨g, cap, cur, h1, by omega, r⟩
theorem own_sl {A : Option Addr} {c base : Nat} (h : w.ownsRow base e size (.slice A n c) n xs) : Sl w A n size xs := by
  refine ⟨h.1, own_le h, fun hn => ?_⟩
  rcases h.2 with ⟨h1, h2⟩ | ⟨g, cap, cur, h1, _⟩
  · omega
  · injection h1 with h1
    subst h1
    exact ⟨g, 0, rfl, fun j u hu => by have := h.cells (g := g) rfl j u hu; rwa [add_plain] at this⟩
theorem New.grown {base : Nat} (h : New w w1) (hown : w1.ownsRow base e size v n xs) (hb : w.heap.size ≤ base) (hg : w1.grownBy w2 v.ownBlock) : New w w2 :=
  Mod.trans h (Mod.of_grown (S := fun k => v.ownBlock = some k) hg (fun _ h => h)) (fun i hi hs => by
    have := (hown.lt i hs).1
    omega)
theorem own_new {base : Nat} (h : w.ownsRow base e size v n xs) (hm : New w w1) : w1.ownsRow base e size v n xs :=
  h.kept (⟨hm.os, hm.tape, hm.output, hm.size, fun i hi _ => hm.block i hi (fun x => x)⟩ : w.grownBy w1 none) (by cases v.ownBlock <;> simp)
theorem own_other {base : Nat} (h : w.ownsRow base e size v n xs) {row : Option Nat} (hg : w.grownBy w1 row) (hne : v.ownBlock = none ∨ v.ownBlock ≠ row) : w1.ownsRow base e size v n xs := h.kept hg hne
end
end Go.Proofs.YtkkaejbdekdljaaDoor
/- Walks: errors.Is and errors.As at the errors of this project: nil, an Errno, a struct that wraps an Errno, a Fault. -/
set_option linter.unusedVariables false
set_option linter.unusedSimpArgs false
namespace Go.Proofs.YtkkaejbdekdljaaDoor
open Go.RowKit Go.Extern.Stop Go.Stop Go.Extern

theorem run_equalIn_iface_int {P : Program} (w : World) (d : Nat) {ti tn : TypeId} {ms : Array (String × TypeId)} {i : TypeInfo} {k : IntKind} (a b : Int)
    (hi : P.underlying ti = some (.interface ms)) (hn : P.underlying tn = some (.int k)) (hinfo : P.info? tn = some i) (hcomp : i.comparable = true) :
    (Op.equalIn (d + 2) ti (.iface tn (.int k a)) (.iface tn (.int k b))).run P w = .ok (a == b) w := by
  simp [Op.equalIn, run_underlying hi, run_underlying hn, typeInfo, hinfo, hcomp]
theorem run_eql_iface_int {P : Program} (w : World) {ti tn : TypeId} {ms : Array (String × TypeId)} {i : TypeInfo} {k : IntKind} (a b : Int)
    (hi : P.underlying ti = some (.interface ms)) (hn : P.underlying tn = some (.int k)) (hinfo : P.info? tn = some i) (hcomp : i.comparable = true) :
    (binOp .eql ti (.iface tn (.int k a)) (.iface tn (.int k b))).run P w = .ok (.bool (a == b)) w := by
  simp only [binOp]
  simp [Op.equal, Op.maxDepth, run_equalIn_iface_int w 9998 a b hi hn hinfo hcomp]

theorem Tryd.tyErrno (v : Value) (w : World) : (Extern.ReflectliteType.typeOf #[.iface 80 v]).run Tryd.prog w = .ok (.iface 130 (.agg #[.pointer (some ⟨1, 80, none⟩)])) w := by kernel_rfl
abbrev cmpEntry : Array Value → Sem Value := Extern.ReflectliteType.method fun t => do Rtype.noPackHeld "Comparable" t; pure (.bool (← typeInfo t).comparable)
theorem Tryd.cmpErrno (w : World) : (cmpEntry #[.agg #[.pointer (some ⟨1, 80, none⟩)]]).run Tryd.prog w = .ok (.bool true) w := by kernel_rfl
theorem Tryd.infErrno : (Tryd.prog.info? 80).map (·.comparable) = some true := by kernel_rfl
theorem Tryd.noIsErrno (v : Value) (xT : TypeId) (w : World) : (Instr.typeAssert (.iface 80 v) xT 144 true).run Tryd.prog w = .ok (.tuple #[.nilIface, .bool false]) w := run_typeAssert_lacksB Tryd.underlying144 (by kernel_rfl) (by kernel_rfl) v xT w
theorem Tryd.noUnErrno (v : Value) (xT : TypeId) (w : World) : (Instr.typeAssert (.iface 80 v) xT 137 true).run Tryd.prog w = .ok (.tuple #[.nilIface, .bool false]) w := run_typeAssert_lacksB Tryd.underlying137 (by kernel_rfl) (by kernel_rfl) v xT w
theorem Tryd.noUnsErrno (v : Value) (xT : TypeId) (w : World) : (Instr.typeAssert (.iface 80 v) xT 139 true).run Tryd.prog w = .ok (.tuple #[.nilIface, .bool false]) w := run_typeAssert_lacksB Tryd.underlying139 (by kernel_rfl) (by kernel_rfl) v xT w

set_option maxRecDepth 1000000 in
set_option maxHeartbeats 1000000 in
theorem isIn_errno (a b : Int) (w : World) :
    Calls Tryd.prog 75 #[.iface 80 (.int .i64 a), .iface 80 (.int .i64 b), .bool true] w fun e w' => e = .returned (.bool (a == b)) ∧ w' = w := by
  obtain ⟨i, hi, hcmp⟩ := Option.map_eq_some_iff.1 Tryd.infErrno
  have h1 := Tryd.noIsErrno
  have h2 := Tryd.noUnErrno
  have h3 := Tryd.noUnsErrno
  have he := run_eql_iface_int (P := Tryd.prog) w a b Tryd.underlying29 Tryd.underlying80 hi hcmp
  by_cases hab : a = b
  · subst hab
    have hd : (a == a) = true := by simp
    rw [hd] at he
    go_enter Tryd.func75, Tryd.ntmps75
    go_wp2
    refine wp_loop_rounds 1 ?_
    rw [rounds_succ]
    go_wp2
    go_ret
    exact ⟨by simp, rfl⟩
  · have hd : (a == b) = false := by simpa using hab
    rw [hd] at he
    go_enter Tryd.func75, Tryd.ntmps75
    go_wp2
    refine wp_loop_rounds 1 ?_
    rw [rounds_succ]
    go_wp2
    go_ret
    exact ⟨by simp [hd], rfl⟩

theorem Tryd.noIsRef (v : Value) (xT : TypeId) (w : World) : (Instr.typeAssert (.iface 82 v) xT 144 true).run Tryd.prog w = .ok (.tuple #[.nilIface, .bool false]) w := run_typeAssert_lacksB Tryd.underlying144 (by kernel_rfl) (by kernel_rfl) v xT w
theorem Tryd.hasUnRef (v : Value) (xT : TypeId) (w : World) : (Instr.typeAssert (.iface 82 v) xT 137 true).run Tryd.prog w = .ok (.tuple #[.iface 82 v, .bool true]) w := run_typeAssert_hasB Tryd.underlying137 (by kernel_rfl) v xT w

theorem Tryd.unRef (v : Value) (w : World) : (Go.method 279 82 v "Unwrap").run Tryd.prog w = .ok (99, v) w := by kernel_rfl
theorem Tryd.unFault (v : Value) (w : World) : (Go.method 279 88 v "Unwrap").run Tryd.prog w = .ok (101, v) w := by kernel_rfl
theorem Tryd.noIsFault (v : Value) (xT : TypeId) (w : World) : (Instr.typeAssert (.iface 88 v) xT 144 true).run Tryd.prog w = .ok (.tuple #[.nilIface, .bool false]) w := run_typeAssert_lacksB Tryd.underlying144 (by kernel_rfl) (by kernel_rfl) v xT w
theorem Tryd.hasUnFault (v : Value) (xT : TypeId) (w : World) : (Instr.typeAssert (.iface 88 v) xT 137 true).run Tryd.prog w = .ok (.tuple #[.iface 88 v, .bool true]) w := run_typeAssert_hasB Tryd.underlying137 (by kernel_rfl) v xT w

theorem unwrapRef (a : Int) (w : World) : Calls Tryd.prog 99 #[.agg #[.int .i64 a]] w fun e w' => e = .returned (.iface 80 (.int .i64 a)) ∧ New w w' := by
  go_enter Tryd.func99, Tryd.ntmps99
  go_wp2
  go_ret
  exact ⟨rfl, (Mod.refl _ _).alloc _⟩
theorem unwrapFault (a b c : Int) (w : World) : Calls Tryd.prog 101 #[.agg #[.int .i64 a, .int .i64 b, .int .i64 c]] w fun e w' => e = .returned (.iface 80 (.int .i64 a)) ∧ New w w' := by
  go_enter Tryd.func101, Tryd.ntmps101
  go_wp2
  go_ret
  exact ⟨rfl, (Mod.refl _ _).alloc _⟩

set_option maxRecDepth 1000000 in
set_option maxHeartbeats 1000000 in
theorem isIn_ref (a b : Int) (w : World) :
    Calls Tryd.prog 75 #[.iface 82 (.agg #[.int .i64 a]), .iface 80 (.int .i64 b), .bool true] w fun e w' => e = .returned (.bool (a == b)) ∧ New w w' := by
  obtain ⟨i, hi, hcmp⟩ := Option.map_eq_some_iff.1 Tryd.infErrno
  have h1 := Tryd.noIsRef
  have h2 := Tryd.hasUnRef
  have h3 := Tryd.noIsErrno
  have h4 := Tryd.noUnErrno
  have h5 := Tryd.noUnsErrno
  have h6 := Tryd.unRef
  have hty := fun w => run_eql_iface_types (P := Tryd.prog) 82 80 (.agg #[.int .i64 a]) (.int .i64 b) Tryd.underlying29 (by decide) w
  have he := fun w => run_eql_iface_int (P := Tryd.prog) w a b Tryd.underlying29 Tryd.underlying80 hi hcmp
  by_cases hab : (a == b) = true
  all_goals
    try rw [Bool.not_eq_true] at hab
    simp only [hab] at he
    go_enter Tryd.func75, Tryd.ntmps75
    go_wp2
    refine wp_loop_rounds 2 ?_
    rw [rounds_succ]
    go_wp2_with (go_at_call 99; refine (unwrapRef a _).mono ?_; rintro e w1 ⟨rfl, hw1⟩)
    try rw [rounds_succ]
    go_wp2
    go_ret
    exact ⟨by simp [hab], hw1⟩

set_option maxRecDepth 1000000 in
set_option maxHeartbeats 1000000 in
theorem isIn_fault (a l c b : Int) (w : World) :
    Calls Tryd.prog 75 #[.iface 88 (.agg #[.int .i64 a, .int .i64 l, .int .i64 c]), .iface 80 (.int .i64 b), .bool true] w fun e w' => e = .returned (.bool (a == b)) ∧ New w w' := by
  obtain ⟨i, hi, hcmp⟩ := Option.map_eq_some_iff.1 Tryd.infErrno
  have h1 := Tryd.noIsFault
  have h2 := Tryd.hasUnFault
  have h3 := Tryd.noIsErrno
  have h4 := Tryd.noUnErrno
  have h5 := Tryd.noUnsErrno
  have h6 := Tryd.unFault
  have hty := fun w => run_eql_iface_types (P := Tryd.prog) 88 80 (.agg #[.int .i64 a, .int .i64 l, .int .i64 c]) (.int .i64 b) Tryd.underlying29 (by decide) w
  have he := fun w => run_eql_iface_int (P := Tryd.prog) w a b Tryd.underlying29 Tryd.underlying80 hi hcmp
  by_cases hab : (a == b) = true
  all_goals
    try rw [Bool.not_eq_true] at hab
    simp only [hab] at he
    go_enter Tryd.func75, Tryd.ntmps75
    go_wp2
    refine wp_loop_rounds 2 ?_
    rw [rounds_succ]
    go_wp2_with (go_at_call 101; refine (unwrapFault a l c _).mono ?_; rintro e w1 ⟨rfl, hw1⟩)
    try rw [rounds_succ]
    go_wp2
    go_ret
    exact ⟨by simp [hab], hw1⟩

/-- An error of this project that wraps (or is) the number a; m: the place that it tells. -/
inductive Er : Value → Int → Option (Int × Int) → Prop
  | errno (a : Int) : Er (.iface 80 (.int .i64 a)) a none
  | ref (a : Int) : Er (.iface 82 (.agg #[.int .i64 a])) a none
  | fault (a l c : Int) : Er (.iface 88 (.agg #[.int .i64 a, .int .i64 l, .int .i64 c])) a (some (l, c))

theorem isIn_any {v : Value} {a : Int} {m : Option (Int × Int)} (h : Er v a m) (b : Int) (w : World) :
    Calls Tryd.prog 75 #[v, .iface 80 (.int .i64 b), .bool true] w fun e w' => e = .returned (.bool (a == b)) ∧ New w w' := by
  cases h with
  | errno a => exact (isIn_errno a b w).mono fun e w' ⟨h1, h2⟩ => ⟨h1, by rw [h2]; exact Mod.refl _ _⟩
  | ref a => exact isIn_ref a b w
  | fault a l c => exact isIn_fault a l c b w
theorem Er.iface {v : Value} {a : Int} {m : Option (Int × Int)} (h : Er v a m) : ∃ t x, v = .iface t x := by cases h <;> exact ⟨_, _, rfl⟩

theorem Tryd.mCmp (v : Value) (w : World) : (Go.method 279 130 v "Comparable").run Tryd.prog w = .ok (107, v) w := by kernel_rfl
set_option maxRecDepth 1000000 in
set_option maxHeartbeats 1000000 in
theorem is_any {v : Value} {a : Int} {m : Option (Int × Int)} (h : Er v a m) (b : Int) (w : World) :
    Calls Tryd.prog 66 #[v, .iface 80 (.int .i64 b)] w fun e w' => e = .returned (.bool (a == b)) ∧ New w w' := by
  have h1 := Tryd.tyErrno
  have h2 := Tryd.cmpErrno
  have h3 := Tryd.mCmp
  have h4 := @run_callFunc_extern Tryd.prog 74 _ ReflectliteType.typeOf Tryd.func74 (by kernel_rfl) (by kernel_rfl) (by kernel_rfl) (by kernel_rfl)
  have h5 := @run_callFunc_extern Tryd.prog 107 _ cmpEntry Tryd.func107 (by kernel_rfl) (by kernel_rfl) (by kernel_rfl) (by kernel_rfl)
  obtain ⟨t, x, rfl⟩ := h.iface
  go_enter Tryd.func66, Tryd.ntmps66
  go_wp2_with (go_at_call 75; refine (isIn_any h b _).mono ?_; rintro e w1 ⟨rfl, hw1⟩)
  go_ret
  exact ⟨rfl, hw1⟩
set_option maxRecDepth 1000000 in
theorem num_nil (w : World) : Calls Tryd.prog 50 #[.nilIface] w fun e w' => e = .returned (.int .i64 0) ∧ New w w' := by
  go_enter Tryd.func50, Tryd.ntmps50
  go_wp2
  go_ret
  exact ⟨rfl, Mod.refl _ _⟩
def found (a k : Int) : Int := if a < k then a else 0
set_option maxRecDepth 1000000 in
set_option maxHeartbeats 1000000 in
theorem num_any {v : Value} {a : Int} {m : Option (Int × Int)} (h : Er v a m) (h1 : 1 ≤ a) (h24 : a ≤ 24) (w : World) :
    Calls Tryd.prog 50 #[v] w fun e w' => e = .returned (.int .i64 a) ∧ New w w' := by
  obtain ⟨t, x, rfl⟩ := h.iface
  go_enter Tryd.func50, Tryd.ntmps50
  go_wp2
  go_loopw [3, 4] (fun f n wr => ∃ k : Nat, 1 ≤ k ∧ k ≤ 25 ∧ n = .int .i64 (k : Int) ∧ f = .int .i64 (found a k) ∧ New w wr) (fun _ n _ => 25 - (intOf n).toNat)
  case atStart => exact ⟨1, by omega, by omega, rfl, by simp [found]; omega, Mod.refl _ _⟩
  case round =>
    obtain ⟨k, hk1, hk, rfl, rfl, hw⟩ := hrel
    by_cases hlt : k ≤ 24
    · by_cases hak : a = k
      · have hb : (a == (k : Int)) = true := by simp [hak]
        have hf : found a k = 0 := by unfold found; rw [if_neg (by omega)]
        rw [hf]
        have HA := Lib.hid hak
        have HB := Lib.hid hb
        clear hak hb hf
        go_wp2_with (go_at_call 66; refine (is_any h k _).mono ?_; rw [HB.out]; rintro e w1 ⟨rfl, hw1⟩)
        go_roundw
        case rel => exact ⟨k + 1, by omega, by omega, by go_num, by rw [found, if_pos (by have := HA.out; omega), HA.out], hw.trans hw1⟩
        case measure => simp [intOf]; omega
      · have hb : (a == (k : Int)) = false := by simpa using hak
        have hf : found a k = found a (k + 1) := by unfold found; split <;> split <;> omega
        have HA := Lib.hid hak
        have HB := Lib.hid hb
        have HF := Lib.hid hf
        clear hak hb hf
        go_wp2_with (go_at_call 66; refine (is_any h k _).mono ?_; rw [HB.out]; rintro e w1 ⟨rfl, hw1⟩)
        go_roundw
        case rel => exact ⟨k + 1, by omega, by omega, by go_num, by rw [HF.out]; go_num, hw.trans hw1⟩
        case measure => simp [intOf]; omega
    · have hf : found a k = a := by unfold found; rw [if_pos (by omega)]
      have hb : (a == (0 : Int)) = false := by simp; omega
      have hb2 : ((a : Int) == 0) = false := hb
      rw [hf]
      clear hf
      have HB := Lib.hid hb
      go_wp2_with (go_at_call 66; refine (is_any h 0 _).mono ?_; rw [HB.out]; rintro e w1 ⟨rfl, hw1⟩)
      go_ret
      exact ⟨rfl, hw.trans hw1⟩
end Go.Proofs.YtkkaejbdekdljaaDoor
