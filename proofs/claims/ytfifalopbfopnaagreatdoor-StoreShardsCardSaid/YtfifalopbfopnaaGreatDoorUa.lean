/- Walks: errors.Is, errors.As and Plain at nil and at an Errno. -/
import Derived.Test.YtfifalopbfopnaaGreatDoorProg
import Derived.Deep.QuietTactic
import Derived.BigQuiet
import Derived.Deep.RegionHeld3
import Derived.Test.YtfifalopbfopnaaGreatDoorWb
import Derived.LaidEql
import Derived.Stop.Asserts
import Derived.RowKitTokens
set_option linter.unusedVariables false
set_option linter.unusedSimpArgs false
namespace Go.Proofs.YtfifalopbfopnaaGreatDoor
open Go.RowKit Go.Extern.Stop Go.Stop Go.Extern

theorem run_equalIn_iface_int {P : Program} (w : World) (d : Nat) {ti tn : TypeId} {ms : Array (String × TypeId)} {i : TypeInfo} {k : IntKind} (a b : Int)
    (hi : P.underlying ti = some (.interface ms)) (hn : P.underlying tn = some (.int k)) (hinfo : P.info? tn = some i) (hcomp : i.comparable = true) :
    (Op.equalIn (d + 2) ti (.iface tn (.int k a)) (.iface tn (.int k b))).run P w = .ok (a == b) w := by
  simp [Op.equalIn, run_underlying hi, run_underlying hn, typeInfo, hinfo, hcomp]
theorem run_eql_iface_int {P : Program} (w : World) {ti tn : TypeId} {ms : Array (String × TypeId)} {i : TypeInfo} {k : IntKind} (a b : Int)
    (hi : P.underlying ti = some (.interface ms)) (hn : P.underlying tn = some (.int k)) (hinfo : P.info? tn = some i) (hcomp : i.comparable = true) :
    (binOp .eql ti (.iface tn (.int k a)) (.iface tn (.int k b))).run P w = .ok (.bool (a == b)) w := by
  simp only [binOp]
  simp [Op.equal, Op.maxDepth, run_equalIn_iface_int w 9998 a b hi hn hinfo hcomp]

theorem Tryz.tyErrno (v : Value) (w : World) : (Extern.ReflectliteType.typeOf #[.iface 100 v]).run Tryz.prog w = .ok (.iface 176 (.agg #[.pointer (some ⟨1, 100, none⟩)])) w := by kernel_rfl
abbrev cmpEntry : Array Value → Sem Value := Extern.ReflectliteType.method fun t => do Rtype.noPackHeld "Comparable" t; pure (.bool (← typeInfo t).comparable)
theorem Tryz.cmpErrno (w : World) : (cmpEntry #[.agg #[.pointer (some ⟨1, 100, none⟩)]]).run Tryz.prog w = .ok (.bool true) w := by kernel_rfl
theorem Tryz.infErrno : (Tryz.prog.info? 100).map (·.comparable) = some true := by kernel_rfl
theorem Tryz.noIsErrno (v : Value) (xT : TypeId) (w : World) : (Instr.typeAssert (.iface 100 v) xT 188 true).run Tryz.prog w = .ok (.tuple #[.nilIface, .bool false]) w := run_typeAssert_lacksB Tryz.underlying188 (by kernel_rfl) (by kernel_rfl) v xT w
theorem Tryz.noUnErrno (v : Value) (xT : TypeId) (w : World) : (Instr.typeAssert (.iface 100 v) xT 183 true).run Tryz.prog w = .ok (.tuple #[.nilIface, .bool false]) w := run_typeAssert_lacksB Tryz.underlying183 (by kernel_rfl) (by kernel_rfl) v xT w
theorem Tryz.noUnsErrno (v : Value) (xT : TypeId) (w : World) : (Instr.typeAssert (.iface 100 v) xT 185 true).run Tryz.prog w = .ok (.tuple #[.nilIface, .bool false]) w := run_typeAssert_lacksB Tryz.underlying185 (by kernel_rfl) (by kernel_rfl) v xT w

set_option maxRecDepth 1000000 in
set_option maxHeartbeats 1000000 in
theorem isIn_errno (a b : Int) (w : World) :
    Calls Tryz.prog 95 #[.iface 100 (.int .i64 a), .iface 100 (.int .i64 b), .bool true] w fun e w' => e = .returned (.bool (a == b)) ∧ w' = w := by
  obtain ⟨i, hi, hcmp⟩ := Option.map_eq_some_iff.1 Tryz.infErrno
  have h1 := Tryz.noIsErrno
  have h2 := Tryz.noUnErrno
  have h3 := Tryz.noUnsErrno
  have he := run_eql_iface_int (P := Tryz.prog) w a b Tryz.underlying55 Tryz.underlying100 hi hcmp
  by_cases hab : a = b
  · subst hab
    have hd : (a == a) = true := by simp
    rw [hd] at he
    go_enter Tryz.func95, Tryz.ntmps95
    go_wp2
    refine wp_loop_rounds 1 ?_
    rw [rounds_succ]
    go_wp2
    go_ret
    exact ⟨by simp, rfl⟩
  · have hd : (a == b) = false := by simpa using hab
    rw [hd] at he
    go_enter Tryz.func95, Tryz.ntmps95
    go_wp2
    refine wp_loop_rounds 1 ?_
    rw [rounds_succ]
    go_wp2
    go_ret
    exact ⟨by simp [hd], rfl⟩

/-- An error of this project that wraps (or is) the number a; m: the place that it tells. -/
inductive Er : Value → Int → Option (Int × Int) → Prop
  | errno (a : Int) : Er (.iface 100 (.int .i64 a)) a none

theorem isIn_any {v : Value} {a : Int} {m : Option (Int × Int)} (h : Er v a m) (b : Int) (w : World) :
    Calls Tryz.prog 95 #[v, .iface 100 (.int .i64 b), .bool true] w fun e w' => e = .returned (.bool (a == b)) ∧ New w w' := by
  cases h with
  | errno a => exact (isIn_errno a b w).mono fun e w' ⟨h1, h2⟩ => ⟨h1, by rw [h2]; exact Mod.refl _ _⟩
theorem Er.iface {v : Value} {a : Int} {m : Option (Int × Int)} (h : Er v a m) : ∃ t x, v = .iface t x := by cases h <;> exact ⟨_, _, rfl⟩

theorem Tryz.mCmp (v : Value) (w : World) : (Go.method 333 176 v "Comparable").run Tryz.prog w = .ok (154, v) w := by kernel_rfl
set_option maxRecDepth 1000000 in
set_option maxHeartbeats 1000000 in
theorem is_any {v : Value} {a : Int} {m : Option (Int × Int)} (h : Er v a m) (b : Int) (w : World) :
    Calls Tryz.prog 69 #[v, .iface 100 (.int .i64 b)] w fun e w' => e = .returned (.bool (a == b)) ∧ New w w' := by
  have h1 := Tryz.tyErrno
  have h2 := Tryz.cmpErrno
  have h3 := Tryz.mCmp
  have h4 := @run_callFunc_extern Tryz.prog 94 _ ReflectliteType.typeOf Tryz.func94 (by kernel_rfl) (by kernel_rfl) (by kernel_rfl) (by kernel_rfl)
  have h5 := @run_callFunc_extern Tryz.prog 154 _ cmpEntry Tryz.func154 (by kernel_rfl) (by kernel_rfl) (by kernel_rfl) (by kernel_rfl)
  obtain ⟨t, x, rfl⟩ := h.iface
  go_enter Tryz.func69, Tryz.ntmps69
  go_wp2_with (go_at_call 95; refine (isIn_any h b _).mono ?_; rintro e w1 ⟨rfl, hw1⟩)
  go_ret
  exact ⟨rfl, hw1⟩
set_option maxRecDepth 1000000 in
theorem num_nil (w : World) : Calls Tryz.prog 30 #[.nilIface] w fun e w' => e = .returned (.int .i64 0) ∧ New w w' := by
  go_enter Tryz.func30, Tryz.ntmps30
  go_wp2
  go_ret
  exact ⟨rfl, Mod.refl _ _⟩
def found (a k : Int) : Int := if a < k then a else 0
set_option maxRecDepth 1000000 in
set_option maxHeartbeats 1000000 in
theorem num_any {v : Value} {a : Int} {m : Option (Int × Int)} (h : Er v a m) (h1 : 1 ≤ a) (h24 : a ≤ 24) (w : World) :
    Calls Tryz.prog 30 #[v] w fun e w' => e = .returned (.int .i64 a) ∧ New w w' := by
  obtain ⟨t, x, rfl⟩ := h.iface
  go_enter Tryz.func30, Tryz.ntmps30
  go_wp2
  go_loopw [3, 4] (fun f n wr => ∃ k : Nat, 1 ≤ k ∧ k ≤ 25 ∧ n = .int .i64 (k : Int) ∧ f = .int .i64 (found a k) ∧ New w wr) (fun _ n _ => 25 - (intOf n).toNat)
  case atStart => exact ⟨1, by omega, by omega, rfl, by simp [found]; omega, Mod.refl _ _⟩
  case round =>
    obtain ⟨k, hk1, hk, rfl, rfl, hw⟩ := hrel
    by_cases hlt : k ≤ 24
    · by_cases hak : a = k
      · have hb : (a == (k : Int)) = true := by simp [hak]
        have hf : found a k = 0 := by unfold found; rw [if_neg (by omega)]
        rw [hf]
        have HA := Lib.hid hak
        have HB := Lib.hid hb
        clear hak hb hf
        go_wp2_with (go_at_call 69; refine (is_any h k _).mono ?_; rw [HB.out]; rintro e w1 ⟨rfl, hw1⟩)
        go_roundw
        case rel => exact ⟨k + 1, by omega, by omega, by go_num, by rw [found, if_pos (by have := HA.out; omega), HA.out], hw.trans hw1⟩
        case measure => simp [intOf]; omega
      · have hb : (a == (k : Int)) = false := by simpa using hak
        have hf : found a k = found a (k + 1) := by unfold found; split <;> split <;> omega
        have HA := Lib.hid hak
        have HB := Lib.hid hb
        have HF := Lib.hid hf
        clear hak hb hf
        go_wp2_with (go_at_call 69; refine (is_any h k _).mono ?_; rw [HB.out]; rintro e w1 ⟨rfl, hw1⟩)
        go_roundw
        case rel => exact ⟨k + 1, by omega, by omega, by go_num, by rw [HF.out]; go_num, hw.trans hw1⟩
        case measure => simp [intOf]; omega
    · have hf : found a k = a := by unfold found; rw [if_pos (by omega)]
      have hb : (a == (0 : Int)) = false := by simp; omega
      have hb2 : ((a : Int) == 0) = false := hb
      rw [hf]
      clear hf
      have HB := Lib.hid hb
      go_wp2_with (go_at_call 69; refine (is_any h 0 _).mono ?_; rw [HB.out]; rintro e w1 ⟨rfl, hw1⟩)
      go_ret
      exact ⟨rfl, hw.trans hw1⟩
/-- The listed variable errors.errorType. -/
def ErrVar (w : World) : Prop := w.cell? ⟨0, 0, none⟩ = some (.iface 176 (.agg #[.pointer (some ⟨1, 55, none⟩)]))
theorem ErrVar.new_ {w w' : World} (h : ErrVar w) (hm : New w w') : ErrVar w' := hm.cell h (fun h => h)
theorem ErrVar.lt {w : World} (h : ErrVar w) : 0 < w.heap.size := World.block_lt_of_cell? w _ h

theorem Tryz.valueOfP (t : Addr) (w : World) : (ReflectliteValue.unpack (.iface 104 (.pointer (some t)))).run Tryz.prog w
    = .ok (.agg #[.pointer (some ⟨1, 104, none⟩), .pointer (some ⟨w.heap.size, 0, none⟩), .int .u64 150]) (w.alloc (.cells #[.pointer (some t)] 104)) := by kernel_rfl
theorem Tryz.typeP (a : Addr) (w : World) : (ReflectliteValue.methodAny (ReflectliteValue.valueError "reflectlite.Value.Type" 0) (fun t _ _ _ => ReflectliteType.toType t) #[.agg #[.pointer (some ⟨1, 104, none⟩), .pointer (some a), .int .u64 150]]).run Tryz.prog w
    = .ok (.iface 176 (.agg #[.pointer (some ⟨1, 104, none⟩)])) w := by kernel_rfl
theorem Tryz.methodKind (h : Value) (w : World) : (Go.method 333 176 (.agg #[h]) "Kind").run Tryz.prog w = .ok (142, h) w := by kernel_rfl
theorem Tryz.kindP (w : World) : ((ReflectliteType.abiMethod fun t => (fun a : Nat => Value.int IntKind.u8 (a : Int)) <$> Rtype.kind t) #[.pointer (some ⟨1, 104, none⟩)]).run Tryz.prog w = .ok (.int .u8 22) w := by kernel_rfl
theorem Tryz.kindF (w : World) : ((ReflectliteType.abiMethod fun t => (fun a : Nat => Value.int IntKind.u8 (a : Int)) <$> Rtype.kind t) #[.pointer (some ⟨1, 102, none⟩)]).run Tryz.prog w = .ok (.int .u8 25) w := by kernel_rfl

theorem rlm (z : Sem Value) (f : TypeId → Addr → Nat → Nat → Sem Value) (v : Value) :
    ReflectliteValue.method z f #[v] = (do match ← ReflectliteValue.parts v with | none => z | some (t, a, fl) => f t a fl (fl % 32)) := rfl
theorem Tryz.partsP (a : Addr) (w : World) : (ReflectliteValue.parts (.agg #[.pointer (some ⟨1, 104, none⟩), .pointer (some a), .int .u64 150])).run Tryz.prog w = .ok (some (104, a, 150)) w := by kernel_rfl
theorem Tryz.isNilP (a p : Addr) (W : World) (ha : W.cell? a = some (.pointer (some p))) :
    (ReflectliteValue.method (ReflectliteValue.valueError "reflectlite.Value.IsNil" 0) ReflectliteValue.isNil #[.agg #[.pointer (some ⟨1, 104, none⟩), .pointer (some a), .int .u64 150]]).run Tryz.prog W = .ok (.bool false) W := by
  rw [rlm]
  simp only [Sem.run_bind, Tryz.partsP, Result.andThen]
  simp [ReflectliteValue.isNil, loadVar, isAgg, underlying, Tryz.underlying104, ha, Result.andThen]

theorem Tryz.methodElem (h : Value) (w : World) : (Go.method 333 176 (.agg #[h]) "Elem").run Tryz.prog w = .ok (155, .agg #[h]) w := by kernel_rfl
theorem Tryz.methodImplements (h : Value) (w : World) : (Go.method 333 176 (.agg #[h]) "Implements").run Tryz.prog w = .ok (156, .agg #[h]) w := by kernel_rfl
theorem Tryz.methodAssignableTo (h : Value) (w : World) : (Go.method 333 176 (.agg #[h]) "AssignableTo").run Tryz.prog w = .ok (153, .agg #[h]) w := by kernel_rfl
theorem Tryz.elemP (w : World) : (ReflectliteType.method ReflectliteType.elem #[.agg #[.pointer (some ⟨1, 104, none⟩)]]).run Tryz.prog w = .ok (.iface 176 (.agg #[.pointer (some ⟨1, 102, none⟩)])) w := by kernel_rfl
theorem Tryz.implementsF (w : World) : (ReflectliteType.relation "Implements" ReflectliteType.implements_ #[.agg #[.pointer (some ⟨1, 102, none⟩)], .iface 176 (.agg #[.pointer (some ⟨1, 55, none⟩)])]).run Tryz.prog w = .ok (.bool true) w := by kernel_rfl
theorem Tryz.typeOfE (v : Value) (w : World) : (ReflectliteType.typeOf #[.iface 100 v]).run Tryz.prog w = .ok (.iface 176 (.agg #[.pointer (some ⟨1, 100, none⟩)])) w := by kernel_rfl
theorem Tryz.asgE (w : World) : (ReflectliteType.relation "AssignableTo" ReflectliteType.assignableTo #[.agg #[.pointer (some ⟨1, 100, none⟩)], .iface 176 (.agg #[.pointer (some ⟨1, 102, none⟩)])]).run Tryz.prog w = .ok (.bool false) w := by kernel_rfl
theorem Tryz.noAsE (v : Value) (xT : TypeId) (w : World) : (Instr.typeAssert (.iface 100 v) xT 180 true).run Tryz.prog w = .ok (.tuple #[.nilIface, .bool false]) w := run_typeAssert_lacksB Tryz.underlying180 (by kernel_rfl) (by kernel_rfl) v xT w
set_option maxHeartbeats 4000000 in
set_option maxRecDepth 1000000 in
theorem asIn_errno (a : Int) (tv : Value) (s : Nat) (w : World) :
    Calls Tryz.prog 93 #[.iface 100 (.int .i64 a), tv, .agg #[.pointer (some ⟨1, 104, none⟩), .pointer (some ⟨s, 0, none⟩), .int .u64 150], .iface 176 (.agg #[.pointer (some ⟨1, 102, none⟩)])] w fun ev w' => ev = .returned (.bool false) ∧ New w w' := by
  have h10 := @run_callFunc_extern Tryz.prog 94 _ ReflectliteType.typeOf Tryz.func94 (by kernel_rfl) (by kernel_rfl) (by kernel_rfl) (by kernel_rfl)
  have h35 := @run_callFunc_extern Tryz.prog 153 _ (ReflectliteType.relation "AssignableTo" ReflectliteType.assignableTo) Tryz.func153 (by kernel_rfl) (by kernel_rfl) (by kernel_rfl) (by kernel_rfl)
  have tO := Tryz.typeOfE
  have mA := Tryz.methodAssignableTo
  have aF := Tryz.asgE
  have n1 := Tryz.noAsE
  have n2 := Tryz.noUnErrno
  have n3 := Tryz.noUnsErrno
  go_enter Tryz.func93, Tryz.ntmps93
  go_wp2
  refine wp_loop_rounds 1 ?_
  rw [rounds_succ]
  go_wp2
  go_ret
  exact ⟨rfl, (Mod.refl _ _).alloc _⟩
/-- What lies at the target behind errors.As. -/
def AsCells (m : Option (Int × Int)) (a : Int) (cs : List Value) : List Value :=
  match m with
  | none => cs
  | some (l, c) => [.int .i64 a, .int .i64 l, .int .i64 c]
/-- What errors.As does at a target of this project's. -/
abbrev AsPost (m : Option (Int × Int)) (a : Int) (t : Nat) (cs : List Value) (w : World) (ev : Ending) (w' : World) : Prop :=
  ev = .returned (.bool m.isSome) ∧ Blk w' t 102 (AsCells m a cs) ∧ Mod (· = t) w w'
theorem asIn_any {v : Value} {a : Int} {m : Option (Int × Int)} (h : Er v a m) (x y z : Int) (t s : Nat) (w : World) (ht : Blk w t 102 [.int .i64 x, .int .i64 y, .int .i64 z]) (hs : w.cell? ⟨s, 0, none⟩ = some (.pointer (some ⟨t, 0, none⟩))) :
    Calls Tryz.prog 93 #[v, .iface 104 (.pointer (some ⟨t, 0, none⟩)), .agg #[.pointer (some ⟨1, 104, none⟩), .pointer (some ⟨s, 0, none⟩), .int .u64 150], .iface 176 (.agg #[.pointer (some ⟨1, 102, none⟩)])] w (AsPost m a t [.int .i64 x, .int .i64 y, .int .i64 z] w) := by
  cases h with
  | errno a => exact (asIn_errno a _ s w).mono fun e w' ⟨h1, h2⟩ => ⟨h1, ht.new_ h2, Mod.mono h2 (fun _ _ h => h.elim)⟩

set_option maxHeartbeats 4000000 in
set_option maxRecDepth 1000000 in
theorem as_any {v : Value} {a : Int} {m : Option (Int × Int)} (h : Er v a m) (x y z : Int) (t : Nat) (w : World) (hg : ErrVar w) (ht : Blk w t 102 [.int .i64 x, .int .i64 y, .int .i64 z]) :
    Calls Tryz.prog 68 #[v, .iface 104 (.pointer (some ⟨t, 0, none⟩))] w (AsPost m a t [.int .i64 x, .int .i64 y, .int .i64 z] w) := by
  have h6 := @run_callFunc_extern Tryz.prog 90 _ (fun args => ReflectliteValue.unpack (args.getD 0 (.tuple #[]))) Tryz.func90 (by kernel_rfl) (by kernel_rfl) (by kernel_rfl) (by kernel_rfl)
  have h7 := @run_callFunc_extern Tryz.prog 91 _ (ReflectliteValue.methodAny (ReflectliteValue.valueError "reflectlite.Value.Type" 0) (fun t _ _ _ => ReflectliteType.toType t)) Tryz.func91 (by kernel_rfl) (by kernel_rfl) (by kernel_rfl) (by kernel_rfl)
  have h8 := @run_callFunc_extern Tryz.prog 92 _ (ReflectliteValue.method (ReflectliteValue.valueError "reflectlite.Value.IsNil" 0) ReflectliteValue.isNil) Tryz.func92 (by kernel_rfl) (by kernel_rfl) (by kernel_rfl) (by kernel_rfl)
  have h27 := @run_callFunc_extern Tryz.prog 142 _ (ReflectliteType.abiMethod fun t => do pure (.int .u8 (← Rtype.kind t))) Tryz.func142 (by kernel_rfl) (by kernel_rfl) (by kernel_rfl) (by kernel_rfl)
  have h37 := @run_callFunc_extern Tryz.prog 155 _ (ReflectliteType.method ReflectliteType.elem) Tryz.func155 (by kernel_rfl) (by kernel_rfl) (by kernel_rfl) (by kernel_rfl)
  have h38 := @run_callFunc_extern Tryz.prog 156 _ (ReflectliteType.relation "Implements" ReflectliteType.implements_) Tryz.func156 (by kernel_rfl) (by kernel_rfl) (by kernel_rfl) (by kernel_rfl)
  have f6 := Tryz.valueOfP
  have f7 := Tryz.typeP
  have mK := Tryz.methodKind
  have mE := Tryz.methodElem
  have mI := Tryz.methodImplements
  have kP := Tryz.kindP
  have kF := Tryz.kindF
  have eP := Tryz.elemP
  have iF := Tryz.implementsF
  have nP := fun (a : Nat) (W : World) (h : W.cell? ⟨a, 0, none⟩ = some (.pointer (some ⟨t, 0, none⟩))) => Tryz.isNilP ⟨a, 0, none⟩ ⟨t, 0, none⟩ W h
  unfold ErrVar at hg
  have hlt := World.block_lt_of_cell? w _ hg
  have hs := Blk.new w 104 [.pointer (some ⟨t, 0, none⟩)]
  have hs1 := (hs.alloc (.cells #[.pointer (some ⟨1, 104, none⟩), .pointer (some ⟨w.heap.size, 0, none⟩), .int .u64 150] 140)).cell 0
  have ht1 := (ht.alloc (.cells #[.pointer (some ⟨t, 0, none⟩)] 104)).alloc (.cells #[.pointer (some ⟨1, 104, none⟩), .pointer (some ⟨w.heap.size, 0, none⟩), .int .u64 150] 140)
  have HS := Lib.hid hs1
  clear hs1 hs
  obtain ⟨tt, xx, rfl⟩ := h.iface
  go_enter Tryz.func68, Tryz.ntmps68
  go_wp2_with (go_at_call 93; refine (asIn_any h x y z t w.heap.size _ ht1 (by have := HS.out; simp at this ⊢)).mono ?_; rintro e w1 ⟨rfl, h1, h2⟩)
  go_ret
  exact ⟨rfl, h1, (((Mod.refl (· = t) w).alloc _).alloc _).trans h2 (fun _ _ h => h)⟩
set_option maxHeartbeats 1000000 in
set_option maxRecDepth 1000000 in
theorem plain_any {v : Value} {a : Int} (h : Er v a none) (h1 : 1 ≤ a) (h24 : a ≤ 24) (w : World) (hg : ErrVar w) :
    Calls Tryz.prog 27 #[v, .int .i64 a] w fun e w' => e = .returned (.bool true) ∧ New w w' := by
  have hlt := hg.lt
  have hd : (a == a) = true := by simp
  obtain ⟨t, x, rfl⟩ := h.iface
  go_enter Tryz.func27, Tryz.ntmps27
  go_wp2_with fail
  refine (num_any h h1 h24 _).mono ?_
  rintro e w1 ⟨rfl, hw1⟩
  have hb := (Blk.new w 102 [.int .i64 0, .int .i64 0, .int .i64 0]).new_ hw1
  have hg1 : ErrVar w1 := (hg.new_ ((Mod.refl _ _).alloc _)).new_ hw1
  have HW := Lib.hid hw1
  go_wp2_with fail
  refine (as_any h 0 0 0 w.heap.size _ hg1 hb).mono ?_
  rintro e w2 ⟨rfl, hb2, hw2⟩
  go_wp2
  go_ret
  exact ⟨rfl, Mod.trans (New.trans ((Mod.refl _ _).alloc _) hw1) hw2 (fun i hi hs => by omega)⟩
set_option maxRecDepth 1000000 in
theorem plain_nil (w : World) :
    Calls Tryz.prog 27 #[.nilIface, .int .i64 0] w fun e w' => e = .returned (.bool true) ∧ New w w' := by
  go_enter Tryz.func27, Tryz.ntmps27
  go_wp2_with fail
  refine (num_nil _).mono ?_
  rintro e w1 ⟨rfl, hw1⟩
  go_wp2
  go_ret
  exact ⟨rfl, New.trans ((Mod.refl _ _).alloc _) hw1⟩

end Go.Proofs.YtfifalopbfopnaaGreatDoor
