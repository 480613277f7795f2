/- Walks: errors.Is and errors.As at the errors of this project: nil, an Errno, a struct that wraps an Errno, a Fault. -/
import Derived.Test.YtkkaejbdekdljaaDoorProg
import Derived.Test.YtkkaejbdekdljaaDoorWb
import Derived.LaidEql
import Derived.Stop.Asserts
import Derived.RowKitTokens
set_option linter.unusedVariables false
set_option linter.unusedSimpArgs false
namespace Go.Proofs.YtkkaejbdekdljaaDoor
open Go.RowKit Go.Extern.Stop Go.Stop Go.Extern

theorem run_equalIn_iface_int {P : Program} (w : World) (d : Nat) {ti tn : TypeId} {ms : Array (String × TypeId)} {i : TypeInfo} {k : IntKind} (a b : Int)
    (hi : P.underlying ti = some (.interface ms)) (hn : P.underlying tn = some (.int k)) (hinfo : P.info? tn = some i) (hcomp : i.comparable = true) :
    (Op.equalIn (d + 2) ti (.iface tn (.int k a)) (.iface tn (.int k b))).run P w = .ok (a == b) w := by
  simp [Op.equalIn, run_underlying hi, run_underlying hn, typeInfo, hinfo, hcomp]
theorem run_eql_iface_int {P : Program} (w : World) {ti tn : TypeId} {ms : Array (String × TypeId)} {i : TypeInfo} {k : IntKind} (a b : Int)
    (hi : P.underlying ti = some (.interface ms)) (hn : P.underlying tn = some (.int k)) (hinfo : P.info? tn = some i) (hcomp : i.comparable = true) :
    (binOp .eql ti (.iface tn (.int k a)) (.iface tn (.int k b))).run P w = .ok (.bool (a == b)) w := by
  simp only [binOp]
  simp [Op.equal, Op.maxDepth, run_equalIn_iface_int w 9998 a b hi hn hinfo hcomp]

theorem Tryd.tyErrno (v : Value) (w : World) : (Extern.ReflectliteType.typeOf #[.iface 80 v]).run Tryd.prog w = .ok (.iface 130 (.agg #[.pointer (some ⟨1, 80, none⟩)])) w := by kernel_rfl
abbrev cmpEntry : Array Value → Sem Value := Extern.ReflectliteType.method fun t => do Rtype.noPackHeld "Comparable" t; pure (.bool (← typeInfo t).comparable)
theorem Tryd.cmpErrno (w : World) : (cmpEntry #[.agg #[.pointer (some ⟨1, 80, none⟩)]]).run Tryd.prog w = .ok (.bool true) w := by kernel_rfl
theorem Tryd.infErrno : (Tryd.prog.info? 80).map (·.comparable) = some true := by kernel_rfl
theorem Tryd.noIsErrno (v : Value) (xT : TypeId) (w : World) : (Instr.typeAssert (.iface 80 v) xT 144 true).run Tryd.prog w = .ok (.tuple #[.nilIface, .bool false]) w := run_typeAssert_lacksB Tryd.underlying144 (by kernel_rfl) (by kernel_rfl) v xT w
theorem Tryd.noUnErrno (v : Value) (xT : TypeId) (w : World) : (Instr.typeAssert (.iface 80 v) xT 137 true).run Tryd.prog w = .ok (.tuple #[.nilIface, .bool false]) w := run_typeAssert_lacksB Tryd.underlying137 (by kernel_rfl) (by kernel_rfl) v xT w
theorem Tryd.noUnsErrno (v : Value) (xT : TypeId) (w : World) : (Instr.typeAssert (.iface 80 v) xT 139 true).run Tryd.prog w = .ok (.tuple #[.nilIface, .bool false]) w := run_typeAssert_lacksB Tryd.underlying139 (by kernel_rfl) (by kernel_rfl) v xT w

set_option maxRecDepth 1000000 in
set_option maxHeartbeats 1000000 in
theorem isIn_errno (a b : Int) (w : World) :
    Calls Tryd.prog 75 #[.iface 80 (.int .i64 a), .iface 80 (.int .i64 b), .bool true] w fun e w' => e = .returned (.bool (a == b)) ∧ w' = w := by
  obtain ⟨i, hi, hcmp⟩ := Option.map_eq_some_iff.1 Tryd.infErrno
  have h1 := Tryd.noIsErrno
  have h2 := Tryd.noUnErrno
  have h3 := Tryd.noUnsErrno
  have he := run_eql_iface_int (P := Tryd.prog) w a b Tryd.underlying29 Tryd.underlying80 hi hcmp
  by_cases hab : a = b
  · subst hab
    have hd : (a == a) = true := by simp
    rw [hd] at he
    go_enter Tryd.func75, Tryd.ntmps75
    go_wp2
    refine wp_loop_rounds 1 ?_
    rw [rounds_succ]
    go_wp2
    go_ret
    exact ⟨by simp, rfl⟩
  · have hd : (a == b) = false := by simpa using hab
    rw [hd] at he
    go_enter Tryd.func75, Tryd.ntmps75
    go_wp2
    refine wp_loop_rounds 1 ?_
    rw [rounds_succ]
    go_wp2
    go_ret
    exact ⟨by simp [hd], rfl⟩

theorem Tryd.noIsRef (v : Value) (xT : TypeId) (w : World) : (Instr.typeAssert (.iface 82 v) xT 144 true).run Tryd.prog w = .ok (.tuple #[.nilIface, .bool false]) w := run_typeAssert_lacksB Tryd.underlying144 (by kernel_rfl) (by kernel_rfl) v xT w
theorem Tryd.hasUnRef (v : Value) (xT : TypeId) (w : World) : (Instr.typeAssert (.iface 82 v) xT 137 true).run Tryd.prog w = .ok (.tuple #[.iface 82 v, .bool true]) w := run_typeAssert_hasB Tryd.underlying137 (by kernel_rfl) v xT w

theorem Tryd.unRef (v : Value) (w : World) : (Go.method 279 82 v "Unwrap").run Tryd.prog w = .ok (99, v) w := by kernel_rfl
theorem Tryd.unFault (v : Value) (w : World) : (Go.method 279 88 v "Unwrap").run Tryd.prog w = .ok (101, v) w := by kernel_rfl
theorem Tryd.noIsFault (v : Value) (xT : TypeId) (w : World) : (Instr.typeAssert (.iface 88 v) xT 144 true).run Tryd.prog w = .ok (.tuple #[.nilIface, .bool false]) w := run_typeAssert_lacksB Tryd.underlying144 (by kernel_rfl) (by kernel_rfl) v xT w
theorem Tryd.hasUnFault (v : Value) (xT : TypeId) (w : World) : (Instr.typeAssert (.iface 88 v) xT 137 true).run Tryd.prog w = .ok (.tuple #[.iface 88 v, .bool true]) w := run_typeAssert_hasB Tryd.underlying137 (by kernel_rfl) v xT w

theorem unwrapRef (a : Int) (w : World) : Calls Tryd.prog 99 #[.agg #[.int .i64 a]] w fun e w' => e = .returned (.iface 80 (.int .i64 a)) ∧ New w w' := by
  go_enter Tryd.func99, Tryd.ntmps99
  go_wp2
  go_ret
  exact ⟨rfl, (Mod.refl _ _).alloc _⟩
theorem unwrapFault (a b c : Int) (w : World) : Calls Tryd.prog 101 #[.agg #[.int .i64 a, .int .i64 b, .int .i64 c]] w fun e w' => e = .returned (.iface 80 (.int .i64 a)) ∧ New w w' := by
  go_enter Tryd.func101, Tryd.ntmps101
  go_wp2
  go_ret
  exact ⟨rfl, (Mod.refl _ _).alloc _⟩

set_option maxRecDepth 1000000 in
set_option maxHeartbeats 1000000 in
theorem isIn_ref (a b : Int) (w : World) :
    Calls Tryd.prog 75 #[.iface 82 (.agg #[.int .i64 a]), .iface 80 (.int .i64 b), .bool true] w fun e w' => e = .returned (.bool (a == b)) ∧ New w w' := by
  obtain ⟨i, hi, hcmp⟩ := Option.map_eq_some_iff.1 Tryd.infErrno
  have h1 := Tryd.noIsRef
  have h2 := Tryd.hasUnRef
  have h3 := Tryd.noIsErrno
  have h4 := Tryd.noUnErrno
  have h5 := Tryd.noUnsErrno
  have h6 := Tryd.unRef
  have hty := fun w => run_eql_iface_types (P := Tryd.prog) 82 80 (.agg #[.int .i64 a]) (.int .i64 b) Tryd.underlying29 (by decide) w
  have he := fun w => run_eql_iface_int (P := Tryd.prog) w a b Tryd.underlying29 Tryd.underlying80 hi hcmp
  by_cases hab : (a == b) = true
  all_goals
    try rw [Bool.not_eq_true] at hab
    simp only [hab] at he
    go_enter Tryd.func75, Tryd.ntmps75
    go_wp2
    refine wp_loop_rounds 2 ?_
    rw [rounds_succ]
    go_wp2_with (go_at_call 99; refine (unwrapRef a _).mono ?_; rintro e w1 ⟨rfl, hw1⟩)
    try rw [rounds_succ]
    go_wp2
    go_ret
    exact ⟨by simp [hab], hw1⟩

set_option maxRecDepth 1000000 in
set_option maxHeartbeats 1000000 in
theorem isIn_fault (a l c b : Int) (w : World) :
    Calls Tryd.prog 75 #[.iface 88 (.agg #[.int .i64 a, .int .i64 l, .int .i64 c]), .iface 80 (.int .i64 b), .bool true] w fun e w' => e = .returned (.bool (a == b)) ∧ New w w' := by
  obtain ⟨i, hi, hcmp⟩ := Option.map_eq_some_iff.1 Tryd.infErrno
  have h1 := Tryd.noIsFault
  have h2 := Tryd.hasUnFault
  have h3 := Tryd.noIsErrno
  have h4 := Tryd.noUnErrno
  have h5 := Tryd.noUnsErrno
  have h6 := Tryd.unFault
  have hty := fun w => run_eql_iface_types (P := Tryd.prog) 88 80 (.agg #[.int .i64 a, .int .i64 l, .int .i64 c]) (.int .i64 b) Tryd.underlying29 (by decide) w
  have he := fun w => run_eql_iface_int (P := Tryd.prog) w a b Tryd.underlying29 Tryd.underlying80 hi hcmp
  by_cases hab : (a == b) = true
  all_goals
    try rw [Bool.not_eq_true] at hab
    simp only [hab] at he
    go_enter Tryd.func75, Tryd.ntmps75
    go_wp2
    refine wp_loop_rounds 2 ?_
    rw [rounds_succ]
    go_wp2_with (go_at_call 101; refine (unwrapFault a l c _).mono ?_; rintro e w1 ⟨rfl, hw1⟩)
    try rw [rounds_succ]
    go_wp2
    go_ret
    exact ⟨by simp [hab], hw1⟩

/-- An error of this project that wraps (or is) the number a; m: the place that it tells. -/
inductive Er : Value → Int → Option (Int × Int) → Prop
  | errno (a : Int) : Er (.iface 80 (.int .i64 a)) a none
  | ref (a : Int) : Er (.iface 82 (.agg #[.int .i64 a])) a none
  | fault (a l c : Int) : Er (.iface 88 (.agg #[.int .i64 a, .int .i64 l, .int .i64 c])) a (some (l, c))

theorem isIn_any {v : Value} {a : Int} {m : Option (Int × Int)} (h : Er v a m) (b : Int) (w : World) :
    Calls Tryd.prog 75 #[v, .iface 80 (.int .i64 b), .bool true] w fun e w' => e = .returned (.bool (a == b)) ∧ New w w' := by
  cases h with
  | errno a => exact (isIn_errno a b w).mono fun e w' ⟨h1, h2⟩ => ⟨h1, by rw [h2]; exact Mod.refl _ _⟩
  | ref a => exact isIn_ref a b w
  | fault a l c => exact isIn_fault a l c b w
theorem Er.iface {v : Value} {a : Int} {m : Option (Int × Int)} (h : Er v a m) : ∃ t x, v = .iface t x := by cases h <;> exact ⟨_, _, rfl⟩

theorem Tryd.mCmp (v : Value) (w : World) : (Go.method 279 130 v "Comparable").run Tryd.prog w = .ok (107, v) w := by kernel_rfl
set_option maxRecDepth 1000000 in
set_option maxHeartbeats 1000000 in
theorem is_any {v : Value} {a : Int} {m : Option (Int × Int)} (h : Er v a m) (b : Int) (w : World) :
    Calls Tryd.prog 66 #[v, .iface 80 (.int .i64 b)] w fun e w' => e = .returned (.bool (a == b)) ∧ New w w' := by
  have h1 := Tryd.tyErrno
  have h2 := Tryd.cmpErrno
  have h3 := Tryd.mCmp
  have h4 := @run_callFunc_extern Tryd.prog 74 _ ReflectliteType.typeOf Tryd.func74 (by kernel_rfl) (by kernel_rfl) (by kernel_rfl) (by kernel_rfl)
  have h5 := @run_callFunc_extern Tryd.prog 107 _ cmpEntry Tryd.func107 (by kernel_rfl) (by kernel_rfl) (by kernel_rfl) (by kernel_rfl)
  obtain ⟨t, x, rfl⟩ := h.iface
  go_enter Tryd.func66, Tryd.ntmps66
  go_wp2_with (go_at_call 75; refine (isIn_any h b _).mono ?_; rintro e w1 ⟨rfl, hw1⟩)
  go_ret
  exact ⟨rfl, hw1⟩
set_option maxRecDepth 1000000 in
theorem num_nil (w : World) : Calls Tryd.prog 50 #[.nilIface] w fun e w' => e = .returned (.int .i64 0) ∧ New w w' := by
  go_enter Tryd.func50, Tryd.ntmps50
  go_wp2
  go_ret
  exact ⟨rfl, Mod.refl _ _⟩
def found (a k : Int) : Int := if a < k then a else 0
set_option maxRecDepth 1000000 in
set_option maxHeartbeats 1000000 in
theorem num_any {v : Value} {a : Int} {m : Option (Int × Int)} (h : Er v a m) (h1 : 1 ≤ a) (h24 : a ≤ 24) (w : World) :
    Calls Tryd.prog 50 #[v] w fun e w' => e = .returned (.int .i64 a) ∧ New w w' := by
  obtain ⟨t, x, rfl⟩ := h.iface
  go_enter Tryd.func50, Tryd.ntmps50
  go_wp2
  go_loopw [3, 4] (fun f n wr => ∃ k : Nat, 1 ≤ k ∧ k ≤ 25 ∧ n = .int .i64 (k : Int) ∧ f = .int .i64 (found a k) ∧ New w wr) (fun _ n _ => 25 - (intOf n).toNat)
  case atStart => exact ⟨1, by omega, by omega, rfl, by simp [found]; omega, Mod.refl _ _⟩
  case round =>
    obtain ⟨k, hk1, hk, rfl, rfl, hw⟩ := hrel
    by_cases hlt : k ≤ 24
    · by_cases hak : a = k
      · have hb : (a == (k : Int)) = true := by simp [hak]
        have hf : found a k = 0 := by unfold found; rw [if_neg (by omega)]
        rw [hf]
        have HA := Lib.hid hak
        have HB := Lib.hid hb
        clear hak hb hf
        go_wp2_with (go_at_call 66; refine (is_any h k _).mono ?_; rw [HB.out]; rintro e w1 ⟨rfl, hw1⟩)
        go_roundw
        case rel => exact ⟨k + 1, by omega, by omega, by go_num, by rw [found, if_pos (by have := HA.out; omega), HA.out], hw.trans hw1⟩
        case measure => simp [intOf]; omega
      · have hb : (a == (k : Int)) = false := by simpa using hak
        have hf : found a k = found a (k + 1) := by unfold found; split <;> split <;> omega
        have HA := Lib.hid hak
        have HB := Lib.hid hb
        have HF := Lib.hid hf
        clear hak hb hf
        go_wp2_with (go_at_call 66; refine (is_any h k _).mono ?_; rw [HB.out]; rintro e w1 ⟨rfl, hw1⟩)
        go_roundw
        case rel => exact ⟨k + 1, by omega, by omega, by go_num, by rw [HF.out]; go_num, hw.trans hw1⟩
        case measure => simp [intOf]; omega
    · have hf : found a k = a := by unfold found; rw [if_pos (by omega)]
      have hb : (a == (0 : Int)) = false := by simp; omega
      have hb2 : ((a : Int) == 0) = false := hb
      rw [hf]
      clear hf
      have HB := Lib.hid hb
      go_wp2_with (go_at_call 66; refine (is_any h 0 _).mono ?_; rw [HB.out]; rintro e w1 ⟨rfl, hw1⟩)
      go_ret
      exact ⟨rfl, hw.trans hw1⟩
end Go.Proofs.YtkkaejbdekdljaaDoor
