/- Walks: errors.As at a target *api.Fault. -/
import Derived.Test.YtkkaejbdekdljaaDoorEa
set_option linter.unusedVariables false
set_option linter.unusedSimpArgs false
namespace Go.Proofs.YtkkaejbdekdljaaDoor
open Go.RowKit Go.Extern.Stop Go.Stop Go.Extern

/-- The listed variable errors.errorType. -/
def ErrVar (w : World) : Prop := w.cell? ⟨0, 0, none⟩ = some (.iface 130 (.agg #[.pointer (some ⟨1, 29, none⟩)]))
theorem ErrVar.new_ {w w' : World} (h : ErrVar w) (hm : New w w') : ErrVar w' := hm.cell h (fun h => h)
theorem ErrVar.lt {w : World} (h : ErrVar w) : 0 < w.heap.size := World.block_lt_of_cell? w _ h

theorem Tryd.valueOfP (t : Addr) (w : World) : (ReflectliteValue.unpack (.iface 91 (.pointer (some t)))).run Tryd.prog w
    = .ok (.agg #[.pointer (some ⟨1, 91, none⟩), .pointer (some ⟨w.heap.size, 0, none⟩), .int .u64 150]) (w.alloc (.cells #[.pointer (some t)] 91)) := by kernel_rfl
theorem Tryd.typeP (a : Addr) (w : World) : (ReflectliteValue.methodAny (ReflectliteValue.valueError "reflectlite.Value.Type" 0) (fun t _ _ _ => ReflectliteType.toType t) #[.agg #[.pointer (some ⟨1, 91, none⟩), .pointer (some a), .int .u64 150]]).run Tryd.prog w
    = .ok (.iface 130 (.agg #[.pointer (some ⟨1, 91, none⟩)])) w := by kernel_rfl
theorem Tryd.methodKind (h : Value) (w : World) : (Go.method 279 130 (.agg #[h]) "Kind").run Tryd.prog w = .ok (94, h) w := by kernel_rfl
theorem Tryd.kindP (w : World) : ((ReflectliteType.abiMethod fun t => (fun a : Nat => Value.int IntKind.u8 (a : Int)) <$> Rtype.kind t) #[.pointer (some ⟨1, 91, none⟩)]).run Tryd.prog w = .ok (.int .u8 22) w := by kernel_rfl
theorem Tryd.kindF (w : World) : ((ReflectliteType.abiMethod fun t => (fun a : Nat => Value.int IntKind.u8 (a : Int)) <$> Rtype.kind t) #[.pointer (some ⟨1, 88, none⟩)]).run Tryd.prog w = .ok (.int .u8 25) w := by kernel_rfl

theorem rlm (z : Sem Value) (f : TypeId → Addr → Nat → Nat → Sem Value) (v : Value) :
    ReflectliteValue.method z f #[v] = (do match ← ReflectliteValue.parts v with | none => z | some (t, a, fl) => f t a fl (fl % 32)) := rfl
theorem Tryd.partsP (a : Addr) (w : World) : (ReflectliteValue.parts (.agg #[.pointer (some ⟨1, 91, none⟩), .pointer (some a), .int .u64 150])).run Tryd.prog w = .ok (some (91, a, 150)) w := by kernel_rfl
theorem Tryd.isNilP (a p : Addr) (W : World) (ha : W.cell? a = some (.pointer (some p))) :
    (ReflectliteValue.method (ReflectliteValue.valueError "reflectlite.Value.IsNil" 0) ReflectliteValue.isNil #[.agg #[.pointer (some ⟨1, 91, none⟩), .pointer (some a), .int .u64 150]]).run Tryd.prog W = .ok (.bool false) W := by
  rw [rlm]
  simp only [Sem.run_bind, Tryd.partsP, Result.andThen]
  simp [ReflectliteValue.isNil, loadVar, isAgg, underlying, Tryd.underlying91, ha, Result.andThen]

theorem Tryd.methodElem (h : Value) (w : World) : (Go.method 279 130 (.agg #[h]) "Elem").run Tryd.prog w = .ok (108, .agg #[h]) w := by kernel_rfl
theorem Tryd.methodImplements (h : Value) (w : World) : (Go.method 279 130 (.agg #[h]) "Implements").run Tryd.prog w = .ok (109, .agg #[h]) w := by kernel_rfl
theorem Tryd.methodAssignableTo (h : Value) (w : World) : (Go.method 279 130 (.agg #[h]) "AssignableTo").run Tryd.prog w = .ok (106, .agg #[h]) w := by kernel_rfl
theorem Tryd.elemP (w : World) : (ReflectliteType.method ReflectliteType.elem #[.agg #[.pointer (some ⟨1, 91, none⟩)]]).run Tryd.prog w = .ok (.iface 130 (.agg #[.pointer (some ⟨1, 88, none⟩)])) w := by kernel_rfl
theorem Tryd.implementsF (w : World) : (ReflectliteType.relation "Implements" ReflectliteType.implements_ #[.agg #[.pointer (some ⟨1, 88, none⟩)], .iface 130 (.agg #[.pointer (some ⟨1, 29, none⟩)])]).run Tryd.prog w = .ok (.bool true) w := by kernel_rfl
theorem Tryd.typeOfF (v : Value) (w : World) : (ReflectliteType.typeOf #[.iface 88 v]).run Tryd.prog w = .ok (.iface 130 (.agg #[.pointer (some ⟨1, 88, none⟩)])) w := by kernel_rfl
theorem Tryd.typeOfE (v : Value) (w : World) : (ReflectliteType.typeOf #[.iface 80 v]).run Tryd.prog w = .ok (.iface 130 (.agg #[.pointer (some ⟨1, 80, none⟩)])) w := by kernel_rfl
theorem Tryd.typeOfR (v : Value) (w : World) : (ReflectliteType.typeOf #[.iface 82 v]).run Tryd.prog w = .ok (.iface 130 (.agg #[.pointer (some ⟨1, 82, none⟩)])) w := by kernel_rfl
theorem Tryd.asgF (w : World) : (ReflectliteType.relation "AssignableTo" ReflectliteType.assignableTo #[.agg #[.pointer (some ⟨1, 88, none⟩)], .iface 130 (.agg #[.pointer (some ⟨1, 88, none⟩)])]).run Tryd.prog w = .ok (.bool true) w := by kernel_rfl
theorem Tryd.asgE (w : World) : (ReflectliteType.relation "AssignableTo" ReflectliteType.assignableTo #[.agg #[.pointer (some ⟨1, 80, none⟩)], .iface 130 (.agg #[.pointer (some ⟨1, 88, none⟩)])]).run Tryd.prog w = .ok (.bool false) w := by kernel_rfl
theorem Tryd.asgR (w : World) : (ReflectliteType.relation "AssignableTo" ReflectliteType.assignableTo #[.agg #[.pointer (some ⟨1, 82, none⟩)], .iface 130 (.agg #[.pointer (some ⟨1, 88, none⟩)])]).run Tryd.prog w = .ok (.bool false) w := by kernel_rfl
theorem Tryd.valueOfF (a b c : Value) (w : World) : (ReflectliteValue.unpack (.iface 88 (.agg #[a, b, c]))).run Tryd.prog w
    = .ok (.agg #[.pointer (some ⟨1, 88, none⟩), .pointer (some ⟨w.heap.size, 0, none⟩), .int .u64 153]) (w.alloc (.cells #[a, b, c] 88)) := by kernel_rfl
theorem Tryd.noAsE (v : Value) (xT : TypeId) (w : World) : (Instr.typeAssert (.iface 80 v) xT 134 true).run Tryd.prog w = .ok (.tuple #[.nilIface, .bool false]) w := run_typeAssert_lacksB Tryd.underlying134 (by kernel_rfl) (by kernel_rfl) v xT w
theorem Tryd.noAsR (v : Value) (xT : TypeId) (w : World) : (Instr.typeAssert (.iface 82 v) xT 134 true).run Tryd.prog w = .ok (.tuple #[.nilIface, .bool false]) w := run_typeAssert_lacksB Tryd.underlying134 (by kernel_rfl) (by kernel_rfl) v xT w
theorem Tryd.elemOfP (w : World) : (Rtype.elem? 91).run Tryd.prog w = .ok (some 88) w := by kernel_rfl
theorem Tryd.mkF (p : Addr) (w : World) : (ReflectliteValue.mk 88 p ReflectliteValue.flagAddr).run Tryd.prog w = .ok (.agg #[.pointer (some ⟨1, 88, none⟩), .pointer (some p), .int .u64 409]) w := by kernel_rfl
theorem Tryd.elemVP (a p : Addr) (W : World) (ha : W.cell? a = some (.pointer (some p))) :
    (ReflectliteValue.method (ReflectliteValue.valueError "reflectlite.Value.Elem" 0) ReflectliteValue.elem #[.agg #[.pointer (some ⟨1, 91, none⟩), .pointer (some a), .int .u64 150]]).run Tryd.prog W
      = .ok (.agg #[.pointer (some ⟨1, 88, none⟩), .pointer (some p), .int .u64 409]) W := by
  rw [rlm]
  simp only [Sem.run_bind, Tryd.partsP, Result.andThen]
  simp [ReflectliteValue.elem, loadVar, isAgg, underlying, Tryd.underlying91, ha, Result.andThen, Tryd.elemOfP, Tryd.mkF]
theorem Tryd.partsFa (a : Addr) (w : World) : (ReflectliteValue.parts (.agg #[.pointer (some ⟨1, 88, none⟩), .pointer (some a), .int .u64 409])).run Tryd.prog w = .ok (some (88, a, 409)) w := by kernel_rfl
theorem Tryd.partsF (a : Addr) (w : World) : (ReflectliteValue.parts (.agg #[.pointer (some ⟨1, 88, none⟩), .pointer (some a), .int .u64 153])).run Tryd.prog w = .ok (some (88, a, 153)) w := by kernel_rfl
theorem Tryd.directF (w : World) : (Rtype.directlyAssignable 88 88).run Tryd.prog w = .ok true w := by kernel_rfl
theorem rls (v x : Value) : ReflectliteValue.set #[v, x] = (do
    let (some (dst, a, fl), some (src, b, _)) := (← ReflectliteValue.parts v, ← ReflectliteValue.parts x)
      | unsupported (.noEntry "extern/(internal/reflectlite.Value).Set.zeroValue")
    if fl / ReflectliteValue.flagAddr % 2 == 0 then unsupported (.noEntry "extern/(internal/reflectlite.Value).Set.unaddressable")
    let val ← loadVar src b
    if ← Rtype.directlyAssignable dst src then storeVar dst a val
    else if ← Rtype.implements dst src then
      if (← Rtype.kind src) == 20 then
        match val with
        | .nilIface => unsupported (.noEntry "extern/reflectlite: a nil value of one interface type handed on as a value of another")
        | _ => storeVar dst a val
      else storeVar dst a (.iface src val)
    else panicString ("reflectlite.Set: value of type " ++ (← Rtype.spelt src) ++ " is not assignable to type " ++ (← Rtype.spelt dst))
    pure (.tuple #[])) := rfl
theorem Blk.row {w : World} {g : Nat} {t : TypeId} {cs ds : List Value} (h : Blk w g t cs) : Blk (w.setRow g ds.toArray) g t ds := by
  unfold Blk at h ⊢
  simp [World.setRow, Array.getElem?_modify, h]
theorem Mod.row {S : Nat → Prop} {w w' : World} (h : Mod S w w') {g : Nat} (hp : g < w.heap.size → S g) (ds : Array Value) : Mod S w (w'.setRow g ds) :=
  ⟨h.os, h.tape, h.output, by simpa [World.setRow] using h.size, fun i hi hn => by
    rw [← h.block i hi hn]
    simp only [World.setRow, Array.getElem?_modify]
    rw [if_neg (fun e => hn (by subst e; exact hp hi))]⟩
theorem Tryd.setF (t s : Nat) (a b c x y z : Value) (W : World) (h0 : W.cell? ⟨s, 0, none⟩ = some a) (h1 : W.cell? ⟨s, 1, none⟩ = some b) (h2 : W.cell? ⟨s, 2, none⟩ = some c) (ht : Blk W t 88 [x, y, z])
    (ho : a.oneCell' = true ∧ b.oneCell' = true ∧ c.oneCell' = true) :
    (ReflectliteValue.set #[.agg #[.pointer (some ⟨1, 88, none⟩), .pointer (some ⟨t, 0, none⟩), .int .u64 409], .agg #[.pointer (some ⟨1, 88, none⟩), .pointer (some ⟨s, 0, none⟩), .int .u64 153]]).run Tryd.prog W
      = .ok (.tuple #[]) (W.setRow t #[a, b, c]) := by
  have hl := run_loadCells_list (P := Tryd.prog) W ⟨s, 0, none⟩ [a, b, c] (fun j v hv => by
    rw [add_plain]
    match j, hv with
    | 0, hv => simp at hv; subst hv; exact h0
    | 1, hv => simp at hv; subst hv; exact h1
    | 2, hv => simp at hv; subst hv; exact h2)
  have hs := run_storeCells_from (P := Tryd.prog) t 88 [a, b, c] 0 #[x, y, z] W ht rfl (by simp [ho])
  have hc : (Value.agg #[a, b, c]).cells = #[a, b, c] := rfl
  rw [rls]
  simp only [Sem.run_bind, Tryd.partsFa, Tryd.partsF, Result.andThen]
  simp [ReflectliteValue.flagAddr, loadVar, isAgg, underlying, Tryd.underlying88, Result.andThen, Tryd.directF, storeVar]
  simp at hl hs
  simp [hl, hc, hs]
abbrev valP (s : Nat) : Value := .agg #[.pointer (some ⟨1, 91, none⟩), .pointer (some ⟨s, 0, none⟩), .int .u64 150]
abbrev typF : Value := .iface 130 (.agg #[.pointer (some ⟨1, 88, none⟩)])
set_option maxHeartbeats 4000000 in
set_option maxRecDepth 1000000 in
theorem asIn_hit (a l c x y z : Int) (t s : Nat) (w : World) (ht : Blk w t 88 [.int .i64 x, .int .i64 y, .int .i64 z]) (hs : w.cell? ⟨s, 0, none⟩ = some (.pointer (some ⟨t, 0, none⟩))) :
    Calls Tryd.prog 70 #[.iface 88 (.agg #[.int .i64 a, .int .i64 l, .int .i64 c]), .iface 91 (.pointer (some ⟨t, 0, none⟩)), .agg #[.pointer (some ⟨1, 91, none⟩), .pointer (some ⟨s, 0, none⟩), .int .u64 150], .iface 130 (.agg #[.pointer (some ⟨1, 88, none⟩)])] w fun ev w' => ev = .returned (.bool true) ∧ Blk w' t 88 [.int .i64 a, .int .i64 l, .int .i64 c] ∧ Mod (· = t) w w' := by
  have h6 := @run_callFunc_extern Tryd.prog 67 _ (fun args => ReflectliteValue.unpack (args.getD 0 (.tuple #[]))) Tryd.func67 (by kernel_rfl) (by kernel_rfl) (by kernel_rfl) (by kernel_rfl)
  have h10 := @run_callFunc_extern Tryd.prog 74 _ ReflectliteType.typeOf Tryd.func74 (by kernel_rfl) (by kernel_rfl) (by kernel_rfl) (by kernel_rfl)
  have h35 := @run_callFunc_extern Tryd.prog 106 _ (ReflectliteType.relation "AssignableTo" ReflectliteType.assignableTo) Tryd.func106 (by kernel_rfl) (by kernel_rfl) (by kernel_rfl) (by kernel_rfl)
  have h11 := @run_callFunc_extern Tryd.prog 76 _ (ReflectliteValue.method (ReflectliteValue.valueError "reflectlite.Value.Elem" 0) ReflectliteValue.elem) Tryd.func76 (by kernel_rfl) (by kernel_rfl) (by kernel_rfl) (by kernel_rfl)
  have h12 := @run_callFunc_extern Tryd.prog 77 _ ReflectliteValue.set Tryd.func77 (by kernel_rfl) (by kernel_rfl) (by kernel_rfl) (by kernel_rfl)
  have tO := Tryd.typeOfF
  have mA := Tryd.methodAssignableTo
  have aF := Tryd.asgF
  have vF := Tryd.valueOfF
  have hsl := World.block_lt_of_cell? w _ hs
  have htl := ht.lt
  have el := Tryd.elemVP ⟨s, 0, none⟩ ⟨t, 0, none⟩ (w.alloc (.cells #[.pointer (some ⟨1, 91, none⟩), .pointer (some ⟨s, 0, none⟩), .int .u64 150] 115)) (by rw [World.cell?_alloc_lt _ _ ⟨s, 0, none⟩ hsl]; exact hs)
  have hb2 := Blk.new (w.alloc (.cells #[.pointer (some ⟨1, 91, none⟩), .pointer (some ⟨s, 0, none⟩), .int .u64 150] 115)) 88 [.int .i64 a, .int .i64 l, .int .i64 c]
  have st := Tryd.setF t (w.heap.size + 1) (.int .i64 a) (.int .i64 l) (.int .i64 c) _ _ _ ((w.alloc (.cells #[.pointer (some ⟨1, 91, none⟩), .pointer (some ⟨s, 0, none⟩), .int .u64 150] 115)).alloc (.cells #[.int .i64 a, .int .i64 l, .int .i64 c] 88))
    (by simp) (by simp) (by simp) ((ht.alloc _).alloc _) ⟨rfl, rfl, rfl⟩
  go_enter Tryd.func70, Tryd.ntmps70
  go_wp2
  refine wp_loop_rounds 1 ?_
  rw [rounds_succ]
  go_wp2
  go_ret
  exact ⟨rfl, ((ht.alloc _).alloc _).row, (((Mod.refl (· = t) w).alloc _).alloc _).row (fun _ => rfl) _⟩
set_option maxHeartbeats 4000000 in
set_option maxRecDepth 1000000 in
theorem asIn_errno (a : Int) (tv : Value) (s : Nat) (w : World) :
    Calls Tryd.prog 70 #[.iface 80 (.int .i64 a), tv, .agg #[.pointer (some ⟨1, 91, none⟩), .pointer (some ⟨s, 0, none⟩), .int .u64 150], .iface 130 (.agg #[.pointer (some ⟨1, 88, none⟩)])] w fun ev w' => ev = .returned (.bool false) ∧ New w w' := by
  have h10 := @run_callFunc_extern Tryd.prog 74 _ ReflectliteType.typeOf Tryd.func74 (by kernel_rfl) (by kernel_rfl) (by kernel_rfl) (by kernel_rfl)
  have h35 := @run_callFunc_extern Tryd.prog 106 _ (ReflectliteType.relation "AssignableTo" ReflectliteType.assignableTo) Tryd.func106 (by kernel_rfl) (by kernel_rfl) (by kernel_rfl) (by kernel_rfl)
  have tO := Tryd.typeOfE
  have mA := Tryd.methodAssignableTo
  have aF := Tryd.asgE
  have n1 := Tryd.noAsE
  have n2 := Tryd.noUnErrno
  have n3 := Tryd.noUnsErrno
  go_enter Tryd.func70, Tryd.ntmps70
  go_wp2
  refine wp_loop_rounds 1 ?_
  rw [rounds_succ]
  go_wp2
  go_ret
  exact ⟨rfl, (Mod.refl _ _).alloc _⟩
set_option maxHeartbeats 4000000 in
set_option maxRecDepth 1000000 in
theorem asIn_ref (a : Int) (tv : Value) (s : Nat) (w : World) :
    Calls Tryd.prog 70 #[.iface 82 (.agg #[.int .i64 a]), tv, .agg #[.pointer (some ⟨1, 91, none⟩), .pointer (some ⟨s, 0, none⟩), .int .u64 150], .iface 130 (.agg #[.pointer (some ⟨1, 88, none⟩)])] w fun ev w' => ev = .returned (.bool false) ∧ New w w' := by
  have h10 := @run_callFunc_extern Tryd.prog 74 _ ReflectliteType.typeOf Tryd.func74 (by kernel_rfl) (by kernel_rfl) (by kernel_rfl) (by kernel_rfl)
  have h35 := @run_callFunc_extern Tryd.prog 106 _ (ReflectliteType.relation "AssignableTo" ReflectliteType.assignableTo) Tryd.func106 (by kernel_rfl) (by kernel_rfl) (by kernel_rfl) (by kernel_rfl)
  have tO := Tryd.typeOfE
  have tR := Tryd.typeOfR
  have mA := Tryd.methodAssignableTo
  have aF := Tryd.asgE
  have aR := Tryd.asgR
  have n1 := Tryd.noAsE
  have n2 := Tryd.noUnErrno
  have n3 := Tryd.noUnsErrno
  have n4 := Tryd.noAsR
  have n5 := Tryd.hasUnRef
  have n6 := Tryd.unRef
  go_enter Tryd.func70, Tryd.ntmps70
  go_wp2
  refine wp_loop_rounds 2 ?_
  rw [rounds_succ]
  go_wp2_with (go_at_call 99; refine (unwrapRef a _).mono ?_; rintro e w1 ⟨rfl, hw1⟩)
  try rw [rounds_succ]
  go_wp2
  go_ret
  exact ⟨rfl, New.trans ((Mod.refl _ _).alloc _) hw1⟩

/-- What lies at the target behind errors.As. -/
def AsCells (m : Option (Int × Int)) (a : Int) (cs : List Value) : List Value :=
  match m with
  | none => cs
  | some (l, c) => [.int .i64 a, .int .i64 l, .int .i64 c]
/-- What errors.As does at a target of this project's. -/
abbrev AsPost (m : Option (Int × Int)) (a : Int) (t : Nat) (cs : List Value) (w : World) (ev : Ending) (w' : World) : Prop :=
  ev = .returned (.bool m.isSome) ∧ Blk w' t 88 (AsCells m a cs) ∧ Mod (· = t) w w'
theorem asIn_any {v : Value} {a : Int} {m : Option (Int × Int)} (h : Er v a m) (x y z : Int) (t s : Nat) (w : World) (ht : Blk w t 88 [.int .i64 x, .int .i64 y, .int .i64 z]) (hs : w.cell? ⟨s, 0, none⟩ = some (.pointer (some ⟨t, 0, none⟩))) :
    Calls Tryd.prog 70 #[v, .iface 91 (.pointer (some ⟨t, 0, none⟩)), .agg #[.pointer (some ⟨1, 91, none⟩), .pointer (some ⟨s, 0, none⟩), .int .u64 150], .iface 130 (.agg #[.pointer (some ⟨1, 88, none⟩)])] w (AsPost m a t [.int .i64 x, .int .i64 y, .int .i64 z] w) := by
  cases h with
  | errno a => exact (asIn_errno a _ s w).mono fun e w' ⟨h1, h2⟩ => ⟨h1, ht.new_ h2, Mod.mono h2 (fun _ _ h => h.elim)⟩
  | ref a => exact (asIn_ref a _ s w).mono fun e w' ⟨h1, h2⟩ => ⟨h1, ht.new_ h2, Mod.mono h2 (fun _ _ h => h.elim)⟩
  | fault a l c => exact (asIn_hit a l c x y z t s w ht hs).mono fun e w' h => h

set_option maxHeartbeats 4000000 in
set_option maxRecDepth 1000000 in
theorem as_any {v : Value} {a : Int} {m : Option (Int × Int)} (h : Er v a m) (x y z : Int) (t : Nat) (w : World) (hg : ErrVar w) (ht : Blk w t 88 [.int .i64 x, .int .i64 y, .int .i64 z]) :
    Calls Tryd.prog 51 #[v, .iface 91 (.pointer (some ⟨t, 0, none⟩))] w (AsPost m a t [.int .i64 x, .int .i64 y, .int .i64 z] w) := by
  have h6 := @run_callFunc_extern Tryd.prog 67 _ (fun args => ReflectliteValue.unpack (args.getD 0 (.tuple #[]))) Tryd.func67 (by kernel_rfl) (by kernel_rfl) (by kernel_rfl) (by kernel_rfl)
  have h7 := @run_callFunc_extern Tryd.prog 68 _ (ReflectliteValue.methodAny (ReflectliteValue.valueError "reflectlite.Value.Type" 0) (fun t _ _ _ => ReflectliteType.toType t)) Tryd.func68 (by kernel_rfl) (by kernel_rfl) (by kernel_rfl) (by kernel_rfl)
  have h8 := @run_callFunc_extern Tryd.prog 69 _ (ReflectliteValue.method (ReflectliteValue.valueError "reflectlite.Value.IsNil" 0) ReflectliteValue.isNil) Tryd.func69 (by kernel_rfl) (by kernel_rfl) (by kernel_rfl) (by kernel_rfl)
  have h27 := @run_callFunc_extern Tryd.prog 94 _ (ReflectliteType.abiMethod fun t => do pure (.int .u8 (← Rtype.kind t))) Tryd.func94 (by kernel_rfl) (by kernel_rfl) (by kernel_rfl) (by kernel_rfl)
  have h37 := @run_callFunc_extern Tryd.prog 108 _ (ReflectliteType.method ReflectliteType.elem) Tryd.func108 (by kernel_rfl) (by kernel_rfl) (by kernel_rfl) (by kernel_rfl)
  have h38 := @run_callFunc_extern Tryd.prog 109 _ (ReflectliteType.relation "Implements" ReflectliteType.implements_) Tryd.func109 (by kernel_rfl) (by kernel_rfl) (by kernel_rfl) (by kernel_rfl)
  have f6 := Tryd.valueOfP
  have f7 := Tryd.typeP
  have mK := Tryd.methodKind
  have mE := Tryd.methodElem
  have mI := Tryd.methodImplements
  have kP := Tryd.kindP
  have kF := Tryd.kindF
  have eP := Tryd.elemP
  have iF := Tryd.implementsF
  have nP := fun (a : Nat) (W : World) (h : W.cell? ⟨a, 0, none⟩ = some (.pointer (some ⟨t, 0, none⟩))) => Tryd.isNilP ⟨a, 0, none⟩ ⟨t, 0, none⟩ W h
  unfold ErrVar at hg
  have hlt := World.block_lt_of_cell? w _ hg
  have hs := Blk.new w 91 [.pointer (some ⟨t, 0, none⟩)]
  have hs1 := (hs.alloc (.cells #[.pointer (some ⟨1, 91, none⟩), .pointer (some ⟨w.heap.size, 0, none⟩), .int .u64 150] 115)).cell 0
  have ht1 := (ht.alloc (.cells #[.pointer (some ⟨t, 0, none⟩)] 91)).alloc (.cells #[.pointer (some ⟨1, 91, none⟩), .pointer (some ⟨w.heap.size, 0, none⟩), .int .u64 150] 115)
  have HS := Lib.hid hs1
  clear hs1 hs
  obtain ⟨tt, xx, rfl⟩ := h.iface
  go_enter Tryd.func51, Tryd.ntmps51
  go_wp2_with (go_at_call 70; refine (asIn_any h x y z t w.heap.size _ ht1 (by have := HS.out; simp at this ⊢)).mono ?_; rintro e w1 ⟨rfl, h1, h2⟩)
  go_ret
  exact ⟨rfl, h1, (((Mod.refl (· = t) w).alloc _).alloc _).trans h2 (fun _ _ h => h)⟩
end Go.Proofs.YtkkaejbdekdljaaDoor
