/- Words and walks, part 2 of 19. -/
import Derived.Deep.QuietTactic
import Derived.BigQuiet
import Derived.Deep.RegionHeld3
import Derived.Test.YtkkaejbdekdljaaDoorRows
import Derived.ChangeSame
import Derived.ChangeVars
import Derived.JoinedOf
import Derived.RowKit
import Derived.RowKitTokens
import Derived.LaidLaws
import Derived.LaidHandle
import Derived.Stop.Joined
import Derived.Deep.Slices
import Derived.OpenShut
import Derived.Carry
import Derived.Test.YtkkaejbdekdljaaDoorQ1
/- Walks: errors.As at a target *api.Fault. -/
set_option linter.unusedVariables false
set_option linter.unusedSimpArgs false
namespace Go.Proofs.YtkkaejbdekdljaaDoor
open Go.RowKit Go.Extern.Stop Go.Stop Go.Extern

/-- The listed variable errors.errorType. -/
def ErrVar (w : World) : Prop := w.cell? ⟨0, 0, none⟩ = some (.iface 130 (.agg #[.pointer (some ⟨1, 29, none⟩)]))
theorem ErrVar.new_ {w w' : World} (h : ErrVar w) (hm : New w w') : ErrVar w' := hm.cell h (fun h => h)
theorem ErrVar.lt {w : World} (h : ErrVar w) : 0 < w.heap.size := World.block_lt_of_cell? w _ h

theorem Tryd.valueOfP (t : Addr) (w : World) : (ReflectliteValue.unpack (.iface 91 (.pointer (some t)))).run Tryd.prog w
    = .ok (.agg #[.pointer (some ⟨1, 91, none⟩), .pointer (some ⟨w.heap.size, 0, none⟩), .int .u64 150]) (w.alloc (.cells #[.pointer (some t)] 91)) := by kernel_rfl
theorem Tryd.typeP (a : Addr) (w : World) : (ReflectliteValue.methodAny (ReflectliteValue.valueError "reflectlite.Value.Type" 0) (fun t _ _ _ => ReflectliteType.toType t) #[.agg #[.pointer (some ⟨1, 91, none⟩), .pointer (some a), .int .u64 150]]).run Tryd.prog w
    = .ok (.iface 130 (.agg #[.pointer (some ⟨1, 91, none⟩)])) w := by kernel_rfl
theorem Tryd.methodKind (h : Value) (w : World) : (Go.method 279 130 (.agg #[h]) "Kind").run Tryd.prog w = .ok (94, h) w := by kernel_rfl
theorem Tryd.kindP (w : World) : ((ReflectliteType.abiMethod fun t => (fun a : Nat => Value.int IntKind.u8 (a : Int)) <$> Rtype.kind t) #[.pointer (some ⟨1, 91, none⟩)]).run Tryd.prog w = .ok (.int .u8 22) w := by kernel_rfl
theorem Tryd.kindF (w : World) : ((ReflectliteType.abiMethod fun t => (fun a : Nat => Value.int IntKind.u8 (a : Int)) <$> Rtype.kind t) #[.pointer (some ⟨1, 88, none⟩)]).run Tryd.prog w = .ok (.int .u8 25) w := by kernel_rfl

theorem rlm (z : Sem Value) (f : TypeId → Addr → Nat → Nat → Sem Value) (v : Value) :
    ReflectliteValue.method z f #[v] = (do match ← ReflectliteValue.parts v with | none => z | some (t, a, fl) => f t a fl (fl % 32)) := rfl
theorem Tryd.partsP (a : Addr) (w : World) : (ReflectliteValue.parts (.agg #[.pointer (some ⟨1, 91, none⟩), .pointer (some a), .int .u64 150])).run Tryd.prog w = .ok (some (91, a, 150)) w := by kernel_rfl
theorem Tryd.isNilP (a p : Addr) (W : World) (ha : W.cell? a = some (.pointer (some p))) :
    (ReflectliteValue.method (ReflectliteValue.valueError "reflectlite.Value.IsNil" 0) ReflectliteValue.isNil #[.agg #[.pointer (some ⟨1, 91, none⟩), .pointer (some a), .int .u64 150]]).run Tryd.prog W = .ok (.bool false) W := by
  rw [rlm]
  simp only [Sem.run_bind, Tryd.partsP, Result.andThen]
  simp [ReflectliteValue.isNil, loadVar, isAgg, underlying, Tryd.underlying91, ha, Result.andThen]

theorem Tryd.methodElem (h : Value) (w : World) : (Go.method 279 130 (.agg #[h]) "Elem").run Tryd.prog w = .ok (108, .agg #[h]) w := by kernel_rfl
theorem Tryd.methodImplements (h : Value) (w : World) : (Go.method 279 130 (.agg #[h]) "Implements").run Tryd.prog w = .ok (109, .agg #[h]) w := by kernel_rfl
theorem Tryd.methodAssignableTo (h : Value) (w : World) : (Go.method 279 130 (.agg #[h]) "AssignableTo").run Tryd.prog w = .ok (106, .agg #[h]) w := by kernel_rfl
theorem Tryd.elemP (w : World) : (ReflectliteType.method ReflectliteType.elem #[.agg #[.pointer (some ⟨1, 91, none⟩)]]).run Tryd.prog w = .ok (.iface 130 (.agg #[.pointer (some ⟨1, 88, none⟩)])) w := by kernel_rfl
theorem Tryd.implementsF (w : World) : (ReflectliteType.relation "Implements" ReflectliteType.implements_ #[.agg #[.pointer (some ⟨1, 88, none⟩)], .iface 130 (.agg #[.pointer (some ⟨1, 29, none⟩)])]).run Tryd.prog w = .ok (.bool true) w := by kernel_rfl
theorem Tryd.typeOfF (v : Value) (w : World) : (ReflectliteType.typeOf #[.iface 88 v]).run Tryd.prog w = .ok (.iface 130 (.agg #[.pointer (some ⟨1, 88, none⟩)])) w := by kernel_rfl
theorem Tryd.typeOfE (v : Value) (w : World) : (ReflectliteType.typeOf #[.iface 80 v]).run Tryd.prog w = .ok (.iface 130 (.agg #[.pointer (some ⟨1, 80, none⟩)])) w := by kernel_rfl
theorem Tryd.typeOfR (v : Value) (w : World) : (ReflectliteType.typeOf #[.iface 82 v]).run Tryd.prog w = .ok (.iface 130 (.agg #[.pointer (some ⟨1, 82, none⟩)])) w := by kernel_rfl
theorem Tryd.asgF (w : World) : (ReflectliteType.relation "AssignableTo" ReflectliteType.assignableTo #[.agg #[.pointer (some ⟨1, 88, none⟩)], .iface 130 (.agg #[.pointer (some ⟨1, 88, none⟩)])]).run Tryd.prog w = .ok (.bool true) w := by kernel_rfl
theorem Tryd.asgE (w : World) : (ReflectliteType.relation "AssignableTo" ReflectliteType.assignableTo #[.agg #[.pointer (some ⟨1, 80, none⟩)], .iface 130 (.agg #[.pointer (some ⟨1, 88, none⟩)])]).run Tryd.prog w = .ok (.bool false) w := by kernel_rfl
theorem Tryd.asgR (w : World) : (ReflectliteType.relation "AssignableTo" ReflectliteType.assignableTo #[.agg #[.pointer (some ⟨1, 82, none⟩)], .iface 130 (.agg #[.pointer (some ⟨1, 88, none⟩)])]).run Tryd.prog w = .ok (.bool false) w := by kernel_rfl
theorem Tryd.valueOfF (a b c : Value) (w : World) : (ReflectliteValue.unpack (.iface 88 (.agg #[a, b, c]))).run Tryd.prog w
    = .ok (.agg #[.pointer (some ⟨1, 88, none⟩), .pointer (some ⟨w.heap.size, 0, none⟩), .int .u64 153]) (w.alloc (.cells #[a, b, c] 88)) := by kernel_rfl
theorem Tryd.noAsE (v : Value) (xT : TypeId) (w : World) : (Instr.typeAssert (.iface 80 v) xT 134 true).run Tryd.prog w = .ok (.tuple #[.nilIface, .bool false]) w := run_typeAssert_lacksB Tryd.underlying134 (by kernel_rfl) (by kernel_rfl) v xT w
theorem Tryd.noAsR (v : Value) (xT : TypeId) (w : World) : (Instr.typeAssert (.iface 82 v) xT 134 true).run Tryd.prog w = .ok (.tuple #[.nilIface, .bool false]) w := run_typeAssert_lacksB Tryd.underlying134 (by kernel_rfl) (by kernel_rfl) v xT w
theorem Tryd.elemOfP (w : World) : (Rtype.elem? 91).run Tryd.prog w = .ok (some 88) w := by kernel_rfl
theorem Tryd.mkF (p : Addr) (w : World) : (ReflectliteValue.mk 88 p ReflectliteValue.flagAddr).run Tryd.prog w = .ok (.agg #[.pointer (some ⟨1, 88, none⟩), .pointer (some p), .int .u64 409]) w := by kernel_rfl
theorem Tryd.elemVP (a p : Addr) (W : World) (ha : W.cell? a = some (.pointer (some p))) :
    (ReflectliteValue.method (ReflectliteValue.valueError "reflectlite.Value.Elem" 0) ReflectliteValue.elem #[.agg #[.pointer (some ⟨1, 91, none⟩), .pointer (some a), .int .u64 150]]).run Tryd.prog W
      = .ok (.agg #[.pointer (some ⟨1, 88, none⟩), .pointer (some p), .int .u64 409]) W := by
  rw [rlm]
  simp only [Sem.run_bind, Tryd.partsP, Result.andThen]
  simp [ReflectliteValue.elem, loadVar, isAgg, underlying, Tryd.underlying91, ha, Result.andThen, Tryd.elemOfP, Tryd.mkF]
theorem Tryd.partsFa (a : Addr) (w : World) : (ReflectliteValue.parts (.agg #[.pointer (some ⟨1, 88, none⟩), .pointer (some a), .int .u64 409])).run Tryd.prog w = .ok (some (88, a, 409)) w := by kernel_rfl
theorem Tryd.partsF (a : Addr) (w : World) : (ReflectliteValue.parts (.agg #[.pointer (some ⟨1, 88, none⟩), .pointer (some a), .int .u64 153])).run Tryd.prog w = .ok (some (88, a, 153)) w := by kernel_rfl
theorem Tryd.directF (w : World) : (Rtype.directlyAssignable 88 88).run Tryd.prog w = .ok true w := by kernel_rfl
theorem rls (v x : Value) : ReflectliteValue.set #[v, x] = (do
    let (some (dst, a, fl), some (src, b, _)) := (← ReflectliteValue.parts v, ← ReflectliteValue.parts x)
      | unsupported (.noEntry "extern/(internal/reflectlite.Value).Set.zeroValue")
    if fl / ReflectliteValue.flagAddr % 2 == 0 then unsupported (.noEntry "extern/(internal/reflectlite.Value).Set.unaddressable")
    let val ← loadVar src b
    if ← Rtype.directlyAssignable dst src then storeVar dst a val
    else if ← Rtype.implements dst src then
      if (← Rtype.kind src) == 20 then
        match val with
        | .nilIface => unsupported (.noEntry "extern/reflectlite: a nil value of one interface type handed on as a value of another")
        | _ => storeVar dst a val
      else storeVar dst a (.iface src val)
    else panicString ("reflectlite.Set: value of type " ++ (← Rtype.spelt src) ++ " is not assignable to type " ++ (← Rtype.spelt dst))
    pure (.tuple #[])) := rfl
theorem Blk.row {w : World} {g : Nat} {t : TypeId} {cs ds : List Value} (h : Blk w g t cs) : Blk (w.setRow g ds.toArray) g t ds := by
  unfold Blk at h ⊢
  simp [World.setRow, Array.getElem?_modify, h]
theorem Mod.row {S : Nat → Prop} {w w' : World} (h : Mod S w w') {g : Nat} (hp : g < w.heap.size → S g) (ds : Array Value) : Mod S w (w'.setRow g ds) :=
  ⟨h.os, h.tape, h.output, by simpa [World.setRow] using h.size, fun i hi hn => by
    rw [← h.block i hi hn]
    simp only [World.setRow, Array.getElem?_modify]
    rw [if_neg (fun e => hn (by subst e; exact hp hi))]⟩
theorem Tryd.setF (t s : Nat) (a b c x y z : Value) (W : World) (h0 : W.cell? ⟨s, 0, none⟩ = some a) (h1 : W.cell? ⟨s, 1, none⟩ = some b) (h2 : W.cell? ⟨s, 2, none⟩ = some c) (ht : Blk W t 88 [x, y, z])
    (ho : a.oneCell' = true ∧ b.oneCell' = true ∧ c.oneCell' = true) :
    (ReflectliteValue.set #[.agg #[.pointer (some ⟨1, 88, none⟩), .pointer (some ⟨t, 0, none⟩), .int .u64 409], .agg #[.pointer (some ⟨1, 88, none⟩), .pointer (some ⟨s, 0, none⟩), .int .u64 153]]).run Tryd.prog W
      = .ok (.tuple #[]) (W.setRow t #[a, b, c]) := by
  have hl := run_loadCells_list (P := Tryd.prog) W ⟨s, 0, none⟩ [a, b, c] (fun j v hv => by
    rw [add_plain]
    match j, hv with
    | 0, hv => simp at hv; subst hv; exact h0
    | 1, hv => simp at hv; subst hv; exact h1
    | 2, hv => simp at hv; subst hv; exact h2)
  have hs := run_storeCells_from (P := Tryd.prog) t 88 [a, b, c] 0 #[x, y, z] W ht rfl (by simp [ho])
  have hc : (Value.agg #[a, b, c]).cells = #[a, b, c] := rfl
  rw [rls]
  simp only [Sem.run_bind, Tryd.partsFa, Tryd.partsF, Result.andThen]
  simp [ReflectliteValue.flagAddr, loadVar, isAgg, underlying, Tryd.underlying88, Result.andThen, Tryd.directF, storeVar]
  simp at hl hs
  simp [hl, hc, hs]
abbrev valP (s : Nat) : Value := .agg #[.pointer (some ⟨1, 91, none⟩), .pointer (some ⟨s, 0, none⟩), .int .u64 150]
abbrev typF : Value := .iface 130 (.agg #[.pointer (some ⟨1, 88, none⟩)])
set_option maxHeartbeats 4000000 in
set_option maxRecDepth 1000000 in
theorem asIn_hit (a l c x y z : Int) (t s : Nat) (w : World) (ht : Blk w t 88 [.int .i64 x, .int .i64 y, .int .i64 z]) (hs : w.cell? ⟨s, 0, none⟩ = some (.pointer (some ⟨t, 0, none⟩))) :
    Calls Tryd.prog 70 #[.iface 88 (.agg #[.int .i64 a, .int .i64 l, .int .i64 c]), .iface 91 (.pointer (some ⟨t, 0, none⟩)), .agg #[.pointer (some ⟨1, 91, none⟩), .pointer (some ⟨s, 0, none⟩), .int .u64 150], .iface 130 (.agg #[.pointer (some ⟨1, 88, none⟩)])] w fun ev w' => ev = .returned (.bool true) ∧ Blk w' t 88 [.int .i64 a, .int .i64 l, .int .i64 c] ∧ Mod (· = t) w w' := by
  have h6 := @run_callFunc_extern Tryd.prog 67 _ (fun args => ReflectliteValue.unpack (args.getD 0 (.tuple #[]))) Tryd.func67 (by kernel_rfl) (by kernel_rfl) (by kernel_rfl) (by kernel_rfl)
  have h10 := @run_callFunc_extern Tryd.prog 74 _ ReflectliteType.typeOf Tryd.func74 (by kernel_rfl) (by kernel_rfl) (by kernel_rfl) (by kernel_rfl)
  have h35 := @run_callFunc_extern Tryd.prog 106 _ (ReflectliteType.relation "AssignableTo" ReflectliteType.assignableTo) Tryd.func106 (by kernel_rfl) (by kernel_rfl) (by kernel_rfl) (by kernel_rfl)
  have h11 := @run_callFunc_extern Tryd.prog 76 _ (ReflectliteValue.method (ReflectliteValue.valueError "reflectlite.Value.Elem" 0) ReflectliteValue.elem) Tryd.func76 (by kernel_rfl) (by kernel_rfl) (by kernel_rfl) (by kernel_rfl)
  have h12 := @run_callFunc_extern Tryd.prog 77 _ ReflectliteValue.set Tryd.func77 (by kernel_rfl) (by kernel_rfl) (by kernel_rfl) (by kernel_rfl)
  have tO := Tryd.typeOfF
  have mA := Tryd.methodAssignableTo
  have aF := Tryd.asgF
  have vF := Tryd.valueOfF
  have hsl := World.block_lt_of_cell? w _ hs
  have htl := ht.lt
  have el := Tryd.elemVP ⟨s, 0, none⟩ ⟨t, 0, none⟩ (w.alloc (.cells #[.pointer (some ⟨1, 91, none⟩), .pointer (some ⟨s, 0, none⟩), .int .u64 150] 115)) (by rw [World.cell?_alloc_lt _ _ ⟨s, 0, none⟩ hsl]; exact hs)
  have hb2 := Blk.new (w.alloc (.cells #[.pointer (some ⟨1, 91, none⟩), .pointer (some ⟨s, 0, none⟩), .int .u64 150] 115)) 88 [.int .i64 a, .int .i64 l, .int .i64 c]
  have st := Tryd.setF t (w.heap.size + 1) (.int .i64 a) (.int .i64 l) (.int .i64 c) _ _ _ ((w.alloc (.cells #[.pointer (some ⟨1, 91, none⟩), .pointer (some ⟨s, 0, none⟩), .int .u64 150] 115)).alloc (.cells #[.int .i64 a, .int .i64 l, .int .i64 c] 88))
    (by simp) (by simp) (by simp) ((ht.alloc _).alloc _) ⟨rfl, rfl, rfl⟩
  go_enter Tryd.func70, Tryd.ntmps70
  go_wp2
  refine wp_loop_rounds 1 ?_
  rw [rounds_succ]
  go_wp2
  go_ret
  exact ⟨rfl, ((ht.alloc _).alloc _).row, (((Mod.refl (· = t) w).alloc _).alloc _).row (fun _ => rfl) _⟩
set_option maxHeartbeats 4000000 in
set_option maxRecDepth 1000000 in
theorem asIn_errno (a : Int) (tv : Value) (s : Nat) (w : World) :
    Calls Tryd.prog 70 #[.iface 80 (.int .i64 a), tv, .agg #[.pointer (some ⟨1, 91, none⟩), .pointer (some ⟨s, 0, none⟩), .int .u64 150], .iface 130 (.agg #[.pointer (some ⟨1, 88, none⟩)])] w fun ev w' => ev = .returned (.bool false) ∧ New w w' := by
  have h10 := @run_callFunc_extern Tryd.prog 74 _ ReflectliteType.typeOf Tryd.func74 (by kernel_rfl) (by kernel_rfl) (by kernel_rfl) (by kernel_rfl)
  have h35 := @run_callFunc_extern Tryd.prog 106 _ (ReflectliteType.relation "AssignableTo" ReflectliteType.assignableTo) Tryd.func106 (by kernel_rfl) (by kernel_rfl) (by kernel_rfl) (by kernel_rfl)
  have tO := Tryd.typeOfE
  have mA := Tryd.methodAssignableTo
  have aF := Tryd.asgE
  have n1 := Tryd.noAsE
  have n2 := Tryd.noUnErrno
  have n3 := Tryd.noUnsErrno
  go_enter Tryd.func70, Tryd.ntmps70
  go_wp2
  refine wp_loop_rounds 1 ?_
  rw [rounds_succ]
  go_wp2
  go_ret
  exact ⟨rfl, (Mod.refl _ _).alloc _⟩
set_option maxHeartbeats 4000000 in
set_option maxRecDepth 1000000 in
theorem asIn_ref (a : Int) (tv : Value) (s : Nat) (w : World) :
    Calls Tryd.prog 70 #[.iface 82 (.agg #[.int .i64 a]), tv, .agg #[.pointer (some ⟨1, 91, none⟩), .pointer (some ⟨s, 0, none⟩), .int .u64 150], .iface 130 (.agg #[.pointer (some ⟨1, 88, none⟩)])] w fun ev w' => ev = .returned (.bool false) ∧ New w w' := by
  have h10 := @run_callFunc_extern Tryd.prog 74 _ ReflectliteType.typeOf Tryd.func74 (by kernel_rfl) (by kernel_rfl) (by kernel_rfl) (by kernel_rfl)
  have h35 := @run_callFunc_extern Tryd.prog 106 _ (ReflectliteType.relation "AssignableTo" ReflectliteType.assignableTo) Tryd.func106 (by kernel_rfl) (by kernel_rfl) (by kernel_rfl) (by kernel_rfl)
  have tO := Tryd.typeOfE
  have tR := Tryd.typeOfR
  have mA := Tryd.methodAssignableTo
  have aF := Tryd.asgE
  have aR := Tryd.asgR
  have n1 := Tryd.noAsE
  have n2 := Tryd.noUnErrno
  have n3 := Tryd.noUnsErrno
  have n4 := Tryd.noAsR
  have n5 := Tryd.hasUnRef
  have n6 := Tryd.unRef
  go_enter Tryd.func70, Tryd.ntmps70
  go_wp2
  refine wp_loop_rounds 2 ?_
  rw [rounds_succ]
  go_wp2_with (go_at_call 99; refine (unwrapRef a _).mono ?_; rintro e w1 ⟨rfl, hw1⟩)
  try rw [rounds_succ]
  go_wp2
  go_ret
  exact ⟨rfl, New.trans ((Mod.refl _ _).alloc _) hw1⟩

/-- What lies at the target behind errors.As. -/
def AsCells (m : Option (Int × Int)) (a : Int) (cs : List Value) : List Value :=
  match m with
  | none => cs
  | some (l, c) => [.int .i64 a, .int .i64 l, .int .i64 c]
/-- What errors.As does at a target of this project's. -/
abbrev AsPost (m : Option (Int × Int)) (a : Int) (t : Nat) (cs : List Value) (w : World) (ev : Ending) (w' : World) : Prop :=
  ev = .returned (.bool m.isSome) ∧ Blk w' t 88 (AsCells m a cs) ∧ Mod (· = t) w w'
theorem asIn_any {v : Value} {a : Int} {m : Option (Int × Int)} (h : Er v a m) (x y z : Int) (t s : Nat) (w : World) (ht : Blk w t 88 [.int .i64 x, .int .i64 y, .int .i64 z]) (hs : w.cell? ⟨s, 0, none⟩ = some (.pointer (some ⟨t, 0, none⟩))) :
    Calls Tryd.prog 70 #[v, .iface 91 (.pointer (some ⟨t, 0, none⟩)), .agg #[.pointer (some ⟨1, 91, none⟩), .pointer (some ⟨s, 0, none⟩), .int .u64 150], .iface 130 (.agg #[.pointer (some ⟨1, 88, none⟩)])] w (AsPost m a t [.int .i64 x, .int .i64 y, .int .i64 z] w) := by
  cases h with
  | errno a => exact (asIn_errno a _ s w).mono fun e w' ⟨h1, h2⟩ => ⟨h1, ht.new_ h2, Mod.mono h2 (fun _ _ h => h.elim)⟩
  | ref a => exact (asIn_ref a _ s w).mono fun e w' ⟨h1, h2⟩ => ⟨h1, ht.new_ h2, Mod.mono h2 (fun _ _ h => h.elim)⟩
  | fault a l c => exact (asIn_hit a l c x y z t s w ht hs).mono fun e w' h => h

set_option maxHeartbeats 4000000 in
set_option maxRecDepth 1000000 in
theorem as_any {v : Value} {a : Int} {m : Option (Int × Int)} (h : Er v a m) (x y z : Int) (t : Nat) (w : World) (hg : ErrVar w) (ht : Blk w t 88 [.int .i64 x, .int .i64 y, .int .i64 z]) :
    Calls Tryd.prog 51 #[v, .iface 91 (.pointer (some ⟨t, 0, none⟩))] w (AsPost m a t [.int .i64 x, .int .i64 y, .int .i64 z] w) := by
  have h6 := @run_callFunc_extern Tryd.prog 67 _ (fun args => ReflectliteValue.unpack (args.getD 0 (.tuple #[]))) Tryd.func67 (by kernel_rfl) (by kernel_rfl) (by kernel_rfl) (by kernel_rfl)
  have h7 := @run_callFunc_extern Tryd.prog 68 _ (ReflectliteValue.methodAny (ReflectliteValue.valueError "reflectlite.Value.Type" 0) (fun t _ _ _ => ReflectliteType.toType t)) Tryd.func68 (by kernel_rfl) (by kernel_rfl) (by kernel_rfl) (by kernel_rfl)
  have h8 := @run_callFunc_extern Tryd.prog 69 _ (ReflectliteValue.method (ReflectliteValue.valueError "reflectlite.Value.IsNil" 0) ReflectliteValue.isNil) Tryd.func69 (by kernel_rfl) (by kernel_rfl) (by kernel_rfl) (by kernel_rfl)
  have h27 := @run_callFunc_extern Tryd.prog 94 _ (ReflectliteType.abiMethod fun t => do pure (.int .u8 (← Rtype.kind t))) Tryd.func94 (by kernel_rfl) (by kernel_rfl) (by kernel_rfl) (by kernel_rfl)
  have h37 := @run_callFunc_extern Tryd.prog 108 _ (ReflectliteType.method ReflectliteType.elem) Tryd.func108 (by kernel_rfl) (by kernel_rfl) (by kernel_rfl) (by kernel_rfl)
  have h38 := @run_callFunc_extern Tryd.prog 109 _ (ReflectliteType.relation "Implements" ReflectliteType.implements_) Tryd.func109 (by kernel_rfl) (by kernel_rfl) (by kernel_rfl) (by kernel_rfl)
  have f6 := Tryd.valueOfP
  have f7 := Tryd.typeP
  have mK := Tryd.methodKind
  have mE := Tryd.methodElem
  have mI := Tryd.methodImplements
  have kP := Tryd.kindP
  have kF := Tryd.kindF
  have eP := Tryd.elemP
  have iF := Tryd.implementsF
  have nP := fun (a : Nat) (W : World) (h : W.cell? ⟨a, 0, none⟩ = some (.pointer (some ⟨t, 0, none⟩))) => Tryd.isNilP ⟨a, 0, none⟩ ⟨t, 0, none⟩ W h
  unfold ErrVar at hg
  have hlt := World.block_lt_of_cell? w _ hg
  have hs := Blk.new w 91 [.pointer (some ⟨t, 0, none⟩)]
  have hs1 := (hs.alloc (.cells #[.pointer (some ⟨1, 91, none⟩), .pointer (some ⟨w.heap.size, 0, none⟩), .int .u64 150] 115)).cell 0
  have ht1 := (ht.alloc (.cells #[.pointer (some ⟨t, 0, none⟩)] 91)).alloc (.cells #[.pointer (some ⟨1, 91, none⟩), .pointer (some ⟨w.heap.size, 0, none⟩), .int .u64 150] 115)
  have HS := Lib.hid hs1
  clear hs1 hs
  obtain ⟨tt, xx, rfl⟩ := h.iface
  go_enter Tryd.func51, Tryd.ntmps51
  go_wp2_with (go_at_call 70; refine (asIn_any h x y z t w.heap.size _ ht1 (by have := HS.out; simp at this ⊢)).mono ?_; rintro e w1 ⟨rfl, h1, h2⟩)
  go_ret
  exact ⟨rfl, h1, (((Mod.refl (· = t) w).alloc _).alloc _).trans h2 (fun _ _ h => h)⟩
end Go.Proofs.YtkkaejbdekdljaaDoor
/- Walks: Place, Plain, At of the statements' kit. -/
set_option linter.unusedVariables false
set_option linter.unusedSimpArgs false
namespace Go.Proofs.YtkkaejbdekdljaaDoor
open Go.RowKit

set_option maxHeartbeats 1000000 in
set_option maxRecDepth 1000000 in
theorem plain_any {v : Value} {a : Int} (h : Er v a none) (h1 : 1 ≤ a) (h24 : a ≤ 24) (w : World) (hg : ErrVar w) :
    Calls Tryd.prog 22 #[v, .int .i64 a] w fun e w' => e = .returned (.bool true) ∧ New w w' := by
  have hlt := hg.lt
  have hd : (a == a) = true := by simp
  obtain ⟨t, x, rfl⟩ := h.iface
  go_enter Tryd.func22, Tryd.ntmps22
  go_wp2_with fail
  refine (num_any h h1 h24 _).mono ?_
  rintro e w1 ⟨rfl, hw1⟩
  have hb := (Blk.new w 88 [.int .i64 0, .int .i64 0, .int .i64 0]).new_ hw1
  have hg1 : ErrVar w1 := (hg.new_ ((Mod.refl _ _).alloc _)).new_ hw1
  have HW := Lib.hid hw1
  go_wp2_with fail
  refine (as_any h 0 0 0 w.heap.size _ hg1 hb).mono ?_
  rintro e w2 ⟨rfl, hb2, hw2⟩
  go_wp2
  go_ret
  exact ⟨rfl, Mod.trans (New.trans ((Mod.refl _ _).alloc _) hw1) hw2 (fun i hi hs => by omega)⟩
set_option maxRecDepth 1000000 in
theorem plain_nil (w : World) :
    Calls Tryd.prog 22 #[.nilIface, .int .i64 0] w fun e w' => e = .returned (.bool true) ∧ New w w' := by
  go_enter Tryd.func22, Tryd.ntmps22
  go_wp2_with fail
  refine (num_nil _).mono ?_
  rintro e w1 ⟨rfl, hw1⟩
  go_wp2
  go_ret
  exact ⟨rfl, New.trans ((Mod.refl _ _).alloc _) hw1⟩

theorem three_step {w0 w w' : World} {p q r : Addr} {x y z : Value} (h : (w.cell? p = some x ∧ w.cell? q = some y ∧ w.cell? r = some z) ∧ New w0 w) (hm : New w w') :
    (w'.cell? p = some x ∧ w'.cell? q = some y ∧ w'.cell? r = some z) ∧ New w0 w' :=
  ⟨⟨hm.cell h.1.1 (fun h => h), hm.cell h.1.2.1 (fun h => h), hm.cell h.1.2.2 (fun h => h)⟩, New.trans h.2 hm⟩
set_option maxHeartbeats 1000000 in
set_option maxRecDepth 1000000 in
theorem place_any {v : Value} {a l c : Int} (h : Er v a (some (l, c))) (h1 : 1 ≤ a) (h24 : a ≤ 24) (w : World) (hg : ErrVar w) :
    Calls Tryd.prog 65 #[v] w fun e w' => e = .returned (.tuple #[.int .i64 l, .int .i64 c, .bool true]) ∧ New w w' := by
  have hlt := hg.lt
  have hd : (a == a) = true := by simp
  have hb := Blk.new w 88 [.int .i64 0, .int .i64 0, .int .i64 0]
  have hg1 : ErrVar (w.alloc (.cells #[.int .i64 0, .int .i64 0, .int .i64 0] 88)) := hg.new_ ((Mod.refl _ _).alloc _)
  obtain ⟨t, x, rfl⟩ := h.iface
  go_enter Tryd.func65, Tryd.ntmps65
  go_wp2_with fail
  refine (as_any h 0 0 0 w.heap.size _ hg1 hb).mono ?_
  rintro e w2 ⟨rfl, hb2, hw2⟩
  have c0 := hb2.cell 0
  have c1 := hb2.cell 1
  have c2 := hb2.cell 2
  simp only [AsCells, List.getElem?_cons_zero, List.getElem?_cons_succ] at c0 c1 c2
  clear hb2
  have HW2 := Lib.hid hw2
  clear hw2 hg1 hb
  go_wp2
  go_region_held3 (fun w' => (w'.cell? ⟨w.heap.size, 0, none⟩ = some (.int .i64 a) ∧ w'.cell? ⟨w.heap.size, 1, none⟩ = some (.int .i64 l) ∧ w'.cell? ⟨w.heap.size, 2, none⟩ = some (.int .i64 c)) ∧ New w2 w') ((first | exact ⟨⟨‹_›, ‹_›, ‹_›⟩, (Mod.refl _ _).drew⟩ | (refine three_step ?_ hw3; assumption))) ((go_at_call 50; refine (num_any h h1 h24 _).mono ?_; rintro e w3 ⟨rfl, hw3⟩))
  go_wp2
  go_ret3
  obtain ⟨_, hn⟩ := ‹_ ∧ New w2 _›
  exact ⟨rfl, New.trans (Mod.trans ((Mod.refl (fun _ => False) w).alloc _) HW2.out (fun i hi hs => by omega)) hn⟩

set_option maxHeartbeats 1000000 in
theorem at_any {v : Value} {a l c : Int} (h : Er v a (some (l, c))) (h1 : 1 ≤ a) (h24 : a ≤ 24) (w : World) (hg : ErrVar w) :
    Calls Tryd.prog 42 #[v, .int .i64 a, .int .i64 l, .int .i64 c] w fun e w' => e = .returned (.bool true) ∧ New w w' := by
  have hd : (a == 0) = false := by simp; omega
  have hd1 : (a == a) = true := by simp
  have hd2 : (l == l) = true := by simp
  have hd3 : (c == c) = true := by simp
  obtain ⟨t, x, rfl⟩ := h.iface
  go_enter Tryd.func42, Tryd.ntmps42
  go_wp2_with fail
  refine (place_any h h1 h24 _ hg).mono ?_
  rintro e w1 ⟨rfl, hw1⟩
  go_wp2_with fail
  refine (num_any h h1 h24 _).mono ?_
  rintro e w2 ⟨rfl, hw2⟩
  go_wp2
  go_ret
  exact ⟨rfl, New.trans hw1 hw2⟩
theorem at_nil (l c : Int) (w : World) :
    Calls Tryd.prog 42 #[.nilIface, .int .i64 0, .int .i64 l, .int .i64 c] w fun e w' => e = .returned (.bool true) ∧ New w w' := by
  go_enter Tryd.func42, Tryd.ntmps42
  go_wp2
  go_ret
  exact ⟨rfl, Mod.refl _ _⟩
end Go.Proofs.YtkkaejbdekdljaaDoor
/- Words: lists of elements of so many cells each. -/
set_option linter.unusedVariables false
set_option linter.unusedSimpArgs false
namespace Go.Proofs.YtkkaejbdekdljaaDoor
open Go.RowKit

section
variable {α : Type} {enc : α → List Value} {sz : Nat}
/-- The cells of a list's elements. -/
def cellsL (enc : α → List Value) (l : List α) : List Value := l.flatMap enc
theorem cellsL_append (l r : List α) : cellsL enc (l ++ r) = cellsL enc l ++ cellsL enc r := by simp [cellsL]
theorem cellsL_one (p : α) : cellsL enc [p] = enc p := by simp [cellsL]
theorem cellsL_length (hs : ∀ p, (enc p).length = sz) (l : List α) : (cellsL enc l).length = l.length * sz := by
  induction l with
  | nil => simp [cellsL]
  | cons p l ih => simp only [cellsL, List.flatMap_cons, List.length_append, List.length_cons, hs] at ih ⊢; rw [ih, Nat.add_mul]; omega
theorem cellsL_at (hs : ∀ p, (enc p).length = sz) (l : List α) (k j : Nat) (p : α) (h : l[k]? = some p) (hj : j < sz) : (cellsL enc l)[k * sz + j]? = (enc p)[j]? := by
  induction l generalizing k with
  | nil => simp at h
  | cons q l ih =>
    cases k with
    | zero =>
      simp at h; subst h
      simp only [cellsL, List.flatMap_cons, Nat.zero_mul, Nat.zero_add]
      rw [List.getElem?_append_left (by rw [hs]; exact hj)]
    | succ k =>
      have := ih k (by simpa using h)
      simp only [cellsL, List.flatMap_cons] at this ⊢
      rw [List.getElem?_append_right (by rw [hs, Nat.add_mul]; omega), hs, show (k + 1) * sz + j - sz = k * sz + j from by rw [Nat.add_mul]; omega]
      exact this
theorem take_next (l : List α) (k : Nat) (p : α) (h : l[k]? = some p) : cellsL enc (l.take (k + 1)) = cellsL enc (l.take k) ++ enc p := by
  rw [List.take_add_one, h, cellsL_append]; simp [cellsL]
theorem Sl.elem {w : World} {A : Option Addr} {n : Nat} {l : List α} (hs : ∀ p, (enc p).length = sz) (hz : 0 < sz) (h : Sl w A n sz (cellsL enc l)) {k : Nat} (hk : k < n) :
    ∃ b off p, A = some ⟨b, off, none⟩ ∧ l[k]? = some p ∧ ∀ j v, (enc p)[j]? = some v → w.cell? ⟨b, off + k * sz + j, none⟩ = some v := by
  obtain ⟨b, off, e, hc⟩ := h.cells (by omega)
  have hl : k < l.length := by
    have := h.len; rw [cellsL_length hs] at this
    have : l.length = n := Nat.eq_of_mul_eq_mul_right hz this
    omega
  refine ⟨b, off, l[k], e, List.getElem?_eq_getElem hl, fun j v hv => ?_⟩
  rw [Nat.add_assoc]
  refine hc _ v ?_
  have hj : j < sz := by have := (List.getElem?_eq_some_iff.1 hv).1; rwa [hs] at this
  rw [cellsL_at hs l k j l[k] (List.getElem?_eq_getElem hl) hj]; exact hv
theorem Sl.length {w : World} {A : Option Addr} {n : Nat} {l : List α} (hs : ∀ p, (enc p).length = sz) (hz : 0 < sz) (h : Sl w A n sz (cellsL enc l)) : l.length = n := by
  have := h.len; rw [cellsL_length hs] at this
  exact Nat.eq_of_mul_eq_mul_right hz this
end
/-- A list that was lent: the block behind it is known beyond the list's end. -/
def Lent (w : World) (B : Nat) (e : TypeId) (sz g n cap : Nat) (xs : List Value) : Prop := w.ownsRow B e sz (.slice (some ⟨g, 0, none⟩) (n + 16) cap) (n + 16) xs
theorem Lent.cap {w : World} {B sz g n cap : Nat} {e : TypeId} {xs : List Value} (h : Lent w B e sz g n cap xs) : n + 16 ≤ cap ∧ cap ≤ 9223372036854775807 := by
  rcases h.2 with ⟨h1, _⟩ | ⟨g', cap', cur, h1, _, _, h2, h3, _⟩
  · cases h1
  · injection h1 with h1 h4 h5
    subst h5
    unfold maxLen at h3
    omega
theorem Lent.new_ {w w' : World} {B sz g n cap : Nat} {e : TypeId} {xs : List Value} (h : Lent w B e sz g n cap xs) (hm : New w w') : Lent w' B e sz g n cap xs := own_new h hm
theorem Lent.full {w : World} {B sz g n cap : Nat} {e : TypeId} {xs : List Value} (h : Lent w B e sz g n cap xs) : Sl w (some ⟨g, 0, none⟩) (n + 16) sz xs := own_sl h
theorem Lent.sl {w : World} {B sz g n cap : Nat} {e : TypeId} {xs ys : List Value} (h : Lent w B e sz g n cap (xs ++ ys)) (hl : xs.length = n * sz) : Sl w (some ⟨g, 0, none⟩) n sz xs :=
  ⟨hl, by have := h.full.le; omega, fun hn => by
    obtain ⟨b, off, e, hc⟩ := h.full.cells (by omega)
    refine ⟨b, off, e, fun j u hu => hc j u ?_⟩
    rw [List.getElem?_append_left (List.getElem?_eq_some_iff.1 hu).1]; exact hu⟩
end Go.Proofs.YtkkaejbdekdljaaDoor
/- The rows' common part: what the listed variable gives a walk; a world that meets the condition; arguments opened to lists; what a walk's end gives a row. -/
set_option linter.unusedVariables false
set_option linter.unusedSimpArgs false
namespace Go.Proofs.YtkkaejbdekdljaaDoor
open Go.ChangeShapes Go.WideShapes Go.RowKit

theorem Tryd.own : ownKnob Tryd.prog.godebug = none := by kernel_rfl
theorem Tryd.laidOut : laidOutB Tryd.prog = true := by kernel_rfl
theorem Tryd.et : Tryd.prog.globalNamed "errors.errorType" = some 0 := by kernel_rfl
theorem Tryd.rt : (Tryd.prog.cutTypes.find? (·.1 == "internal/reflectlite.rtype")).map (·.2) = some 130 := by kernel_rfl
theorem Tryd.oneRow : ((List.range 179).filter fun t => Tryd.prog.rowNamed t [101, 114, 114, 111, 114]) = [29] := by kernel_rfl
theorem Tryd.ntypes : Tryd.prog.types.size = 179 := by kernel_rfl
/-- The condition on the listed variable. -/
abbrev laidList {H : Type} : List (String × DataW H) := [("errors.errorType", Rows.laid_errors_errorType)]

theorem handle_of_laid {W : World} (h : laidMetH Tryd.prog [("errors.errorType", Rows.laid_errors_errorType)] W) : ErrVar W := by
  have h' : laidMet Tryd.prog [] W ∧ handlesMet Tryd.prog [("errors.errorType", Rows.laid_errors_errorType)] W := h
  obtain ⟨name, u, ty, e1, e2, e3, e4, e5⟩ := h'.2 _ (List.mem_singleton.2 rfl)
  have en : name = [101, 114, 114, 111, 114] := (Option.some.inj e1).symm
  subst en
  obtain rfl := Option.some.inj (Tryd.rt.symm.trans e2)
  have hm : ty ∈ (List.range 179).filter fun t => Tryd.prog.rowNamed t [101, 114, 114, 111, 114] := List.mem_filter.2 ⟨List.mem_range.2 (by rw [← Tryd.ntypes]; exact e3), e4⟩
  rw [Tryd.oneRow] at hm
  obtain rfl := List.mem_singleton.1 hm
  have hh : typeHandle Tryd.prog 29 = .pointer (some ⟨1, 29, none⟩) := by kernel_rfl
  rw [hh] at e5
  have := World.var?_cell Tryd.et e5 0
  simpa [ErrVar] using this

/-- A world that meets the condition: the settled one, the variable's cell laid. -/
noncomputable def laidWorld (os : Os) : World :=
  let w0 := World.holding Tryd.prog os ⟨#[], #[], []⟩
  { w0 with heap := w0.heap.modify 0 fun
      | .cells _ t frozen => .cells #[.iface 130 (.agg #[.pointer (some ⟨1, 29, none⟩)])] t frozen
      | o => o }
theorem laidWorld_met (os : Os) (args : Array Value) : laidMetH Tryd.prog [("errors.errorType", Rows.laid_errors_errorType)] ((laidWorld os).forCall (fun _ _ => 0) ⟨#[], args, []⟩).memory :=
  laidMetH_of_parts (laidMet_nil _ _) (by kernel_rfl)

/-- A list out of facts on each place. -/
theorem list_of {α : Type} (Q : Nat → α → Prop) : ∀ n, (∀ i, i < n → ∃ p, Q i p) → ∃ l : List α, l.length = n ∧ ∀ i p, l[i]? = some p → Q i p := by
  intro n
  induction n with
  | zero => exact fun _ => ⟨[], rfl, fun i p h => by simp at h⟩
  | succ n ih =>
    intro h
    obtain ⟨l, hl, hq⟩ := ih fun i hi => h i (by omega)
    obtain ⟨p, hp⟩ := h n (by omega)
    refine ⟨l ++ [p], by simp [hl], fun i q hi => ?_⟩
    by_cases hn : i < n
    · rw [List.getElem?_append_left (by omega)] at hi; exact hq i q hi
    · rw [List.getElem?_append_right (by omega)] at hi
      have h0 : i - l.length = 0 := by
        have := (List.getElem?_eq_some_iff.1 hi).1
        simp at this; omega
      rw [h0] at hi
      simp at hi
      subst hi
      obtain rfl : i = n := by omega
      exact hp
theorem sl_of_elems {α : Type} {en : α → List Value} {sz : Nat} (hs : ∀ p, (en p).length = sz) (hz : 0 < sz) {w : World} {a : Addr} {n : Nat} {l : List α} (hl : l.length = n) (hn : n ≤ 9223372036854775807)
    (h : ∀ i p, l[i]? = some p → ∀ j v, (en p)[j]? = some v → w.cell? (a.add (i * sz + j)) = some v) : Sl w (some a) n sz (cellsL en l) := by
  refine Sl.of_add (by rw [cellsL_length hs, hl]) hn hz fun _ => ⟨a, rfl, fun j u hu => ?_⟩
  have hj : j < n * sz := by have := (List.getElem?_eq_some_iff.1 hu).1; rwa [cellsL_length hs, hl] at this
  have hd : j / sz < n := Nat.div_lt_of_lt_mul (by rwa [Nat.mul_comm])
  have hm : j % sz < sz := Nat.mod_lt _ hz
  have e : j / sz * sz + j % sz = j := by rw [Nat.mul_comm]; exact Nat.div_add_mod j sz
  have hp : l[j / sz]? = some (l[j / sz]'(by omega)) := List.getElem?_eq_getElem _
  have := cellsL_at hs l (j / sz) (j % sz) _ hp hm
  rw [e, hu] at this
  have h2 := h _ _ hp (j % sz) u this.symm
  rwa [e] at h2

section
variable {H : Type} {enc : TypeId × Value → H}
/-- An argument that is a slice, opened by what one element's cells are. -/
theorem open_sl {α : Type} {en : α → List Value} {sz : Nat} (hs : ∀ p, (en p).length = sz) (hz : 0 < sz) {t e : TypeId} (ht : Tryd.prog.underlying t = some (.slice e)) (hC : Tryd.prog.cellsOf e = sz) {W : World} {a0 : Option Addr} {len cap : Nat} {d : DataW H} {p : List MemPlace}
    (hone : ∀ (fuel : Nat) (cs : List Value) (x : DataW H × List MemPlace), cs.length = sz → DataW.trod enc Tryd.prog W 0 (fun _ => true) true fuel e cs = some x → ∃ q, cs = en q)
    (h : DataW.Trod enc Tryd.prog W 0 (fun _ => true) true t (.slice a0 len cap) d p) : ∃ l : List α, Sl W a0 len sz (cellsL en l) := by
  obtain ⟨fuel, hf⟩ := h
  rcases Go.Deep.open_slice ht hf with ⟨hcs, hx⟩ | ⟨a, len', cap', m, n, D, Pl, hcs, _, hl, hm, hmm, hx, hi⟩
  · simp [Value.cells] at hcs
    obtain ⟨rfl, rfl, rfl⟩ := hcs
    exact ⟨[], by simpa [cellsL] using Sl.nil W none sz⟩
  · simp [Value.cells] at hcs
    obtain ⟨rfl, rfl, rfl⟩ := hcs
    have hmm' : len ≤ m := by rw [hmm]; simp; exact hl
    have hlen : len ≤ 9223372036854775807 := by unfold maxLen at hm; omega
    obtain ⟨l, hll, hq⟩ := list_of (fun i q => W.cells? 0 (a.add (i * sz)) sz = some (en q)) len fun i hil => by
      obtain ⟨cs', hc, hti⟩ := hi i (by omega)
      rw [hC] at hc
      obtain ⟨_, hcl, _⟩ := World.cells?_some hc
      obtain ⟨q, rfl⟩ := hone _ _ _ hcl hti
      exact ⟨q, hc⟩
    refine ⟨l, sl_of_elems hs hz hll hlen fun i q hil j v hv => ?_⟩
    obtain ⟨_, hcl, hat⟩ := World.cells?_some (hq i q hil)
    have hj : j < sz := by have := (List.getElem?_eq_some_iff.1 hv).1; rwa [hs] at this
    rw [← add_of_add, hat j hj, hv]
theorem hone_int {W : World} : ∀ (fuel : Nat) (cs : List Value) (x : DataW H × List MemPlace), cs.length = 1 → DataW.trod enc Tryd.prog W 0 (fun _ => true) true fuel 3 cs = some x → ∃ q : Int, cs = [.int .i64 q] := fun fuel cs x _ h => by
  obtain ⟨n, rfl, _, _⟩ := DataW.trod_int Tryd.underlying3 h
  exact ⟨n, rfl⟩
end

/-- The end of a walk that leaves all that was there as it was, as a row's end. -/
theorem ends_row {w w' : World} (h : New w w') : Below w.heap.size w w' := Mod.below h (Nat.le_refl _) (fun _ _ h => h)
end Go.Proofs.YtkkaejbdekdljaaDoor
