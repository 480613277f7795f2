/- Walks: SameKeys at equal lists; a call's answer (ask). -/
import Derived.Test.YtfifalopbfopnaaGreatDoorVt
import Derived.Test.YtfifalopbfopnaaGreatDoorUa
import Derived.Laws.StructEq
set_option linter.unusedVariables false
set_option linter.unusedSimpArgs false
namespace Go.Proofs.YtfifalopbfopnaaGreatDoor
open Go.RowKit

set_option maxHeartbeats 400000 in
theorem sameKeys_any (A B : Option Addr) (n c d : Nat) (l : List Key2) (w : World) (ha : Sl w A n 2 (cellsL encKey l)) (hb : Sl w B n 2 (cellsL encKey l)) :
    Calls Tryz.prog 13 #[.slice A n c, .slice B n d] w fun e w' => e = .returned (.bool true) ∧ New w w' := by
  have hn := ha.le
  have hd : ((n : Int) != (n : Int)) = false := by simp
  go_enter Tryz.func13, Tryz.ntmps13
  go_wp2
  go_loopw [5] (fun i wr => ∃ k : Nat, k ≤ n ∧ i = .int .i64 k ∧ New w wr) (fun i _ => n - (intOf i).toNat)
  case atStart => exact ⟨0, Nat.zero_le _, rfl, Mod.refl _ _⟩
  case round =>
    obtain ⟨k, hk, rfl, hw⟩ := hrel
    by_cases hlt : k < n
    · obtain ⟨b1, o1, ⟨x0, x1⟩, rfl, hp, hc⟩ := (ha.new_ hw).elem encKey_len (by decide) hlt
      obtain ⟨b2, o2, q, rfl, hq, hc'⟩ := (hb.new_ hw).elem encKey_len (by decide) hlt
      rw [hp] at hq
      injection hq with hq
      subst hq
      have c0 := hc 0 _ rfl
      have c1 := hc 1 _ rfl
      have d0 := hc' 0 _ rfl
      have d1 := hc' 1 _ rfl
      simp only [Nat.add_zero] at c0 d0
      clear hp hc hc'
      go_wp2
      go_quiet (fail)
      go_wp2
      go_roundw
      case rel => exact ⟨k + 1, by omega, by go_num, hw.drewN _⟩
      case measure => simp [intOf]; omega
    · go_wp2
      go_ret
      exact ⟨rfl, hw⟩
/-- One call. -/
structure CallV where
  on : Int
  kind : Int
  key : Key2
  n : Int
  v : ByteArray
def encCall (c : CallV) : List Value := [.int .i64 c.on, .int .i64 c.kind, .int .i64 c.key.1, .int .i64 c.key.2, .int .i64 c.n, .string c.v]
theorem encCall_len : ∀ c, (encCall c).length = 6 := fun _ => rfl
/-- What a call answers, of a store of m shards; the store behind it. -/
structure SaidV where
  v : ByteArray
  n : Int
  ok : Bool
def emptyB : ByteArray := ⟨#[]⟩
def answer (m : Nat) (st : StS) (c : CallV) : SaidV :=
  if c.kind = 0 then ⟨emptyB, if canPut (rowOf st.rows c.key) c.n then 0 else 1, true⟩
  else if c.kind = 1 then (match atV (rowOf st.rows c.key) c.n with | some x => ⟨x.2, 0, true⟩ | none => ⟨emptyB, 0, false⟩)
  else if c.kind = 2 then ⟨(endV (rowOf st.rows c.key)).1, (endV (rowOf st.rows c.key)).2.1, (endV (rowOf st.rows c.key)).2.2⟩
  else if c.kind = 4 then ⟨emptyB, (st.readers.length : Int) + 1, false⟩
  else if c.kind = 5 then ⟨emptyB, 0, closes st c.n⟩
  else if c.kind = 6 then ⟨emptyB, stOldest st c.n, false⟩
  else if c.kind = 7 then ⟨emptyB, (goneV (rowOf st.rows c.key) (stOldest st c.n) : Int), false⟩
  else if c.kind = 8 then ⟨emptyB, (stVersions st : Int), false⟩
  else ⟨emptyB, (m : Int), false⟩
def after (st : StS) (c : CallV) : StS :=
  if c.kind = 0 then stPut st c.key c.n c.v
  else if c.kind = 4 then stOpen st c.n
  else if c.kind = 5 then stClose st c.n
  else if c.kind = 7 then stPrune st c.key c.n
  else st
def saidVal (a : SaidV) : Value := .agg #[.string a.v, .int .i64 a.n, .bool a.ok]
/-- A call's numbers are such as a program holds. -/
def CallOk (c : CallV) : Prop := KeyWf c.key ∧ (Lit.int .i64 c.n).wf = true
end Go.Proofs.YtfifalopbfopnaaGreatDoor
