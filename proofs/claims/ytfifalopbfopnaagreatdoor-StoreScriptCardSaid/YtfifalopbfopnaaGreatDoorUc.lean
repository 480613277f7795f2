/- Words and walks: the document's store (custodyref11): its memory; at, row, set. -/
import Derived.Test.YtfifalopbfopnaaGreatDoorUb
import Derived.Test.YtfifalopbfopnaaGreatDoorVt
import Derived.Laws.StructEq
import Derived.Deep.RegionHeld3
set_option linter.unusedVariables false
set_option linter.unusedSimpArgs false
namespace Go.Proofs.YtfifalopbfopnaaGreatDoor
open Go.RowKit

def encRow : Key2 × Value → List Value := fun p => [.int .i64 p.1.1, .int .i64 p.1.2, p.2]
theorem encRow_len : ∀ p, (encRow p).length = 3 := fun _ => rfl
def encRd : Int × Bool → List Value := fun p => [.int .i64 p.1, .bool p.2]
theorem encRd_len : ∀ p, (encRd p).length = 2 := fun _ => rfl
theorem Tryz.sltRow : SlT Tryz.prog 45 77 3 40 := ⟨Tryz.underlying45, ⟨.agg #[.int .i64 0, .int .i64 0, .slice none 0 0], by kernel_rfl, rfl⟩, by decide, by decide⟩
theorem Tryz.sltRd : SlT Tryz.prog 46 114 2 16 := ⟨Tryz.underlying46, ⟨.agg #[.int .i64 0, .bool false], by kernel_rfl, rfl⟩, by decide, by decide⟩

/-- The parts of the document's store. -/
structure RLay where
  s : Nat
  rv : Value
  dv : Value
  ks : List (Key2 × Value)
def RFoot (R : RLay) (b : Nat) : Prop := b = R.s ∨ R.rv.ownBlock = some b ∨ R.dv.ownBlock = some b ∨ ∃ (j : Nat) (p : Key2 × Value), R.ks[j]? = some p ∧ p.2.ownBlock = some b
/-- The greatest number of 64 bits. -/
def Top (n : Int) : Prop := n ≤ 9223372036854775807
/-- The document's store in memory. -/
structure RefAt (w : World) (R : RLay) (N m : Nat) (st : StS) : Prop where
  blk : Blk w R.s 48 [.int .i64 (m : Int), R.rv, R.dv]
  rows : w.ownsRow 0 77 3 R.rv R.ks.length (cellsL encRow R.ks)
  keys : R.ks.map (·.1) = keysL st.rows
  vers : ∀ (j : Nat) (p : Key2 × Value) (x : Key2 × VersS), R.ks[j]? = some p → st.rows[j]? = some x → w.ownsRow 0 153 2 p.2 x.2.length (cellsL encVer x.2)
  rds : w.ownsRow 0 114 2 R.dv st.readers.length (cellsL encRd st.readers)
  ok : RowsOk st.rows
  versN : ∀ x, x ∈ st.rows → x.2.length ≤ N
  rowsN : st.rows.length ≤ N
  readN : st.readers.length ≤ N
  bigN : N ≤ 1048576
  top : ∀ x ∈ st.rows, ∀ p ∈ x.2, Top p.1
theorem RefAt.len {w : World} {R : RLay} {N m : Nat} {st : StS} (h : RefAt w R N m st) : R.ks.length = st.rows.length := by
  have := congrArg List.length h.keys
  simpa [keysL] using this
theorem RefAt.key {w : World} {R : RLay} {N m : Nat} {st : StS} (h : RefAt w R N m st) {j : Nat} {p : Key2 × Value} (hp : R.ks[j]? = some p) : ∃ l, st.rows[j]? = some (p.1, l) := by
  have h1 : (R.ks.map (·.1))[j]? = some p.1 := by rw [List.getElem?_map, hp]; rfl
  rw [h.keys, keysL, List.getElem?_map] at h1
  obtain ⟨x, hx, e⟩ := Option.map_eq_some_iff.1 h1
  exact ⟨x.2, by rw [hx, ← e]⟩
theorem RefAt.mod {w w' : World} {R : RLay} {N m : Nat} {st : StS} {S : Nat → Prop} (h : RefAt w R N m st) (hm : Mod S w w') (hs : ∀ b, RFoot R b → ¬ S b) : RefAt w' R N m st where
  blk := h.blk.kept hm (hs _ (.inl rfl))
  rows := own_mod' h.rows hm (fun b hb => hs b (.inr (.inl hb)))
  keys := h.keys
  vers := fun j p x hp hx => own_mod' (h.vers j p x hp hx) hm (fun b hb => hs b (.inr (.inr (.inr ⟨j, p, hp, hb⟩))))
  rds := own_mod' h.rds hm (fun b hb => hs b (.inr (.inr (.inl hb))))
  ok := h.ok
  versN := h.versN
  rowsN := h.rowsN
  readN := h.readN
  bigN := h.bigN
  top := h.top
theorem RefAt.new_ {w w' : World} {R : RLay} {N m : Nat} {st : StS} (h : RefAt w R N m st) (hm : New w w') : RefAt w' R N m st := h.mod hm (fun _ _ h => h)
theorem RefAt.mono {w : World} {R : RLay} {N N' m : Nat} {st : StS} (h : RefAt w R N m st) (hn : N ≤ N') (hb : N' ≤ 1048576) : RefAt w R N' m st :=
  ⟨h.blk, h.rows, h.keys, h.vers, h.rds, h.ok, fun x hx => Nat.le_trans (h.versN x hx) hn, Nat.le_trans h.rowsN hn, Nat.le_trans h.readN hn, hb, h.top⟩
theorem RefAt.foot_lt {w : World} {R : RLay} {N m : Nat} {st : StS} (h : RefAt w R N m st) {b : Nat} (hb : RFoot R b) : b < w.heap.size := by
  rcases hb with rfl | hb | hb | ⟨j, p, hp, hb⟩
  · exact h.blk.lt
  · exact (h.rows.lt b hb).2
  · exact (h.rds.lt b hb).2
  · obtain ⟨l, hl⟩ := h.key hp
    exact ((h.vers j p _ hp hl).lt b hb).2
/-- What a call that writes it leaves. -/
def RStep (w : World) (R : RLay) (N m : Nat) (st : StS) (w' : World) : Prop :=
  ∃ R', R'.s = R.s ∧ RefAt w' R' N m st ∧ Mod (RFoot R) w w' ∧ ∀ b, RFoot R' b → RFoot R b ∨ w.heap.size ≤ b
theorem RStep.of_new {w w' w'' : World} {R : RLay} {N m : Nat} {st : StS} (hm : New w w') (h : RStep w' R N m st w'') : RStep w R N m st w'' := by
  obtain ⟨R', h1, h3, h4, h5⟩ := h
  refine ⟨R', h1, h3, Mod.trans (Mod.mono hm (fun _ _ h => h.elim)) h4 (fun _ _ h => h), fun b hb => ?_⟩
  rcases h5 b hb with h | h
  · exact .inl h
  · exact .inr (Nat.le_trans hm.size h)
theorem RStep.new_ {w w' w'' : World} {R : RLay} {N m : Nat} {st : StS} (h : RStep w R N m st w') (hm : New w' w'') : RStep w R N m st w'' := by
  obtain ⟨R', h1, h3, h4, h5⟩ := h
  exact ⟨R', h1, h3.new_ hm, Mod.trans h4 hm (fun _ _ h => h.elim), h5⟩
theorem RStep.same {w w' : World} {R : RLay} {N m : Nat} {st : StS} (h : RefAt w R N m st) (hm : New w w') : RStep w R N m st w' :=
  ⟨R, rfl, h.new_ hm, Mod.mono hm (fun _ _ h => h.elim), fun b hb => .inl hb⟩
theorem RStep.mono {w w' : World} {R : RLay} {N N' m : Nat} {st : StS} (h : RStep w R N m st w') (hn : N ≤ N') (hb : N' ≤ 1048576) : RStep w R N' m st w' := by
  obtain ⟨R', h1, h3, h4, h5⟩ := h
  exact ⟨R', h1, h3.mono hn hb, h4, h5⟩
theorem own_types {w : World} {B B' n n' sz sz' : Nat} {e e' : TypeId} {v v' : Value} {xs xs' : List Value} (h : w.ownsRow B e sz v n xs) (h' : w.ownsRow B' e' sz' v' n' xs') (hne : e ≠ e') {b : Nat} (hb : v.ownBlock = some b) : v'.ownBlock ≠ some b := fun hb' => by
  rcases h.2 with ⟨rfl, _⟩ | ⟨g, cap, cur, rfl, _, hh, _⟩
  · simp [Value.ownBlock] at hb
  · rcases h'.2 with ⟨rfl, _⟩ | ⟨g', cap', cur', rfl, _, hh', _⟩
    · simp [Value.ownBlock] at hb'
    · simp [Value.ownBlock] at hb hb'
      subst hb hb'
      rw [hh] at hh'
      injection hh' with hh'
      injection hh' with _ hh'
      exact hne hh'

def idxV : Option Nat → Int
  | some j => (j : Int)
  | none => -1
theorem rowIdx_take {α : Type} {rs : RowsV α} {k : Key2} {i : Nat} (h : ∀ (j : Nat) (x : Key2 × List (Int × α)), j < i → rs[j]? = some x → x.1 ≠ k) {x : Key2 × List (Int × α)} (hx : rs[i]? = some x) (hk : x.1 = k) : rowIdx rs k = some i := by
  induction rs generalizing i with
  | nil => simp at hx
  | cons y rs ih =>
    cases i with
    | zero => simp at hx; subst hx; unfold rowIdx; rw [if_pos hk]
    | succ i =>
      unfold rowIdx
      rw [if_neg (h 0 y (by omega) rfl), ih (i := i) (fun j z hj hz => h (j + 1) z (by omega) (by simpa using hz)) (by simpa using hx)]; rfl
set_option maxRecDepth 100000 in
set_option maxHeartbeats 2000000 in
theorem refIdx_any (R : RLay) (N m : Nat) (st : StS) (k : Key2) (w : World) (h : RefAt w R N m st) :
    Calls Tryz.prog 99 #[.pointer (some ⟨R.s, 0, none⟩), .agg #[.int .i64 k.1, .int .i64 k.2]] w fun e w' => e = .returned (.int .i64 (idxV (rowIdx st.rows k))) ∧ New w w' := by
  have hlen := h.len
  have hb1 := h.bigN
  have hb2 := h.rowsN
  have HB := Lib.hid h.blk
  obtain ⟨A, cap, hrv⟩ := own_shape h.rows
  have hrows := h.rows
  rw [hrv] at hrows
  have HS := Lib.hid (own_sl hrows)
  have HK := Lib.hid (fun (j : Nat) (p : Key2 × Value) (hp : R.ks[j]? = some p) => h.key hp)
  have c1 := h.blk.cell 1
  simp only [List.getElem?_cons_zero, List.getElem?_cons_succ, hrv] at c1
  have HC1 := Lib.hid c1
  obtain ⟨ks, hks⟩ : ∃ ks, R.ks = ks := ⟨_, rfl⟩
  rw [hks] at hlen HS HK HC1
  obtain ⟨n, hn⟩ : ∃ n, ks.length = n := ⟨_, rfl⟩
  rw [hn] at HS HC1 hlen
  have HN := Lib.hid hn
  have HLEN := Lib.hid hlen
  rw [← hlen] at hb2
  have HRI := Lib.hid (fun (i : Nat) (p : Key2 × Value) (hp : ks[i]? = some p) (hall : ∀ (j : Nat) (x : Key2 × VersS), j < i → st.rows[j]? = some x → x.1 ≠ k) (e : p.1 = k) => by
    obtain ⟨l, hl⟩ := HK.out i p hp
    exact rowIdx_take hall hl e)
  have HNO := Lib.hid (fun (hall : ∀ (j : Nat) (x : Key2 × VersS), j < n → st.rows[j]? = some x → x.1 ≠ k) => (show rowIdx st.rows k = none from rowIdx_none.2 (fun x hx => by
    obtain ⟨j, hj⟩ := List.getElem?_of_mem hx
    exact hall j x (by have := (List.getElem?_eq_some_iff.1 hj).1; have := HLEN.out; omega) hj)))
  obtain ⟨k1, k2⟩ := k
  have n1 := Blk.new w 33 [.int .i64 k1, .int .i64 k2]
  have HN1 := Lib.hid n1
  clear h hlen hrv hrows hks hn n1 c1
  go_enter Tryz.func99, Tryz.ntmps99
  go_wp2
  go_loopw [5] (fun i wr => ∃ j : Nat, j ≤ n ∧ i = .int .i64 (j : Int) ∧ (∀ (i : Nat) (x : Key2 × VersS), i < j → st.rows[i]? = some x → x.1 ≠ (k1, k2)) ∧ New (w.alloc (.cells #[.int .i64 k1, .int .i64 k2] 33)) wr) (fun i _ => n - (intOf i).toNat)
  case atStart => exact ⟨0, Nat.zero_le _, rfl, fun i x hi => by omega, Mod.refl _ _⟩
  case round =>
    obtain ⟨j, hj, rfl, hall, hw⟩ := hrel
    have hw0 : New w wr := New.trans ((Mod.refl _ _).alloc _) hw
    have d1 := hw0.cell HC1.out (fun h => h)
    have hk := HN1.out.new_ hw
    have e0 := hk.cell 0
    have e1 := hk.cell 1
    simp only [List.getElem?_cons_zero, List.getElem?_cons_succ] at e0 e1
    have HALL := Lib.hid hall
    clear hall hk
    by_cases hlt : j < n
    · obtain ⟨b, off, ⟨⟨x1, x2⟩, v⟩, rfl, hp, hc⟩ := (HS.out.new_ hw0).elem encRow_len (by decide) hlt
      have c0 := hc 0 _ rfl
      have c1 := hc 1 _ rfl
      simp only [Nat.add_zero] at c0
      by_cases h1 : x1 = k1
      · subst h1
        have q1 : (x1 == x1) = true := by simp
        by_cases h2 : x2 = k2
        · subst h2
          have q2 : (x2 == x2) = true := by simp
          have HX := Lib.hid (HRI.out j _ hp HALL.out rfl)
          clear hp hc
          go_wp2
          go_quiet (fail)
          go_wp2
          go_ret
          exact ⟨by rw [HX.out]; rfl, hw0.drewN _⟩
        · have q2 : (x2 == k2) = false := by simpa using h2
          have HX := Lib.hid (show ∀ (i : Nat) (x : Key2 × VersS), i < j + 1 → st.rows[i]? = some x → x.1 ≠ (x1, k2) from fun i x hi hx => by
            by_cases e : i = j
            · subst e
              obtain ⟨l, hl⟩ := HK.out i _ hp
              rw [hx] at hl; injection hl with hl; subst hl
              simp [h2]
            · exact HALL.out i x (by omega) hx)
          clear hp hc
          go_wp2
          go_quiet (fail)
          go_wp2
          go_roundw
          case rel => exact ⟨j + 1, by omega, by go_num, HX.out, hw.drewN _⟩
          case measure => simp [intOf]; omega
      · have q1 : (x1 == k1) = false := by simpa using h1
        have HX := Lib.hid (show ∀ (i : Nat) (x : Key2 × VersS), i < j + 1 → st.rows[i]? = some x → x.1 ≠ (k1, k2) from fun i x hi hx => by
          by_cases e : i = j
          · subst e
            obtain ⟨l, hl⟩ := HK.out i _ hp
            rw [hx] at hl; injection hl with hl; subst hl
            simp [h1]
          · exact HALL.out i x (by omega) hx)
        clear hp hc
        go_wp2
        go_quiet (fail)
        go_wp2
        go_roundw
        case rel => exact ⟨j + 1, by omega, by go_num, HX.out, hw.drewN _⟩
        case measure => simp [intOf]; omega
    · obtain rfl : j = n := by omega
      have HX := Lib.hid (HNO.out HALL.out)
      go_wp2
      go_ret
      exact ⟨by rw [HX.out]; rfl, hw0⟩
end Go.Proofs.YtfifalopbfopnaaGreatDoor
