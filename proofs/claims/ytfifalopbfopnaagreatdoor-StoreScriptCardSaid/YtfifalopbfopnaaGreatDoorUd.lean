/- Walks: the document's store (custodyref11): row, set. -/
import Derived.Test.YtfifalopbfopnaaGreatDoorUc
set_option linter.unusedVariables false
set_option linter.unusedSimpArgs false
namespace Go.Proofs.YtfifalopbfopnaaGreatDoor
open Go.RowKit

/-- What set leaves. -/
def RSet (w : World) (R : RLay) (N m : Nat) (st : StS) (v : Value) (w' : World) : Prop :=
  ∃ R', R'.s = R.s ∧ RefAt w' R' N m st ∧ Mod (RFoot R) w w' ∧ ∀ b, RFoot R' b → RFoot R b ∨ v.ownBlock = some b ∨ w.heap.size ≤ b
theorem rows_at {α : Type} {rs : RowsV α} {k : Key2} {j : Nat} (hj : rowIdx rs k = some j) : ∃ l, rs[j]? = some (k, l) := rowIdx_at hj
theorem RefAt.at_key {w : World} {R : RLay} {N m j : Nat} {st : StS} {k : Key2} (h : RefAt w R N m st) (hj : rowIdx st.rows k = some j) : ∃ v, R.ks[j]? = some (k, v) ∧ w.ownsRow 0 153 2 v (rowOf st.rows k).length (cellsL encVer (rowOf st.rows k)) ∧ st.rows[j]? = some (k, rowOf st.rows k) := by
  obtain ⟨l, hl⟩ := rowIdx_at hj
  have e : rowOf st.rows k = l := rowOf_at h.ok.nodup hl
  have hlt : j < R.ks.length := by rw [h.len]; exact rowIdx_lt hj
  obtain ⟨l', hl'⟩ := h.key (List.getElem?_eq_getElem hlt)
  rw [hl] at hl'
  injection hl' with hl'
  injection hl' with h1 h2
  refine ⟨(R.ks[j]).2, ?_, ?_, by rw [e]; exact hl⟩
  · rw [List.getElem?_eq_getElem hlt]
    congr 1
    exact Prod.ext h1.symm rfl
  · rw [e]; exact h.vers j _ _ (List.getElem?_eq_getElem hlt) hl
theorem RefAt.upd {w : World} {R : RLay} {N N' m j gb n cap : Nat} {st : StS} {k : Key2} {v : Value} {l : VersS} (h : RefAt w R N m st) (hj : rowIdx st.rows k = some j) (hrv : R.rv = .slice (some ⟨gb, 0, none⟩) n cap)
    (hv : w.ownsRow 0 153 2 v l.length (cellsL encVer l)) (hr : Rising l) (hn0 : l ≠ []) (hl : l.length ≤ N') (htop : ∀ p ∈ l, Top p.1) (hN : N ≤ N') (hN' : N' ≤ 1048576) :
    RSet w R N' m { st with rows := setRow st.rows k l } v (w.setCell ⟨gb, j * 3 + 2, none⟩ v) := by
  obtain ⟨v0, hks, _, hrow⟩ := h.at_key hj
  have hm : Mod (· = gb) w (w.setCell ⟨gb, j * 3 + 2, none⟩ v) := mod_set w gb _ v
  have hown : R.rv.ownBlock = some gb := by rw [hrv]; rfl
  have hst := (show w.ownsRow 0 77 3 (.slice (some ⟨gb, 0, none⟩) n cap) R.ks.length (cellsL encRow R.ks) from by rw [← hrv]; exact h.rows)
  have hn : n = R.ks.length := by
    rcases hst.2 with ⟨h1, _⟩ | ⟨g', c', cur, h1, _⟩
    · cases h1
    · injection h1
  subst hn
  have hst2 := (hst.stored (j * 3 + 2) v).1
  have hset : (cellsL encRow R.ks).set (j * 3 + 2) v = cellsL encRow (R.ks.set j (k, v)) := cellsL_set encRow_len R.ks j 2 (k, v0) (k, v) hks (by omega) v rfl
  rw [hset] at hst2
  refine ⟨{ R with ks := R.ks.set j (k, v) }, rfl, ?_, Mod.mono hm (fun b _ e => .inr (.inl (by have e' : b = gb := e; rw [e']; exact hown))), ?_⟩
  · refine {
      blk := h.blk.kept hm (fun e => own_ne_blk h.rows h.blk (by decide) (by have e' : R.s = gb := e; rw [e']; exact hown))
      rows := ?rows
      keys := ?keys
      vers := ?vers
      rds := own_mod' h.rds hm (fun b hb e => own_types h.rows h.rds (by decide) hown (by have e' : b = gb := e; rw [← e']; exact hb))
      ok := setRow_ok h.ok hr hn0
      versN := fun x hx => by
        rw [setRow_some hj] at hx
        rcases List.mem_or_eq_of_mem_set hx with hx | hx
        · exact Nat.le_trans (h.versN x hx) hN
        · subst hx; exact hl
      rowsN := by rw [setRow_some hj]; simpa using Nat.le_trans h.rowsN hN
      readN := Nat.le_trans h.readN hN
      bigN := hN'
      top := fun x hx p hp => by
        rw [setRow_some hj] at hx
        rcases List.mem_or_eq_of_mem_set hx with hx | hx
        · exact h.top x hx p hp
        · subst hx; exact htop p hp }
    case rows =>
      show (w.setCell ⟨gb, j * 3 + 2, none⟩ v).ownsRow 0 77 3 R.rv (R.ks.set j (k, v)).length (cellsL encRow (R.ks.set j (k, v)))
      rw [List.length_set, hrv]
      exact hst2
    case keys =>
      show (R.ks.set j (k, v)).map (·.1) = keysL (setRow st.rows k l)
      have h1 : keysL (setRow st.rows k l) = keysL st.rows := by unfold keysL; rw [setRow_keys, if_neg (by rw [hj]; simp)]
      rw [h1, ← h.keys]
      refine List.ext_getElem? fun i => ?_
      rw [List.getElem?_map, List.getElem?_map]
      by_cases e : i = j
      · subst e; rw [List.getElem?_set_self (List.getElem?_eq_some_iff.1 hks).1, hks]; rfl
      · rw [List.getElem?_set_ne (Ne.symm e)]
    case vers =>
      intro i p x hp hx
      have hp' : (R.ks.set j (k, v))[i]? = some p := hp
      have hx' : (setRow st.rows k l)[i]? = some x := hx
      rw [setRow_some hj] at hx'
      by_cases e : i = j
      · subst e
        rw [List.getElem?_set_self (List.getElem?_eq_some_iff.1 hks).1] at hp'
        rw [List.getElem?_set_self (List.getElem?_eq_some_iff.1 hrow).1] at hx'
        injection hp' with hp'
        injection hx' with hx'
        subst hp' hx'
        exact own_mod' hv hm (fun b hb e => own_types h.rows hv (by decide) hown (by have e' : b = gb := e; rw [← e']; exact hb))
      · rw [List.getElem?_set_ne (Ne.symm e)] at hp' hx'
        have h1 := h.vers i p x hp' hx'
        exact own_mod' h1 hm (fun b hb e => own_types h.rows h1 (by decide) hown (by have e' : b = gb := e; rw [← e']; exact hb))
  · rintro b (hb | hb | hb | ⟨i, p, hp, hb⟩)
    · exact .inl (.inl hb)
    · exact .inl (.inr (.inl hb))
    · exact .inl (.inr (.inr (.inl hb)))
    · have hp' : (R.ks.set j (k, v))[i]? = some p := hp
      by_cases e : i = j
      · subst e
        rw [List.getElem?_set_self (List.getElem?_eq_some_iff.1 hks).1] at hp'
        injection hp' with hp'
        subst hp'
        exact .inr (.inl hb)
      · rw [List.getElem?_set_ne (Ne.symm e)] at hp'
        exact .inl (.inr (.inr (.inr ⟨i, p, hp', hb⟩)))
theorem RefAt.add {w w3 : World} {R : RLay} {N m : Nat} {st : StS} {k : Key2} {v rv' : Value} {l : VersS} (h : RefAt w R N m st) (hj : rowIdx st.rows k = none)
    (hg : Mod (fun b => R.rv.ownBlock = some b) w w3) (hrow : w3.ownsRow 0 77 3 rv' (R.ks.length + 1) (cellsL encRow R.ks ++ [.int .i64 k.1, .int .i64 k.2, v])) (hrb : rv'.ownBlock = R.rv.ownBlock ∨ ∃ b, rv'.ownBlock = some b ∧ w.heap.size ≤ b)
    (hv : w.ownsRow 0 153 2 v l.length (cellsL encVer l)) (hr : Rising l) (hn0 : l ≠ []) (hl : l.length ≤ N + 1) (htop : ∀ p ∈ l, Top p.1) (hN' : N + 1 ≤ 1048576) :
    RSet w R (N + 1) m { st with rows := setRow st.rows k l } v (w3.setCell ⟨R.s, 1, none⟩ rv') := by
  have hlen := h.len
  have hm2 : Mod (· = R.s) w3 (w3.setCell ⟨R.s, 1, none⟩ rv') := mod_set w3 R.s 1 rv'
  have hb3 := h.blk.kept hg (own_ne_blk h.rows h.blk (by decide))
  have hs3 : ∀ {t : TypeId} {sz n : Nat} {u : Value} {xs : List Value}, w.ownsRow 0 t sz u n xs → t ≠ 77 → t ≠ 48 → (w3.setCell ⟨R.s, 1, none⟩ rv').ownsRow 0 t sz u n xs := fun {t sz n u xs} hu h1 h2 => by
    have hu3 := own_mod' hu hg (fun b hb e => own_types h.rows hu (Ne.symm h1) e hb)
    exact own_mod' hu3 hm2 (fun b hb e => own_ne_blk hu3 hb3 (Ne.symm h2) (by have e' : b = R.s := e; rw [← e']; exact hb))
  refine ⟨{ R with rv := rv', ks := R.ks ++ [(k, v)] }, rfl, ?_, Mod.trans (Mod.mono hg (fun b _ e => .inr (.inl e))) hm2 (fun b _ e => .inl e), ?_⟩
  · refine {
      blk := hb3.set_ 1 rv'
      rows := ?rows
      keys := ?keys
      vers := ?vers
      rds := hs3 h.rds (by decide) (by decide)
      ok := setRow_ok h.ok hr hn0
      versN := fun x hx => by
        rw [setRow_none hj] at hx
        rcases List.mem_append.1 hx with hx | hx
        · exact Nat.le_trans (h.versN x hx) (by omega)
        · simp at hx; subst hx; exact hl
      rowsN := by rw [setRow_none hj]; have := h.rowsN; simp; omega
      readN := Nat.le_trans h.readN (by omega)
      bigN := hN'
      top := fun x hx p hp => by
        rw [setRow_none hj] at hx
        rcases List.mem_append.1 hx with hx | hx
        · exact h.top x hx p hp
        · simp at hx; subst hx; exact htop p hp }
    case rows =>
      show (w3.setCell ⟨R.s, 1, none⟩ rv').ownsRow 0 77 3 rv' (R.ks ++ [(k, v)]).length (cellsL encRow (R.ks ++ [(k, v)]))
      rw [List.length_append, cellsL_append, cellsL_one]
      exact own_mod' hrow hm2 (fun b hb e => own_ne_blk hrow hb3 (by decide) (by have e' : b = R.s := e; rw [← e']; exact hb))
    case keys =>
      show (R.ks ++ [(k, v)]).map (·.1) = keysL (setRow st.rows k l)
      unfold keysL
      rw [setRow_none hj, List.map_append, List.map_append, h.keys]; rfl
    case vers =>
      intro i p x hp hx
      have hp' : (R.ks ++ [(k, v)])[i]? = some p := hp
      have hx' : (setRow st.rows k l)[i]? = some x := hx
      rw [setRow_none hj] at hx'
      by_cases hi : i < R.ks.length
      · rw [List.getElem?_append_left hi] at hp'
        rw [List.getElem?_append_left (by omega)] at hx'
        exact hs3 (h.vers i p x hp' hx') (by decide) (by decide)
      · have : i = R.ks.length := by have := (List.getElem?_eq_some_iff.1 hp').1; simp at this; omega
        subst this
        rw [List.getElem?_append_right (Nat.le_refl _), Nat.sub_self] at hp'
        rw [List.getElem?_append_right (by omega), hlen, Nat.sub_self] at hx'
        simp at hp' hx'
        subst hp' hx'
        exact hs3 hv (by decide) (by decide)
  · rintro b (hb | hb | hb | ⟨i, p, hp, hb⟩)
    · exact .inl (.inl hb)
    · have hb' : rv'.ownBlock = some b := hb
      rcases hrb with e | ⟨g, hg1, hg2⟩
      · exact .inl (.inr (.inl (by rw [← e]; exact hb')))
      · rw [hg1] at hb'; injection hb' with hb'; subst hb'; exact .inr (.inr hg2)
    · exact .inl (.inr (.inr (.inl hb)))
    · have hp' : (R.ks ++ [(k, v)])[i]? = some p := hp
      by_cases hi : i < R.ks.length
      · rw [List.getElem?_append_left hi] at hp'
        exact .inl (.inr (.inr (.inr ⟨i, p, hp', hb⟩)))
      · have : i = R.ks.length := by have := (List.getElem?_eq_some_iff.1 hp').1; simp at this; omega
        subst this
        rw [List.getElem?_append_right (Nat.le_refl _), Nat.sub_self] at hp'
        simp at hp'
        subst hp'
        exact .inr (.inl hb)

/-- What row answers. -/
def RowPost (w : World) (st : StS) (k : Key2) (e : Ending) (w' : World) : Prop := ∃ A c, e = .returned (.slice A (rowOf st.rows k).length c) ∧ Sl w' A (rowOf st.rows k).length 2 (cellsL encVer (rowOf st.rows k)) ∧ New w w'
set_option maxRecDepth 100000 in
set_option maxHeartbeats 1000000 in
theorem refRow_any (R : RLay) (N m : Nat) (st : StS) (k : Key2) (w : World) (h : RefAt w R N m st) :
    Calls Tryz.prog 73 #[.pointer (some ⟨R.s, 0, none⟩), .agg #[.int .i64 k.1, .int .i64 k.2]] w (RowPost w st k) := by
  have HI := Lib.hid (fun W (hW : New w W) => refIdx_any R N m st k W (h.new_ hW))
  cases hj : rowIdx st.rows k with
  | none =>
    rw [hj] at HI
    have HP := Lib.hid (show ∀ w', New w w' → RowPost w st k (.returned (.slice none 0 0)) w' from fun w' hw => by
      unfold RowPost
      rw [rowOf_idx_none hj]
      exact ⟨none, 0, rfl, by simpa [cellsL] using Sl.nil w' none 2, hw⟩)
    obtain ⟨k1, k2⟩ := k
    clear hj h
    dsimp only [idxV] at HI
    go_enter Tryz.func73, Tryz.ntmps73
    go_wp2_with (go_at_call 99; refine (HI.out _ ((Mod.refl _ _).alloc _)).mono ?_; rintro e w1 ⟨rfl, hw1⟩)
    go_ret
    exact HP.out _ (New.trans ((Mod.refl _ _).alloc _) hw1)
  | some j =>
    rw [hj] at HI
    obtain ⟨v0, hks, hv0, hrow⟩ := h.at_key hj
    have hjl := (List.getElem?_eq_some_iff.1 hks).1
    obtain ⟨A, cap, rfl⟩ := own_shape hv0
    have hle := h.rowsN
    have hbig := h.bigN
    have hlen := h.len
    obtain ⟨RA, rc, hrv⟩ := own_shape h.rows
    have hrows := h.rows
    rw [hrv] at hrows
    obtain ⟨b, off, p, e, hp, hc⟩ := (own_sl hrows).elem encRow_len (by decide) hjl
    subst e
    rw [hks] at hp
    injection hp with hp
    subst hp
    have HC2 := Lib.hid (hc 2 _ rfl)
    have c1 := h.blk.cell 1
    simp only [List.getElem?_cons_zero, List.getElem?_cons_succ, hrv] at c1
    have HC1 := Lib.hid c1
    have HSL := Lib.hid (own_sl hv0)
    have HP := Lib.hid (show ∀ w', New w w' → RowPost w st k (.returned (.slice A (rowOf st.rows k).length cap)) w' from fun w' hw => ⟨A, cap, rfl, HSL.out.new_ hw, hw⟩)
    obtain ⟨k1, k2⟩ := k
    generalize (rowOf st.rows (k1, k2)).length = q at *
    generalize R.ks.length = n at *
    clear hj h hks hv0 hrow hrv hrows hc c1 hlen
    dsimp only [idxV] at HI
    go_enter Tryz.func73, Tryz.ntmps73
    go_wp2_with (go_at_call 99; refine (HI.out _ ((Mod.refl _ _).alloc _)).mono ?_; rintro e w1 ⟨rfl, hw1⟩; have hw01 : New w w1 := New.trans ((Mod.refl _ _).alloc _) hw1; have d1 := hw01.cell HC1.out (fun h => h); have d2 := hw01.cell HC2.out (fun h => h))
    go_ret
    exact HP.out _ hw01
end Go.Proofs.YtfifalopbfopnaaGreatDoor
