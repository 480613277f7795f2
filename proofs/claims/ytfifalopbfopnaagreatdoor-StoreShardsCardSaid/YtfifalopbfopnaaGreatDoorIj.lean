/- Words: a store: its block, its shards, its readers, its chains; what it may write. -/
import Derived.Test.YtfifalopbfopnaaGreatDoorIg
import Derived.Test.YtfifalopbfopnaaGreatDoorVi
set_option linter.unusedVariables false
set_option linter.unusedSimpArgs false
namespace Go.Proofs.YtfifalopbfopnaaGreatDoor.I
open Go.RowKit Go.Maps

section
variable {α : Type}
theorem rowIdx_set {rs : RowsV α} {k : Key2} {j : Nat} {l : List (Int × α)} (h : rowIdx rs k = some j) (k' : Key2) : rowIdx (rs.set j (k, l)) k' = rowIdx rs k' := by
  induction rs generalizing j with
  | nil => simp [rowIdx] at h
  | cons x rs ih =>
    unfold rowIdx at h
    split at h
    · rename_i e
      injection h with h
      subst h
      simp only [List.set_cons_zero]
      unfold rowIdx
      simp only [e]
    · rename_i e
      obtain ⟨i, hi, rfl⟩ := Option.map_eq_some_iff.1 h
      simp only [List.set_cons_succ]
      unfold rowIdx
      rw [ih hi]
theorem rowIdx_append (rs : RowsV α) (k : Key2) (l : List (Int × α)) (k' : Key2) : rowIdx (rs ++ [(k, l)]) k' = match rowIdx rs k' with | some j => some j | none => if k = k' then some rs.length else none := by
  induction rs with
  | nil => simp [rowIdx]
  | cons x rs ih =>
    simp only [List.cons_append]
    unfold rowIdx
    split
    · rfl
    · rw [ih]
      cases hh : rowIdx rs k' with
      | some j => simp
      | none =>
        simp only [Option.map_none]
        split <;> simp
theorem rowIdx_lt {rs : RowsV α} {k : Key2} {j : Nat} (h : rowIdx rs k = some j) : j < rs.length := by
  obtain ⟨l, hl⟩ := rowIdx_at h
  exact (List.getElem?_eq_some_iff.1 hl).1
end

/-- A store's parts. -/
structure Lay where
  s : Nat
  g : Nat
  bs : List Nat
  rb : Nat
  cs : List (Nat × Value)
/-- What it may write. -/
def Foot (L : Lay) (b : Nat) : Prop := b = L.s ∨ b = L.g ∨ b ∈ L.bs ∨ b = L.rb ∨ ∃ (j : Nat) (p : Nat × Value), L.cs[j]? = some p ∧ ChainF p.1 p.2 b
/-- What shard i of m holds. -/
def shardM {α : Type} (cs : List (Nat × Value)) (rs : RowsV α) (m i : Nat) : Key2 → Option Value := fun k =>
  if shardN k (m : Int) = i then (match rowIdx rs k with | some j => (cs[j]?).map (fun p => .pointer (some ⟨p.1, 0, none⟩)) | none => none) else none
/-- What the readers' map holds. -/
def readM (rs : List (Int × Bool)) : Int → Option Value := fun r =>
  if 1 ≤ r then (match rs[(r - 1).toNat]? with | some x => if x.2 then none else some (.int .i64 x.1) | none => none) else none

abbrev StS := St Int
/-- The chains, row by row, apart. -/
structure ChainsAt (w : World) (cs : List (Nat × Value)) (rs : RowsV Int) : Prop where
  len : cs.length = rs.length
  at_ : ∀ (j : Nat) (p : Nat × Value) (x : Key2 × VersS), cs[j]? = some p → rs[j]? = some x → ChainAt w 0 p.1 p.2 x.2
  capart : ∀ (i j : Nat) (p q : Nat × Value), cs[i]? = some p → cs[j]? = some q → i ≠ j → p.1 ≠ q.1
  vapart : ∀ (i j : Nat) (p q : Nat × Value), cs[i]? = some p → cs[j]? = some q → i ≠ j → ∀ b, p.2.ownBlock = some b → q.2.ownBlock ≠ some b
/-- A store in memory. -/
structure StoreAt (w : World) (L : Lay) (N : Nat) (st : StS) : Prop where
  blk : Blk w L.s 87 [.slice (some ⟨L.g, 0, none⟩) L.bs.length L.bs.length, .map (some L.rb), .int .i64 (st.readers.length : Int)]
  gblk : Blk w L.g 88 (L.bs.map fun b => .map (some b))
  m1 : 1 ≤ L.bs.length ∧ L.bs.length ≤ 64
  maps : ∀ (i b : Nat), L.bs[i]? = some b → MapO 33 keyVal w b N (shardM L.cs st.rows L.bs.length i)
  bnodup : L.bs.Nodup
  rmap : MapO 3 numVal w L.rb N (readM st.readers)
  rbs : L.rb ∉ L.bs
  chains : ChainsAt w L.cs st.rows
  ok : RowsOk st.rows
  vers : ∀ x, x ∈ st.rows → x.2.length ≤ N
  rowsN : st.rows.length ≤ N
  readN : st.readers.length ≤ N
  bigN : N ≤ 1048576
theorem ChainsAt.mod {w w' : World} {cs : List (Nat × Value)} {rs : RowsV Int} {S : Nat → Prop} (h : ChainsAt w cs rs) (hm : Mod S w w') (hs : ∀ (j : Nat) (p : Nat × Value) (b : Nat), cs[j]? = some p → ChainF p.1 p.2 b → ¬ S b) : ChainsAt w' cs rs :=
  ⟨h.len, fun j p x hp hx => ⟨(h.at_ j p x hp hx).blk.kept hm (hs j p _ hp (.inl rfl)), own_mod' (h.at_ j p x hp hx).own hm (fun b hb => hs j p b hp (.inr hb))⟩, h.capart, h.vapart⟩
theorem StoreAt.mod {w w' : World} {L : Lay} {N : Nat} {st : StS} {S : Nat → Prop} (h : StoreAt w L N st) (hm : Mod S w w') (hs : ∀ b, Foot L b → ¬ S b) : StoreAt w' L N st where
  blk := h.blk.kept hm (hs _ (.inl rfl))
  gblk := h.gblk.kept hm (hs _ (.inr (.inl rfl)))
  m1 := h.m1
  maps := fun i b hb => (h.maps i b hb).mod hm (hs _ (.inr (.inr (.inl (List.mem_of_getElem? hb)))))
  bnodup := h.bnodup
  rmap := h.rmap.mod hm (hs _ (.inr (.inr (.inr (.inl rfl)))))
  rbs := h.rbs
  chains := h.chains.mod hm (fun j p b hp hb => hs b (.inr (.inr (.inr (.inr ⟨j, p, hp, hb⟩)))))
  ok := h.ok
  vers := h.vers
  rowsN := h.rowsN
  readN := h.readN
  bigN := h.bigN
theorem StoreAt.new_ {w w' : World} {L : Lay} {N : Nat} {st : StS} (h : StoreAt w L N st) (hm : New w w') : StoreAt w' L N st := h.mod hm (fun _ _ h => h)
theorem StoreAt.mono {w : World} {L : Lay} {N N' : Nat} {st : StS} (h : StoreAt w L N st) (hn : N ≤ N') (hb : N' ≤ 1048576) : StoreAt w L N' st where
  blk := h.blk
  gblk := h.gblk
  m1 := h.m1
  maps := fun i b hb => (h.maps i b hb).mono hn
  bnodup := h.bnodup
  rmap := h.rmap.mono hn
  rbs := h.rbs
  chains := h.chains
  ok := h.ok
  vers := fun x hx => Nat.le_trans (h.vers x hx) hn
  rowsN := Nat.le_trans h.rowsN hn
  readN := Nat.le_trans h.readN hn
  bigN := hb
/-- The chain of a key's row. -/
theorem StoreAt.chain {w : World} {L : Lay} {N : Nat} {st : StS} (h : StoreAt w L N st) {k : Key2} {j : Nat} (hj : rowIdx st.rows k = some j) : ∃ p, L.cs[j]? = some p ∧ ChainAt w 0 p.1 p.2 (rowOf st.rows k) ∧ Rising (rowOf st.rows k) ∧ (rowOf st.rows k).length ≤ N ∧ st.rows[j]? = some (k, rowOf st.rows k) := by
  obtain ⟨l, hl⟩ := rowIdx_at hj
  have hlt : j < L.cs.length := by rw [h.chains.len]; exact rowIdx_lt hj
  have e : rowOf st.rows k = l := rowOf_at h.ok.nodup hl
  refine ⟨L.cs[j], List.getElem?_eq_getElem hlt, ?_, ?_, ?_, ?_⟩
  · rw [e]; exact h.chains.at_ j _ _ (List.getElem?_eq_getElem hlt) hl
  · exact rowOf_rising h.ok k
  · rw [e]; exact h.vers _ (List.mem_of_getElem? hl)
  · rw [e]; exact hl
theorem StoreAt.foot_lt {w : World} {L : Lay} {N : Nat} {st : StS} (h : StoreAt w L N st) {b : Nat} (hb : Foot L b) : b < w.heap.size := by
  rcases hb with rfl | rfl | hb | rfl | ⟨j, p, hp, hb⟩
  · exact h.blk.lt
  · exact h.gblk.lt
  · obtain ⟨i, hi⟩ := List.getElem?_of_mem hb
    exact (h.maps i b hi).lt
  · exact h.rmap.lt
  · have hj : j < st.rows.length := by rw [← h.chains.len]; exact (List.getElem?_eq_some_iff.1 hp).1
    have hc := h.chains.at_ j p _ hp (List.getElem?_eq_getElem hj)
    rcases hb with rfl | hb
    · exact hc.blk.lt
    · exact (hc.own.lt b hb).2
theorem countedN_self {m : Nat} (h : 1 ≤ m ∧ m ≤ 64) : countedN (m : Int) = m := by unfold countedN; omega
/-- A key's shard's map. -/
theorem StoreAt.shard {w : World} {L : Lay} {N : Nat} {st : StS} (h : StoreAt w L N st) (k : Key2) : ∃ b, L.bs[shardN k (L.bs.length : Int)]? = some b ∧ w.cell? ⟨L.g, shardN k (L.bs.length : Int), none⟩ = some (.map (some b)) ∧ MapO 33 keyVal w b N (shardM L.cs st.rows L.bs.length (shardN k (L.bs.length : Int))) := by
  have h1 := shardN_lt k (L.bs.length : Int)
  rw [countedN_self h.m1] at h1
  refine ⟨L.bs[shardN k (L.bs.length : Int)], List.getElem?_eq_getElem h1, ?_, h.maps _ _ (List.getElem?_eq_getElem h1)⟩
  rw [h.gblk.cell, List.getElem?_map, List.getElem?_eq_getElem h1]; rfl
theorem shardM_own {α : Type} (cs : List (Nat × Value)) (rs : RowsV α) (m : Nat) (k : Key2) : shardM cs rs m (shardN k (m : Int)) k = match rowIdx rs k with | some j => (cs[j]?).map (fun p => .pointer (some ⟨p.1, 0, none⟩)) | none => none := by
  unfold shardM; rw [if_pos rfl]
end Go.Proofs.YtfifalopbfopnaaGreatDoor.I
