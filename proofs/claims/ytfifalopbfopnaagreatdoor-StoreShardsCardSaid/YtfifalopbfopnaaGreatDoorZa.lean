/- Plain: a store of texts and the store of their lengths. -/
import Derived.Test.YtfifalopbfopnaaGreatDoorIt
import Derived.Test.YtfifalopbfopnaaGreatDoorUja
set_option linter.unusedVariables false
set_option linter.unusedSimpArgs false
namespace Go.Proofs.YtfifalopbfopnaaGreatDoor

section
variable {α β : Type}
def mapL (f : α → β) (l : List (Int × α)) : List (Int × β) := l.map fun v => (v.1, f v.2)
def mapR (f : α → β) (rs : RowsV α) : RowsV β := rs.map fun x => (x.1, mapL f x.2)
def mapSt (f : α → β) (st : St α) : St β := ⟨mapR f st.rows, st.readers⟩
theorem mapL_length (f : α → β) (l : List (Int × α)) : (mapL f l).length = l.length := by simp [mapL]
theorem rowIdx_mapR (f : α → β) : ∀ (rs : RowsV α) (k : Key2), rowIdx (mapR f rs) k = rowIdx rs k
  | [], k => rfl
  | x :: rs, k => by
    have ih := rowIdx_mapR f rs k
    unfold mapR at ih ⊢
    simp only [List.map_cons]
    unfold rowIdx
    simp only [ih]
theorem rowOf_mapR (f : α → β) (rs : RowsV α) (k : Key2) : rowOf (mapR f rs) k = mapL f (rowOf rs k) := by
  unfold rowOf
  rw [rowIdx_mapR]
  cases h : rowIdx rs k with
  | none => rfl
  | some i =>
    obtain ⟨l, hl⟩ := rowIdx_at h
    simp [mapR, hl]
theorem upTo_mapL (f : α → β) (n : Int) : ∀ l : List (Int × α), upTo (mapL f l) n = upTo l n
  | [] => rfl
  | x :: l => by
    have ih := upTo_mapL f n l
    unfold mapL at ih ⊢
    simp only [List.map_cons]
    unfold upTo
    simp only [ih]
theorem canPut_mapL (f : α → β) (l : List (Int × α)) (n : Int) : canPut (mapL f l) n = canPut l n := by
  unfold canPut mapL
  rw [List.getLast?_map]
  cases l.getLast? <;> rfl
theorem goneV_mapL (f : α → β) (l : List (Int × α)) (n : Int) : goneV (mapL f l) n = goneV l n := by unfold goneV; rw [upTo_mapL]
theorem pruneV_mapL (f : α → β) (l : List (Int × α)) (n : Int) : pruneV (mapL f l) n = mapL f (pruneV l n) := by
  unfold pruneV
  rw [goneV_mapL]
  unfold mapL
  rw [List.map_drop]
theorem atV_mapL (f : α → β) (l : List (Int × α)) (n : Int) : atV (mapL f l) n = (atV l n).map fun v => (v.1, f v.2) := by
  unfold atV
  rw [upTo_mapL]
  split
  · rfl
  · unfold mapL; rw [List.getElem?_map]
theorem setRow_mapR (f : α → β) (rs : RowsV α) (k : Key2) (l : List (Int × α)) : setRow (mapR f rs) k (mapL f l) = mapR f (setRow rs k l) := by
  unfold setRow
  rw [rowIdx_mapR]
  cases h : rowIdx rs k with
  | none => simp [mapR]
  | some i => simp [mapR, List.map_set]
theorem stPut_map (f : α → β) (st : St α) (k : Key2) (n : Int) (v : α) : stPut (mapSt f st) k n (f v) = mapSt f (stPut st k n v) := by
  unfold stPut mapSt
  simp only [rowOf_mapR, canPut_mapL]
  split
  · have : mapL f (rowOf st.rows k) ++ [(n, f v)] = mapL f (rowOf st.rows k ++ [(n, v)]) := by simp [mapL]
    rw [this, setRow_mapR]
  · rfl
theorem stOldest_map (f : α → β) (st : St α) (n : Int) : stOldest (mapSt f st) n = stOldest st n := rfl
theorem stPrune_map (f : α → β) (st : St α) (k : Key2) (n : Int) : stPrune (mapSt f st) k n = mapSt f (stPrune st k n) := by
  unfold stPrune
  rw [stOldest_map]
  unfold mapSt
  simp only [rowOf_mapR, goneV_mapL, pruneV_mapL]
  split
  · rfl
  · rw [setRow_mapR]
theorem stOpen_map (f : α → β) (st : St α) (n : Int) : stOpen (mapSt f st) n = mapSt f (stOpen st n) := rfl
theorem closes_map (f : α → β) (st : St α) (n : Int) : closes (mapSt f st) n = closes st n := rfl
theorem stClose_map (f : α → β) (st : St α) (n : Int) : stClose (mapSt f st) n = mapSt f (stClose st n) := by
  unfold stClose
  rw [closes_map]
  split <;> rfl
theorem stVersions_map (f : α → β) (st : St α) : stVersions (mapSt f st) = stVersions st := by
  unfold stVersions mapSt mapR
  rw [List.map_map]
  congr 1
  refine List.map_congr_left fun x _ => ?_
  exact mapL_length f x.2
theorem keysOf_mapR (f : α → β) (rs : RowsV α) : keysOf (mapR f rs) = keysOf rs := by
  unfold keysOf mapR
  rw [List.map_map]
  rfl
theorem stNew_map (f : α → β) : mapSt f (stNew : St α) = stNew := rfl
end

def lenB (v : ByteArray) : Int := (v.size : Int)
/-- The store of the texts' lengths. -/
def numSt (st : StS) : I.StS := mapSt lenB st
theorem atV_num (st : StS) (k : Key2) (n : Int) : atV (rowOf (numSt st).rows k) n = (atV (rowOf st.rows k) n).map fun v => (v.1, lenB v.2) := by
  unfold numSt mapSt
  simp only
  rw [rowOf_mapR, atV_mapL]
theorem endV_num (st : StS) (k : Key2) : I.endV (rowOf (numSt st).rows k) = (lenB (endV (rowOf st.rows k)).1, (endV (rowOf st.rows k)).2.1, (endV (rowOf st.rows k)).2.2) := by
  unfold numSt mapSt
  simp only
  rw [rowOf_mapR]
  unfold I.endV endV mapL
  rw [List.getLast?_map]
  cases (rowOf st.rows k).getLast? <;> rfl
theorem goneV_num (st : StS) (k : Key2) (n : Int) : goneV (rowOf (numSt st).rows k) (stOldest (numSt st) n) = goneV (rowOf st.rows k) (stOldest st n) := by
  unfold numSt
  rw [stOldest_map]
  unfold mapSt
  simp only
  rw [rowOf_mapR, goneV_mapL]
theorem canPut_num (st : StS) (k : Key2) (n : Int) : canPut (rowOf (numSt st).rows k) n = canPut (rowOf st.rows k) n := by
  unfold numSt mapSt
  simp only
  rw [rowOf_mapR, canPut_mapL]
/-- A call that is no question for the number of shards is answered alike whatever that number. -/
theorem answer_shards (m m' : Nat) (st : StS) (c : CallV) (h : 0 ≤ c.kind) (h' : c.kind ≤ 8) (h3 : c.kind ≠ 3) : answer m st c = answer m' st c := by
  unfold answer
  by_cases h0 : c.kind = 0
  · rw [if_pos h0, if_pos h0]
  rw [if_neg h0, if_neg h0]
  by_cases h1 : c.kind = 1
  · rw [if_pos h1, if_pos h1]
  rw [if_neg h1, if_neg h1]
  by_cases h2 : c.kind = 2
  · rw [if_pos h2, if_pos h2]
  rw [if_neg h2, if_neg h2]
  by_cases h4 : c.kind = 4
  · rw [if_pos h4, if_pos h4]
  rw [if_neg h4, if_neg h4]
  by_cases h5 : c.kind = 5
  · rw [if_pos h5, if_pos h5]
  rw [if_neg h5, if_neg h5]
  by_cases h6 : c.kind = 6
  · rw [if_pos h6, if_pos h6]
  rw [if_neg h6, if_neg h6]
  by_cases h7 : c.kind = 7
  · rw [if_pos h7, if_pos h7]
  rw [if_neg h7, if_neg h7, if_pos (show c.kind = 8 by omega), if_pos (show c.kind = 8 by omega)]
end Go.Proofs.YtfifalopbfopnaaGreatDoor
