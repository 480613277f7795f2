/- Walks: keys sorted (slices.SortFunc at keys, by account and asset). -/
import Derived.Test.YtfifalopbfopnaaGreatDoorVs
import Derived.Test.YtfifalopbfopnaaGreatDoorVq
import Derived.Deep.RegionHeld3
import Derived.Sort.OwnSorted
set_option linter.unusedVariables false
set_option linter.unusedSimpArgs false
namespace Go.Proofs.YtfifalopbfopnaaGreatDoor
open Go.Shelf Go.RowKit Go.Lib Go.Sort

def encKey : Key2 → List Value := fun p => [.int .i64 p.1, .int .i64 p.2]
theorem encKey_len : ∀ p, (encKey p).length = 2 := fun _ => rfl
theorem Tryz.sltKeys : SlT Tryz.prog 40 33 2 16 := ⟨Tryz.underlying40, ⟨.agg #[.int .i64 0, .int .i64 0], by kernel_rfl, rfl⟩, by decide, by decide⟩
/-- How two keys compare. -/
def keyCmp (x y : Key2) : Int := if Lib.compareInt x.1 y.1 = 0 then Lib.compareInt x.2 y.2 else Lib.compareInt x.1 y.1
theorem ltKey (x y : Key2) : ltOf keyCmp x y = keyLess x y := by
  obtain ⟨a, b⟩ := x
  obtain ⟨c, d⟩ := y
  unfold ltOf keyCmp keyLess Lib.compareInt
  simp only
  by_cases h1 : a < c
  · simp [h1]
  · by_cases h2 : c < a
    · have : a ≠ c := by omega
      simp [h1, h2, this]
    · obtain rfl : a = c := by omega
      by_cases h3 : b < d
      · simp [h3]
      · by_cases h4 : d < b <;> simp [h3, h4]
theorem swoKey : SWO (ltOf keyCmp) where
  irrefl x := by rw [ltKey]; exact keyLess_irr x
  trans x y z h1 h2 := by rw [ltKey] at *; exact keyLess_trans h1 h2
  ntrans x y z h1 h2 := by
    rw [ltKey] at *
    rw [← Bool.not_eq_true, keyLess_iff] at *
    omega
theorem totalKey (x y : Key2) (h1 : ltOf keyCmp x y = false) (h2 : ltOf keyCmp y x = false) : x = y := by
  rw [ltKey] at h1 h2
  rcases Classical.em (x = y) with h | h
  · exact h
  · rcases keyLess_total h with h3 | h3
    · rw [h3] at h1; cases h1
    · rw [h3] at h2; cases h2

/-- It has grown, and been drawn from. -/
def GrewK (W w' : World) : Prop := ∃ q os', w' = grow (W.drewN q) os'
theorem drewN_eq (W : World) (q : Nat) : W.drewN q = Sort.ahead W q := rfl
theorem GrewK.refl (W : World) : GrewK W W := ⟨0, #[], by simp [drewN_eq]⟩
theorem GrewK.alloc {W w' : World} (h : GrewK W w') (o : Obj) : GrewK W (w'.alloc o) := by
  obtain ⟨q, os', rfl⟩ := h
  exact ⟨q, os' ++ #[o], by rw [alloc_eq_grow, grow_grow]⟩
theorem GrewK.drew {W w' : World} (h : GrewK W w') : GrewK W w'.drew := by
  obtain ⟨q, os', rfl⟩ := h
  exact ⟨q + 1, os', by rw [drewN_eq, drewN_eq]; simp [grow, Sort.ahead, World.drew, Nat.add_assoc]⟩
theorem four_grew {W w' : World} {p q r s : Addr} {x y z u : Value} (h : (w'.cell? p = some x ∧ w'.cell? q = some y ∧ w'.cell? r = some z ∧ w'.cell? s = some u) ∧ GrewK W w') (o : Obj) :
    ((w'.alloc o).cell? p = some x ∧ (w'.alloc o).cell? q = some y ∧ (w'.alloc o).cell? r = some z ∧ (w'.alloc o).cell? s = some u) ∧ GrewK W (w'.alloc o) :=
  ⟨⟨((Mod.refl (fun _ => False) w').alloc o).cell h.1.1 (fun h => h), ((Mod.refl (fun _ => False) w').alloc o).cell h.1.2.1 (fun h => h), ((Mod.refl (fun _ => False) w').alloc o).cell h.1.2.2.1 (fun h => h), ((Mod.refl (fun _ => False) w').alloc o).cell h.1.2.2.2 (fun h => h)⟩, h.2.alloc o⟩

theorem four_grew' {W w' : World} {p q r s : Addr} {x y z u : Value} (h : (w'.drew.cell? p = some x ∧ w'.drew.cell? q = some y ∧ w'.drew.cell? r = some z ∧ w'.drew.cell? s = some u) ∧ GrewK W w'.drew) (o : Obj) :
    ((w'.alloc o).drew.cell? p = some x ∧ (w'.alloc o).drew.cell? q = some y ∧ (w'.alloc o).drew.cell? r = some z ∧ (w'.alloc o).drew.cell? s = some u) ∧ GrewK W (w'.alloc o).drew := four_grew h o
theorem or2_any (g : Nat) (a b : Int) (w : World) (h0 : w.cell? ⟨g, 0, none⟩ = some (.int .i64 a)) (h1 : w.cell? ⟨g, 1, none⟩ = some (.int .i64 b)) :
    Calls Tryz.prog 45 #[.slice (some ⟨g, 0, none⟩) 2 2] w fun e w' => e = .returned (.int .i64 (if a = 0 then b else a)) ∧ w' = w := by
  by_cases ha : a = 0
  · subst ha
    have hn : ((0 : Int) != 0) = false := by decide
    by_cases hb : b = 0
    · subst hb
      go_enter Tryz.func45, Tryz.ntmps45
      go_wp2
      refine wp_loop_rounds 3 ?_
      rw [rounds_succ]
      go_wp2
      rw [rounds_succ]
      go_wp2
      rw [rounds_succ]
      go_wp2
      go_ret
      exact ⟨rfl, rfl⟩
    · have hbn : (b != 0) = true := by simpa using hb
      go_enter Tryz.func45, Tryz.ntmps45
      go_wp2
      refine wp_loop_rounds 2 ?_
      rw [rounds_succ]
      go_wp2
      rw [rounds_succ]
      go_wp2
      go_ret
      exact ⟨rfl, rfl⟩
  · have hn : (a != 0) = true := by simpa using ha
    rw [if_neg ha]
    go_enter Tryz.func45, Tryz.ntmps45
    go_wp2
    refine wp_loop_rounds 1 ?_
    rw [rounds_succ]
    go_wp2
    go_ret
    exact ⟨rfl, rfl⟩

set_option maxRecDepth 100000 in
set_option maxHeartbeats 1000000 in
theorem keyCmp_any (x y : Key2) (W : World) : Calls Tryz.prog 44 #[.agg #[.int .i64 x.1, .int .i64 x.2], .agg #[.int .i64 y.1, .int .i64 y.2]] W fun e w' => e = .returned (.int .i64 (keyCmp x y)) ∧ GrewK W w' := by
  have hcon := fun (a b : Int) W' => AnyG.cmp_Compare_int Tryz.cmpInt a b W'
  change ∀ a b W', Calls Tryz.prog 46 _ _ _ at hcon
  have HCON := Lib.hid hcon
  clear hcon
  unfold keyCmp
  obtain ⟨x1, x2⟩ := x
  obtain ⟨y1, y2⟩ := y
  simp only
  obtain ⟨ca, hca⟩ : ∃ ca, Lib.compareInt x1 y1 = ca := ⟨_, rfl⟩
  obtain ⟨cb, hcb⟩ : ∃ cb, Lib.compareInt x2 y2 = cb := ⟨_, rfl⟩
  obtain ⟨rr, hrr⟩ : ∃ rr, (if ca = 0 then cb else ca) = rr := ⟨_, rfl⟩
  have HRR := Lib.hid hrr
  rw [hca, hcb, hrr]
  clear hrr
  have H1 := Lib.hid (fun W' => HCON.out x1 y1 W')
  have H2 := Lib.hid (fun W' => HCON.out x2 y2 W')
  rw [hca] at H1
  rw [hcb] at H2
  have n1 := Blk.new W 33 [.int .i64 x1, .int .i64 x2]
  have n2 := Blk.new (W.alloc (.cells #[.int .i64 x1, .int .i64 x2] 33)) 33 [.int .i64 y1, .int .i64 y2]
  simp only [World.size_alloc] at n2
  have n1' := n1.alloc (.cells #[.int .i64 y1, .int .i64 y2] 33)
  have c0 := n1'.cell 0
  have c1 := n1'.cell 1
  have c2 := n2.cell 0
  have c3 := n2.cell 1
  simp only [List.getElem?_cons_zero, List.getElem?_cons_succ] at c0 c1 c2 c3
  have hgr : GrewK W ((W.alloc (.cells #[.int .i64 x1, .int .i64 x2] 33)).alloc (.cells #[.int .i64 y1, .int .i64 y2] 33)) := ((GrewK.refl W).alloc _).alloc _
  clear n1 n2 n1' hca hcb HCON
  obtain ⟨wo, hwo⟩ : ∃ wo, (W.alloc (.cells #[.int .i64 x1, .int .i64 x2] 33)).alloc (.cells #[.int .i64 y1, .int .i64 y2] 33) = wo := ⟨_, rfl⟩
  have HWO := Lib.hid hwo
  clear hwo
  go_enter Tryz.func44, Tryz.ntmps44
  go_wp2
  rw [HWO.out] at c0 c1 c2 c3 hgr ⊢
  go_region_held3 (fun w' => (w'.cell? ⟨W.heap.size, 0, none⟩ = some (.int .i64 x1) ∧ w'.cell? ⟨W.heap.size, 1, none⟩ = some (.int .i64 x2) ∧ w'.cell? ⟨W.heap.size + 1, 0, none⟩ = some (.int .i64 y1) ∧ w'.cell? ⟨W.heap.size + 1, 1, none⟩ = some (.int .i64 y2)) ∧ GrewK W w') ((first | exact ⟨⟨‹_›, ‹_›, ‹_›, ‹_›⟩, hgr.drew⟩ | assumption | (refine four_grew' ?_ _; assumption))) ((first
    | (go_at_call_of 46 (Value.int IntKind.i64 x1); refine (H1.out _).mono ?_; rintro e w1 ⟨rfl, rfl⟩)
    | (go_at_call_of 46 (Value.int IntKind.i64 x2); refine (H2.out _).mono ?_; rintro e w1 ⟨rfl, rfl⟩)
    | (go_at_call 45; refine (or2_any _ ca cb _ (by exact cells_new wo [.int .i64 ca, .int .i64 cb] _ 0 _ rfl) (by exact cells_new wo [.int .i64 ca, .int .i64 cb] _ 1 _ rfl)).mono ?_; rintro e w1 ⟨rfl, rfl⟩; rw [HRR.out])))
  all_goals
    go_wp2
    go_ret
    exact ⟨rfl, And.right (by assumption)⟩

theorem cmpLaysKey (blk off size : Nat) (w : World) : CmpLays Tryz.prog 44 #[] encKey 2 keyCmp blk off size w := fun m os dk _ x y => keyCmp_any x y _
theorem flat_at (l : List Key2) {t : Nat} (ht : t < l.length * 2) : (cellsL encKey l)[t]? = some (flatK encKey 2 l.toArray)[t]! := by
  have hm : t % 2 < 2 := Nat.mod_lt _ (by omega)
  have hd : t / 2 < l.length := by omega
  have e : t / 2 * 2 + t % 2 = t := by omega
  have h1 := cellsL_at encKey_len l (t / 2) (t % 2) _ (List.getElem?_eq_getElem hd) hm
  rw [e] at h1
  rw [h1, get_flatK _ _ _ _ (by simpa using ht)]
  have h2 : l.toArray[t / 2]! = l[t / 2] := by simp [hd]
  rw [h2]
  rw [List.getElem?_eq_getElem (by rw [encKey_len]; exact hm)]
  congr 1
  rw [getElem!_pos]
theorem putCells_take (cur : Array Value) (l : List Key2) (h : l.length * 2 ≤ cur.size) : (putCells id 0 (flatK encKey 2 l.toArray) cur).toList.take (l.length * 2) = cellsL encKey l := by
  apply List.ext_getElem?
  intro j
  by_cases hj : j < l.length * 2
  · rw [List.getElem?_take_of_lt hj, Array.getElem?_toList, flat_at l hj]
    have hc : j < cur.size := by omega
    simp [putCells, hj, hc]
  · rw [List.getElem?_take_eq_none (by omega), List.getElem?_eq_none (by rw [cellsL_length encKey_len]; omega)]
theorem keyLe_sorted (l : List Key2) : (l.mergeSort fun x y => !(ltOf keyCmp) y x).Perm l ∧ (l.mergeSort fun x y => !(ltOf keyCmp) y x).Pairwise (fun a b => keyLess b a = false) := by
  refine ⟨List.mergeSort_perm _ _, ?_⟩
  have h := List.pairwise_mergeSort (le := fun x y : Key2 => !(ltOf keyCmp) y x) (fun a b c h1 h2 => by
    simp only [Bool.not_eq_true', ltKey] at *
    have := swoKey.ntrans c b a
    rw [ltKey, ltKey, ltKey] at this
    exact this h2 h1) (fun a b => by
    simp only [Bool.or_eq_true, Bool.not_eq_true', ltKey]
    rcases Classical.em (a = b) with e | e
    · subst e; exact .inl (keyLess_irr a)
    · rcases keyLess_total e with h3 | h3
      · refine .inl ?_
        cases hba : keyLess b a with
        | false => rfl
        | true => have := keyLess_trans h3 hba; rw [keyLess_irr] at this; cases this
      · refine .inr ?_
        cases hba : keyLess a b with
        | false => rfl
        | true => have := keyLess_trans h3 hba; rw [keyLess_irr] at this; cases this) l
  exact h.imp fun {a b} hab => by simpa [ltKey] using hab
theorem sorted_up {l : List Key2} (hn : l.Nodup) (h : l.Pairwise (fun a b => keyLess b a = false)) : KeysUp l := by
  refine (List.pairwise_and_iff.2 ⟨h, hn⟩).imp fun {a b} ⟨h1, h2⟩ => ?_
  rcases keyLess_total h2 with h3 | h3
  · exact h3
  · rw [h3] at h1; cases h1
/-- What the sort leaves. -/
def SortPost (w : World) (B : Nat) (v : Value) (n : Nat) (l : List Key2) (e : Ending) (w' : World) : Prop :=
  e = .returned (.tuple #[]) ∧ w'.ownsRow B 33 2 v n (cellsL encKey (l.mergeSort fun x y => !(ltOf keyCmp) y x)) ∧ Mod (fun b => v.ownBlock = some b) w w'
set_option maxHeartbeats 1000000 in
theorem sortKeys_any (B : Nat) (v : Value) (n : Nat) (l : List Key2) (w : World) (h : w.ownsRow B 33 2 v n (cellsL encKey l)) (hl : l.length = n) (hn : n ≤ 4294967296) :
    Calls Tryz.prog 43 #[v, .func (.func 44) #[] #[]] w (SortPost w B v n l) := by
  by_cases h0 : n = 0
  · subst h0
    obtain rfl := List.length_eq_zero_iff.1 hl
    obtain ⟨A, c, rfl⟩ := own_shape h
    have hcon := AnyF.slices_SortFunc_none Tryz.sortK A c (.func (.func 44) #[] #[]) w
    change Calls Tryz.prog 43 _ _ _ at hcon
    refine hcon.mono fun e w' ⟨he, hw⟩ => ?_
    subst hw
    exact ⟨he, by simpa using h, Mod.refl _ _⟩
  · obtain ⟨g, cap, rfl, hg, hgl⟩ := h.form (by omega)
    obtain ⟨hlen, hr⟩ := h
    rcases hr with ⟨h1, _⟩ | ⟨g', cap', cur, h1, hg, hb, h2, h3, h4, h5⟩
    · cases h1
    injection h1 with h1 _ h6
    injection h1 with h1
    injection h1 with h1
    subst h1 h6 hl
    have hH : HoldsK encKey 2 w g 0 l.toArray := by
      intro j hj
      have hj' : j < l.length * 2 := by simpa using hj
      refine ⟨?_, by simp [World.frozen?, hb]⟩
      have e1 : (cur.toList.take (l.length * 2))[j]? = (cellsL encKey l)[j]? := by rw [h5]
      rw [List.getElem?_take_of_lt hj', flat_at l hj'] at e1
      simp only [World.cell?, hb, Nat.zero_add, Option.isSome_none, Bool.false_eq_true, if_false]
      rw [← Array.getElem?_toList, e1]; rfl
    have eg : ∀ args w, (callFunc 44 args).run Tryz.prog w = .ok (.enter 44 args) w := enters_of Tryz.func44 (by kernel_rfl) rfl
    have hcon := AnyQ.slices_SortFunc_total Tryz.sortK 2 Tryz.isAgg33 Tryz.sizeOf33 encKey encKey_len (fun x v hv => by simp [encKey] at hv; rcases hv with rfl | rfl <;> rfl) keyCmp swoKey 44 #[] g 0 cap l.toArray w eg (cmpLaysKey g 0 _ w) hH hgl (by simp; omega) totalKey
    change Calls Tryz.prog 43 _ _ _ at hcon
    simp only [List.size_toArray, List.toList_toArray] at hcon
    refine hcon.mono fun e w' ⟨he, m, os, hw⟩ => ?_
    have hml : (l.mergeSort fun x y => !(ltOf keyCmp) y x).length = l.length := (List.mergeSort_perm _ _).length_eq
    unfold SortPost
    generalize (l.mergeSort fun x y => !(ltOf keyCmp) y x) = l' at *
    subst hw
    have hheap : (sortWorldK encKey 2 w g 0 m l'.toArray os).heap[g]? = some (.cells (putCells id 0 (flatK encKey 2 l'.toArray) cur) 33 (0, 0)) := by
      unfold sortWorldK putRowK
      rw [heap_grow_old _ _ (by simpa using hgl)]
      simp [putRow, mapBlock, Sort.ahead, Array.getElem?_modify, hb, onCells]
    refine ⟨he, ⟨by rw [cellsL_length encKey_len, hml], .inr ⟨g, cap, _, rfl, hg, hheap, h2, h3, by simp [putCells, h4], ?_⟩⟩, ⟨rfl, rfl, rfl, by simp [sortWorldK, putRowK, grow, putRow, mapBlock, Sort.ahead], fun k hk hne => ?_⟩⟩
    · rw [← hml]; exact putCells_take cur l' (by rw [hml, h4]; exact Nat.mul_le_mul_right _ h2)
    · unfold sortWorldK putRowK
      rw [heap_grow_old _ _ (by simpa using hk)]
      have hgk : g ≠ k := fun e => hne (by rw [e]; rfl)
      simp [putRow, mapBlock, Sort.ahead, Array.getElem?_modify, hgk]
end Go.Proofs.YtfifalopbfopnaaGreatDoor
