/- Words and walks, part 16 of 19. -/
import Derived.Test.YtkkaejbdekdljaaDoorQ11
import Derived.Test.YtkkaejbdekdljaaDoorQ14
import Derived.Test.YtkkaejbdekdljaaDoorQ15
/- Walks: custodyref23.Resolve. -/
set_option linter.unusedVariables false
set_option linter.unusedSimpArgs false
namespace Go.Proofs.YtkkaejbdekdljaaDoor
open Go.RowKit

theorem linksBad_none {ls : List NoticeV} : ∀ {l : List (Int × ByteArray)} {k : Nat}, linksBad ls l k = none → ∀ x, x ∈ l → linkBad ls x = 0
  | [], _, _, x, hx => by simp at hx
  | y :: l, k, h, x, hx => by
    unfold linksBad at h
    split at h
    · cases h
    · rename_i h0
      rcases List.mem_cons.1 hx with rfl | hx
      · simpa using h0
      · exact linksBad_none h x hx
theorem noticesBad_none {all : List NoticeV} : ∀ {ls : List NoticeV} {i : Nat}, noticesBad all ls i = none → ∀ v, v ∈ ls → linksBad all v.links 0 = none
  | [], _, _, v, hv => by simp at hv
  | u :: l, i, h, v, hv => by
    unfold noticesBad at h
    split at h
    · cases h
    · rename_i hb
      rcases List.mem_cons.1 hv with rfl | hv
      · exact hb
      · exact noticesBad_none h v hv
theorem link_good {ls : List NoticeV} (h : noticesBad ls ls 0 = none) {i k : Nat} {v : NoticeV} {x : Int × ByteArray} (hv : ls[i]? = some v) (hx : v.links[k]? = some x) : (x.1 = 1 ∨ x.1 = 2 ∨ x.1 = 3) ∧ ∃ z, findAt ls x.2.toList = some z := by
  have h1 := linksBad_none (noticesBad_none h v (List.mem_of_getElem? hv)) x (List.mem_of_getElem? hx)
  unfold linkBad at h1
  split at h1
  · cases h1
  · rename_i hk
    split at h1
    · cases h1
    · rename_i hf
      exact ⟨by omega, Option.isSome_iff_exists.1 (by cases hq : findAt ls x.2.toList with | none => exact absurd hq hf | some z => rfl)⟩
/-- What the document's Resolve answers. -/
def RefResPost (ls : List NoticeV) (w : World) (e : Ending) (w' : World) : Prop :=
  New w w' ∧ ∃ r A c us, ((wrongOf ls).1 = 0 → HeadsOf ls r) ∧ e = .returned (.tuple #[.slice A (resLists ls r).length c, .int .i64 (resErr ls r).1, .int .i64 ((resErr ls r).2.1 : Int), .int .i64 ((resErr ls r).2.2 : Int)]) ∧
    Nest encInts 1 w' A (resLists ls r).length us ((resLists ls r).map intsOf)
theorem refRes_bad {ls : List NoticeV} {w : World} {no : Int} {i k : Nat} (h : wrongOf ls = (no, i, k)) (h0 : no ≠ 0) : ∀ w', New w w' → RefResPost ls w (.returned (.tuple #[.slice none 0 0, .int .i64 no, .int .i64 (i : Int), .int .i64 (k : Int)])) w' := fun w' hw => by
  have h1 : ∀ r, resErr ls r = (no, i, k) := fun r => by unfold resErr; rw [if_pos (by rw [h]; exact h0), h]
  have h2 : ∀ r, resLists ls r = [] := fun r => by unfold resLists; rw [if_neg (by rw [h1]; exact h0)]
  exact ⟨hw, [], none, 0, [], fun h3 => absurd h3 (by rw [h]; exact h0), by rw [h1, h2]; rfl, by rw [h2]; exact ⟨Sl.nil _ _ _, rfl, fun i v l h => by simp at h⟩⟩
theorem prios_at {ls : List NoticeV} {i : Nat} {v : NoticeV} (h : ls[i]? = some v) : prioOf (ls.map fun v => v.b.priority) i = v.b.priority := by simp [prioOf, List.getD_eq_getElem?_getD, h]
theorem headEdges_at {R : Nat → Nat} {T : List (Int × Int)} {k x y : Nat} (h : T[k]? = some ((x : Int), (y : Int))) : (headEdges R T).take (k + 1) = (headEdges R T).take k ++ [((R x : Int), (R y : Int))] := by
  rw [List.take_add_one]
  simp [headEdges, h]
theorem headEdges_length (R : Nat → Nat) (T : List (Int × Int)) : (headEdges R T).length = T.length := by simp [headEdges]
/-- Priorities on the way: the greatest among the things of each head below k. -/
def PrioUp (R : Nat → Nat) (n k : Nat) (p : Nat → Int) (ps : List Int) : Prop := ps.length = n ∧ ∀ i, i < n → prioOf ps i = maxOf p (p i) (mem R k i)
theorem PrioUp.step {R : Nat → Nat} {n k : Nat} {p : Nat → Int} {ps : List Int} (h : PrioUp R n k p ps) (hx : R k < n) {q : List Int} (hq : (prioOf ps (R k) < p k ∧ q = ps.set (R k) (p k)) ∨ (¬ prioOf ps (R k) < p k ∧ q = ps)) : PrioUp R n (k + 1) p q := by
  refine ⟨by rcases hq with ⟨_, rfl⟩ | ⟨_, rfl⟩ <;> simp [h.1], fun i hi => ?_⟩
  have h1 := h.2 i hi
  rw [mem_succ]
  by_cases e : R k = i
  · subst e
    rw [if_pos rfl, maxOf_snoc, ← h1]
    rcases hq with ⟨h2, rfl⟩ | ⟨h2, rfl⟩
    · rw [prioOf_set (by rw [h.1]; exact hx), if_pos rfl]; omega
    · omega
  · rw [if_neg e, List.append_nil, ← h1]
    rcases hq with ⟨h2, rfl⟩ | ⟨h2, rfl⟩
    · rw [prioOf_set (by rw [h.1]; exact hx), if_neg (Ne.symm e)]
    · rfl
theorem pick_congr {r : Nat → Bool} {p p' : Nat → Int} : ∀ (k : Nat), (∀ i, i < k → p i = p' i) → pick r p k = pick r p' k
  | 0, _ => rfl
  | k + 1, h => by
    have ih := pick_congr (r := r) k fun i hi => h i (by omega)
    simp only [pick, ih]
    cases hb : pick r p' k with
    | none => rfl
    | some b => simp only [h b (by have := (pick_lt hb).1; omega), h k (by omega)]
theorem run_congr {l : List (Int × Int)} {p p' : Nat → Int} {n : Nat} (h : ∀ i, i < n → p i = p' i) : ∀ (f : Nat) (out : List Nat), run l p n f out = run l p' n f out
  | 0, _ => rfl
  | f + 1, out => by
    have e := pick_congr (r := ready l out) n h
    cases hb : pick (ready l out) p' n with
    | none => rw [run_none hb, run_none (e.trans hb)]
    | some b => rw [run_some hb, run_some (e.trans hb)]; exact run_congr h f _
theorem ordered_congr {l : List (Int × Int)} {p p' : Nat → Int} {n : Nat} (h : ∀ i, i < n → p i = p' i) : ordered l p n = ordered l p' n := run_congr h n []
theorem headEdges_in {R : Nat → Nat} {T : List (Int × Int)} {n : Nat} (hle : ∀ i, i < n → R i ≤ i) (hT : ∀ q, q ∈ T → 0 ≤ q.1 ∧ q.1 < n ∧ 0 ≤ q.2 ∧ q.2 < n) : ∀ p, p ∈ headEdges R T → 0 ≤ p.1 ∧ p.1 < n ∧ 0 ≤ p.2 ∧ p.2 < n := fun p hp => by
  obtain ⟨t, ht, rfl⟩ := List.mem_map.1 hp
  obtain ⟨h1, h2, h3, h4⟩ := hT t ht
  have a1 := hle t.1.toNat (by omega)
  have a2 := hle t.2.toNat (by omega)
  simp only
  omega
theorem wpList_store_fresh2 {P : Program} {ops : Array Oper} {rest : List Oper} {op : Oper} {a : Act} {Q : Exit → Act → World → Prop} {w w0 : World} {c : Array Value} {t : TypeId} (hgd : op.guard = none) (x y : Operand) (ho : op.op = .store t x y) (hw0 : w0 = w.alloc (.cells c t)) (cs : List Value) (hx : a.eval x = .pointer (some ⟨w.heap.size, 0, none⟩)) (hy : a.eval y = .agg cs.toArray)
    (hi : (P.info? t).map (·.size) = some cs.length) (hz : c.size = cs.length) (h1 : ∀ u ∈ cs, u.oneCell' = true)
    (h : ∀ w', Blk w' w.heap.size t cs → New w w' → w'.heap.size = w.heap.size + 1 → wpList P ops Q rest (a.put op.dst undef) w') : wpList P ops Q (op :: rest) a w0 := by
  subst hw0
  exact wpList_store_fresh hgd x y ho cs hx hy hi hz h1 h

set_option maxRecDepth 100000 in
set_option maxHeartbeats 4000000 in
theorem refResolve_ok (A : Option Addr) (n c : Nat) (ls : List NoticeV) (w : World) (ha : Notices w A n ls) (hT : totN ls ≤ 3000) (hwr : wrongOf ls = (0, 0, 0)) (hnb : noticesBad ls ls 0 = none) :
    Calls Tryd.prog 26 #[.slice A n c] w (RefResPost ls w) := by
  have hnl := ha.len
  subst hnl
  have hn : ls.length ≤ 3000 := Nat.le_trans (totN_length ls) hT
  have HWR := Lib.hid (wrong_any A ls.length c ls w ha)
  rw [hwr] at HWR
  have HW0 := Lib.hid hwr
  have HGOOD := Lib.hid (fun (i k : Nat) (v : NoticeV) (x : Int × ByteArray) (hv : ls[i]? = some v) (hx : v.links[k]? = some x) => link_good hnb hv hx)
  have hwl := Nat.le_trans (withsOf_le ls) hT
  have htl := Nat.le_trans (tiesOf_le ls) hT
  have HWI := Lib.hid (withsOf_in ls)
  have HTN := Lib.hid (tiesOf_in ls)
  clear hT hwr hnb
  obtain ⟨n, hnn⟩ : ∃ n, ls.length = n := ⟨_, rfl⟩
  have HN := Lib.hid hnn
  rw [hnn] at hn ha HWR HWI HTN
  rw [hnn]
  clear hnn
  obtain ⟨WW, hWW⟩ : ∃ WW, withsOf ls = WW := ⟨_, rfl⟩
  obtain ⟨TT, hTT⟩ : ∃ TT, tiesOf ls = TT := ⟨_, rfl⟩
  rw [hWW] at hwl HWI
  rw [hTT] at htl HTN
  have HWW := Lib.hid hWW
  have HTT := Lib.hid hTT
  clear hWW hTT
  go_enter Tryd.func26, Tryd.ntmps26
  go_wp2_with (go_at_call 54; refine HWR.out.mono ?_; rintro e w1 ⟨rfl, hw1⟩)
  have HA1 := Lib.hid (ha.new_ hw1)
  have HW1 := Lib.hid hw1
  clear ha hw1 HWR
  go_loopw [9, 10, 11] (fun va vb i wr => ∃ (k : Nat) (W T : List (Int × Int)), k ≤ n ∧ i = .int .i64 (k : Int) ∧ RowsOf wr w1.heap.size 67 2 [va, vb] [(W.length, cellsL encTwos W), (T.length, cellsL encTwos T)] ∧
    W ++ pairs (linkWith ls) (ls.drop k) k = WW ∧ T ++ pairs (linkTie ls) (ls.drop k) k = TT ∧ New w1 wr) (fun _ _ i _ => n - (intOf i).toNat)
  case atStart => exact ⟨0, [], [], Nat.zero_le _, rfl, RowsOf.nil w1 _ _ _ 2, HWW.out, HTT.out, Mod.refl _ _⟩
  case round =>
    obtain ⟨i, W, T, hi, rfl, hrows, hWr, hTr, hw⟩ := hrel
    have HR := Lib.hid hrows
    have HW := Lib.hid hWr
    have HT := Lib.hid hTr
    clear hrows hWr hTr
    by_cases hlt : i < n
    · obtain ⟨v, hp⟩ : ∃ v, ls[i]? = some v := ⟨_, List.getElem?_eq_getElem (by have := HN.out; omega)⟩
      have HP := Lib.hid hp
      have hW1 : W ++ ((v.links.drop 0).flatMap (linkWith ls i) ++ pairs (linkWith ls) (ls.drop (i + 1)) (i + 1)) = WW := by have := HW.out; rw [pairs_next hp] at this; exact this
      have hT1 : T ++ ((v.links.drop 0).flatMap (linkTie ls i) ++ pairs (linkTie ls) (ls.drop (i + 1)) (i + 1)) = TT := by have := HT.out; rw [pairs_next hp] at this; exact this
      have HW2 := Lib.hid hW1
      have HT2 := Lib.hid hT1
      have HSL := Lib.hid (HA1.out.ok i v hp)
      have hll := HSL.out.le
      clear hp hW1 hT1
      obtain ⟨wo, rfl⟩ : ∃ wo : World, wo = wr := ⟨_, rfl⟩
      go_wp2
      go_loopw [9, 10, 12] (fun va vb j wr => ∃ (k : Nat) (W T : List (Int × Int)), k ≤ v.links.length ∧ j = .int .i64 (k : Int) ∧ RowsOf wr w1.heap.size 67 2 [va, vb] [(W.length, cellsL encTwos W), (T.length, cellsL encTwos T)] ∧
        W ++ ((v.links.drop k).flatMap (linkWith ls i) ++ pairs (linkWith ls) (ls.drop (i + 1)) (i + 1)) = WW ∧ T ++ ((v.links.drop k).flatMap (linkTie ls i) ++ pairs (linkTie ls) (ls.drop (i + 1)) (i + 1)) = TT ∧ New w1 wr) (fun _ _ j _ => v.links.length - (intOf j).toNat)
      case atStart => exact ⟨0, W, T, Nat.zero_le _, rfl, HR.out, HW2.out, HT2.out, hw⟩
      case round =>
        obtain ⟨k, W, T, hk, rfl, hrows, hWr, hTr, hw3⟩ := hrel
        have HR := Lib.hid hrows
        have HW := Lib.hid hWr
        have HT := Lib.hid hTr
        clear hrows hWr hTr
        obtain ⟨b, off, v2, rfl, hp2, hc⟩ := (HA1.out.sl.new_ hw3).elem encNotice_len (by decide) hlt
        rw [HP.out] at hp2
        injection hp2 with hp2
        subst hp2
        have c26 := hc 26 _ rfl
        clear hc
        by_cases hkl : k < v.links.length
        · obtain ⟨lb3, lo3, ⟨x0, x1⟩, hRR, hx, hxc⟩ := Sl.elem (sz := 2) encLinks_len (by decide) (Sl.new_ HSL.out hw3) hkl
          have d0 := hxc 0 _ rfl
          have d1 := hxc 1 _ rfl
          simp only [Nat.add_zero] at d0
          rw [hRR] at c26
          obtain ⟨hk3, z, hf⟩ := HGOOD.out i k v (x0, x1) HP.out hx
          simp only at hk3 hf
          have hfi := fun W hW => find_any (some ⟨b, off, none⟩) n c ls x1 W hW
          simp only [hf, idxInt] at hfi
          have HFI := Lib.hid hfi
          have hoth : other ls (x0, x1) = z := by simp [other, hf]
          have hwlen : W.length ≤ 3000 := by have := congrArg List.length HW.out; simp only [List.length_append] at this; omega
          have htlen : T.length ≤ 3000 := by have := congrArg List.length HT.out; simp only [List.length_append] at this; omega
          have hW1 := HW.out
          rw [links_next hx, List.append_assoc, ← List.append_assoc] at hW1
          have hT1 := HT.out
          rw [links_next hx, List.append_assoc, ← List.append_assoc] at hT1
          have HA3 := Lib.hid (HA1.out.new_ hw3)
          clear hxc hx hRR hf hfi
          rcases hk3 with rfl | rfl | rfl
          · have HW2 := Lib.hid (show (W ++ [((i : Int), (z : Int))]) ++ ((v.links.drop (k + 1)).flatMap (linkWith ls i) ++ pairs (linkWith ls) (ls.drop (i + 1)) (i + 1)) = WW by rw [← hW1]; simp [linkWith, hoth])
            have HT2 := Lib.hid (show (T) ++ ((v.links.drop (k + 1)).flatMap (linkTie ls i) ++ pairs (linkTie ls) (ls.drop (i + 1)) (i + 1)) = TT by rw [← hT1]; simp [linkTie, hoth])
            clear hoth hW1 hT1
            go_wp2_with (first | (refine wpList_store_fresh2 rfl _ _ rfl rfl (encLinks (1, x1)) rfl rfl Tryd.sizeLink rfl (encLinks_one (1, x1)) ?_; intro w4 hb4 hn4 hs4; have HB4 := Lib.hid hb4; have e0 : w4.cell? ⟨wr.heap.size, 0, none⟩ = some (.int .i64 1) := hb4.cell 0; have e1 : w4.cell? ⟨wr.heap.size, 1, none⟩ = some (.string x1) := hb4.cell 1; have HN4 := Lib.hid hn4; have ha4 := HA3.out.new_ hn4; have HA4 := Lib.hid ha4; clear ha4 hn4 hb4 hs4) | (go_at_call 55; refine (HFI.out _ HA4.out).mono ?_; rintro e w5 ⟨rfl, hw5⟩; have hb5 := HB4.out.new_ hw5; have HB5 := Lib.hid hb5; have g0 : w5.cell? ⟨wr.heap.size, 0, none⟩ = some (.int .i64 1) := hb5.cell 0; have HN5 := Lib.hid (New.trans HN4.out hw5); have HR5 := Lib.hid (HR.out.new_ (New.trans HN4.out hw5)); have hz5 := New.trans hw3 (New.trans HN4.out hw5); clear hb5 hw5) | (at_builtin; refine wpList_app Tryd.sltTwos rfl (.tmp 63) (.tmp 67) rfl w1.heap.size _ W.length _ rfl ((HR5.out.own 0 _ _ rfl rfl).alloc _) ⟨w5.heap.size, 0, none⟩ 1 1 [.int .i64 (i : Int), .int .i64 (z : Int)] rfl rfl (cells_new _ _ _) ?c1 ?c2 ?c3 ?_))
            case c1 => simp [Value.oneCell']
            case c2 => omega
            case c3 => have := hz5.size; first | omega | (simp; omega)
            intro v8 w8 hown8 hg8 hbl8
            have hz8 : New w1 w8 := New.grown (hz5.alloc _) ((HR5.out.own 0 _ _ rfl rfl).alloc _) (Nat.le_refl _) hg8
            have hr8 := (HR5.out.new_ ((Mod.refl (fun _ => False) w5).alloc _)).left2 hg8 hown8 (by simpa using hbl8)
            have hb8 := (HB5.out.alloc _).kept (Mod.of_grown (S := fun b => Value.ownBlock _ = some b) hg8 (fun _ h => h)) (own_not_blk (HR5.out.own 0 _ _ rfl rfl) HB5.out (by decide))
            have k0 : w8.cell? ⟨wr.heap.size, 0, none⟩ = some (.int .i64 1) := hb8.cell 0
            have HR8 := Lib.hid hr8
            clear hown8 hg8 hbl8 hr8 hb8
            go_wp2
            go_roundw
            case rel => exact ⟨k + 1, W ++ [((i : Int), (z : Int))], T, by omega, by go_num, by have := HR8.out; rw [pairs_grow, List.length_append]; exact this, HW2.out, HT2.out, hz8⟩
            case measure => simp [intOf]; omega
          · have HW2 := Lib.hid (show (W) ++ ((v.links.drop (k + 1)).flatMap (linkWith ls i) ++ pairs (linkWith ls) (ls.drop (i + 1)) (i + 1)) = WW by rw [← hW1]; simp [linkWith, hoth])
            have HT2 := Lib.hid (show (T ++ [((i : Int), (z : Int))]) ++ ((v.links.drop (k + 1)).flatMap (linkTie ls i) ++ pairs (linkTie ls) (ls.drop (i + 1)) (i + 1)) = TT by rw [← hT1]; simp [linkTie, hoth])
            clear hoth hW1 hT1
            go_wp2_with (first | (refine wpList_store_fresh2 rfl _ _ rfl rfl (encLinks (2, x1)) rfl rfl Tryd.sizeLink rfl (encLinks_one (2, x1)) ?_; intro w4 hb4 hn4 hs4; have HB4 := Lib.hid hb4; have e0 : w4.cell? ⟨wr.heap.size, 0, none⟩ = some (.int .i64 2) := hb4.cell 0; have e1 : w4.cell? ⟨wr.heap.size, 1, none⟩ = some (.string x1) := hb4.cell 1; have HN4 := Lib.hid hn4; have ha4 := HA3.out.new_ hn4; have HA4 := Lib.hid ha4; clear ha4 hn4 hb4 hs4) | (go_at_call 55; refine (HFI.out _ HA4.out).mono ?_; rintro e w5 ⟨rfl, hw5⟩; have hb5 := HB4.out.new_ hw5; have HB5 := Lib.hid hb5; have g0 : w5.cell? ⟨wr.heap.size, 0, none⟩ = some (.int .i64 2) := hb5.cell 0; have HN5 := Lib.hid (New.trans HN4.out hw5); have HR5 := Lib.hid (HR.out.new_ (New.trans HN4.out hw5)); have hz5 := New.trans hw3 (New.trans HN4.out hw5); clear hb5 hw5) | (at_builtin; refine wpList_app Tryd.sltTwos rfl (.tmp 72) (.tmp 76) rfl w1.heap.size _ T.length _ rfl ((HR5.out.own 1 _ _ rfl rfl).alloc _) ⟨w5.heap.size, 0, none⟩ 1 1 [.int .i64 (i : Int), .int .i64 (z : Int)] rfl rfl (cells_new _ _ _) ?c1 ?c2 ?c3 ?_))
            case c1 => simp [Value.oneCell']
            case c2 => omega
            case c3 => have := hz5.size; first | omega | (simp; omega)
            intro v8 w8 hown8 hg8 hbl8
            have hz8 : New w1 w8 := New.grown (hz5.alloc _) ((HR5.out.own 1 _ _ rfl rfl).alloc _) (Nat.le_refl _) hg8
            have hr8 := (HR5.out.new_ ((Mod.refl (fun _ => False) w5).alloc _)).right2 hg8 hown8 (by simpa using hbl8)
            have hb8 := (HB5.out.alloc _).kept (Mod.of_grown (S := fun b => Value.ownBlock _ = some b) hg8 (fun _ h => h)) (own_not_blk (HR5.out.own 1 _ _ rfl rfl) HB5.out (by decide))
            have k0 : w8.cell? ⟨wr.heap.size, 0, none⟩ = some (.int .i64 2) := hb8.cell 0
            have HR8 := Lib.hid hr8
            clear hown8 hg8 hbl8 hr8 hb8
            go_wp2
            go_roundw
            case rel => exact ⟨k + 1, W, T ++ [((i : Int), (z : Int))], by omega, by go_num, by have := HR8.out; rw [pairs_grow, List.length_append]; exact this, HW2.out, HT2.out, hz8⟩
            case measure => simp [intOf]; omega
          · have HW2 := Lib.hid (show (W) ++ ((v.links.drop (k + 1)).flatMap (linkWith ls i) ++ pairs (linkWith ls) (ls.drop (i + 1)) (i + 1)) = WW by rw [← hW1]; simp [linkWith, hoth])
            have HT2 := Lib.hid (show (T ++ [((z : Int), (i : Int))]) ++ ((v.links.drop (k + 1)).flatMap (linkTie ls i) ++ pairs (linkTie ls) (ls.drop (i + 1)) (i + 1)) = TT by rw [← hT1]; simp [linkTie, hoth])
            clear hoth hW1 hT1
            go_wp2_with (first | (refine wpList_store_fresh2 rfl _ _ rfl rfl (encLinks (3, x1)) rfl rfl Tryd.sizeLink rfl (encLinks_one (3, x1)) ?_; intro w4 hb4 hn4 hs4; have HB4 := Lib.hid hb4; have e0 : w4.cell? ⟨wr.heap.size, 0, none⟩ = some (.int .i64 3) := hb4.cell 0; have e1 : w4.cell? ⟨wr.heap.size, 1, none⟩ = some (.string x1) := hb4.cell 1; have HN4 := Lib.hid hn4; have ha4 := HA3.out.new_ hn4; have HA4 := Lib.hid ha4; clear ha4 hn4 hb4 hs4) | (go_at_call 55; refine (HFI.out _ HA4.out).mono ?_; rintro e w5 ⟨rfl, hw5⟩; have hb5 := HB4.out.new_ hw5; have HB5 := Lib.hid hb5; have g0 : w5.cell? ⟨wr.heap.size, 0, none⟩ = some (.int .i64 3) := hb5.cell 0; have HN5 := Lib.hid (New.trans HN4.out hw5); have HR5 := Lib.hid (HR.out.new_ (New.trans HN4.out hw5)); have hz5 := New.trans hw3 (New.trans HN4.out hw5); clear hb5 hw5) | (at_builtin; refine wpList_app Tryd.sltTwos rfl (.tmp 81) (.tmp 85) rfl w1.heap.size _ T.length _ rfl ((HR5.out.own 1 _ _ rfl rfl).alloc _) ⟨w5.heap.size, 0, none⟩ 1 1 [.int .i64 (z : Int), .int .i64 (i : Int)] rfl rfl (cells_new _ _ _) ?c1 ?c2 ?c3 ?_))
            case c1 => simp [Value.oneCell']
            case c2 => omega
            case c3 => have := hz5.size; first | omega | (simp; omega)
            intro v8 w8 hown8 hg8 hbl8
            have hz8 : New w1 w8 := New.grown (hz5.alloc _) ((HR5.out.own 1 _ _ rfl rfl).alloc _) (Nat.le_refl _) hg8
            have hr8 := (HR5.out.new_ ((Mod.refl (fun _ => False) w5).alloc _)).right2 hg8 hown8 (by simpa using hbl8)
            have hb8 := (HB5.out.alloc _).kept (Mod.of_grown (S := fun b => Value.ownBlock _ = some b) hg8 (fun _ h => h)) (own_not_blk (HR5.out.own 1 _ _ rfl rfl) HB5.out (by decide))
            have k0 : w8.cell? ⟨wr.heap.size, 0, none⟩ = some (.int .i64 3) := hb8.cell 0
            have HR8 := Lib.hid hr8
            clear hown8 hg8 hbl8 hr8 hb8
            go_wp2
            go_roundw
            case rel => exact ⟨k + 1, W, T ++ [((z : Int), (i : Int))], by omega, by go_num, by have := HR8.out; rw [pairs_grow, List.length_append]; exact this, HW2.out, HT2.out, hz8⟩
            case measure => simp [intOf]; omega
        · obtain rfl : k = v.links.length := by omega
          have hW2 : W ++ pairs (linkWith ls) (ls.drop (i + 1)) (i + 1) = WW := by have := HW.out; rwa [List.drop_length, List.flatMap_nil, List.nil_append] at this
          have hT2 : T ++ pairs (linkTie ls) (ls.drop (i + 1)) (i + 1) = TT := by have := HT.out; rwa [List.drop_length, List.flatMap_nil, List.nil_append] at this
          have HW2 := Lib.hid hW2
          have HT2 := Lib.hid hT2
          clear hW2 hT2
          go_wp2
          go_roundw
          case rel => exact ⟨i + 1, W, T, by omega, by go_num, HR.out, HW2.out, HT2.out, hw3⟩
          case measure => simp [intOf]; omega
    · obtain rfl : n = i := by omega
      have hW2 : W = WW := by have := HW.out; rwa [pairs_end (by have := HN.out; omega), List.append_nil] at this
      have hT2 : T = TT := by have := HT.out; rwa [pairs_end (by have := HN.out; omega), List.append_nil] at this
      subst hW2 hT2
      --C1
      have hva : wr.ownsRow w1.heap.size 67 2 _ W.length (cellsL encTwos W) := HR.out.own 0 _ _ rfl rfl
      have hvb : wr.ownsRow w1.heap.size 67 2 _ T.length (cellsL encTwos T) := HR.out.own 1 _ _ rfl rfl
      obtain ⟨WA, wc, hwa⟩ := own_shape hva
      obtain ⟨TA, tc, hta⟩ := own_shape hvb
      subst hwa hta
      have HSW := Lib.hid (own_sl hva)
      have HVB := Lib.hid hvb
      have hmk := run_mk_ints Tryd.slt24 (by kernel_rfl) n (by omega)
      clear hva hvb HR HW HT
      go_wp2_with (go_at_call 35; refine (refGroups0_any n WA W.length wc W _ (by omega) HSW.out HWI.out).mono ?_; rintro e w2 ⟨hv0, r, rfl, hvh, hr, hls, hw2⟩; obtain ⟨HD, hc0, rfl⟩ := own_shape hvh)
      have HHO := Lib.hid (show HeadsOf ls r from ⟨by rw [HN.out]; exact hr, by rw [HN.out, HWW.out]; exact hls⟩)
      have HRR := Lib.hid (fun i hi => hls.any (at_ r) hls.pair i hi)
      have HRL := Lib.hid hls.le
      have HVH := Lib.hid hvh
      have HVB2 := Lib.hid (own_new HVB.out hw2)
      have HA2 := Lib.hid ((HA1.out.new_ hw).new_ hw2)
      have HW2 := Lib.hid (New.trans HW1.out (New.trans hw hw2))
      clear hvh hls hr HVB HA1 HSW hw hw2
      go_loopw [16, 17] (fun v i wx => ∃ k : Nat, k ≤ T.length ∧ i = .int .i64 (k : Int) ∧ wx.ownsRow w2.heap.size 67 2 v k (cellsL encTwos ((headEdges (at_ r) T).take k)) ∧ New w2 wx) (fun _ i _ => T.length - (intOf i).toNat)
      case atStart => exact ⟨0, Nat.zero_le _, rfl, own_nil _ _ _ _, Mod.refl _ _⟩
      case round =>
        obtain ⟨k, hk, rfl, hown, hw⟩ := hrel
        by_cases hlt : k < T.length
        · have hvb := own_new HVB2.out hw
          obtain ⟨gT, rfl, hgT, hgT2⟩ := own_form hvb (by omega)
          obtain ⟨q, hq⟩ : ∃ q, T[k]? = some q := ⟨_, List.getElem?_eq_getElem hlt⟩
          have hqin := HTN.out q (List.mem_of_getElem? hq)
          obtain ⟨x, y⟩ := q
          obtain ⟨x, rfl⟩ := Int.eq_ofNat_of_zero_le hqin.1
          obtain ⟨y, rfl⟩ := Int.eq_ofNat_of_zero_le hqin.2.2.1
          have hxn : x < n := by have := hqin.2.1; simpa using this
          have hyn : y < n := by have := hqin.2.2.2; simpa using this
          have hoc := own_at encTwos_len hvb hq
          have d0 : wr.cell? ⟨gT, k * 2, none⟩ = some (.int .i64 (x : Int)) := hoc 0 _ rfl
          have d1 : wr.cell? ⟨gT, k * 2 + 1, none⟩ = some (.int .i64 (y : Int)) := hoc 1 _ rfl
          have hvh := own_new HVH.out hw
          obtain ⟨gH, rfl, hgH, hgH2⟩ := own_form hvh (by omega)
          have hcx := own_nat hvh hxn
          have hcy := own_nat hvh hyn
          have HE := Lib.hid (headEdges_at (R := at_ r) hq)
          have htk : ((headEdges (at_ r) T).take k).length = k := by rw [List.length_take, headEdges_length]; omega
          have HTK := Lib.hid htk
          clear hoc hqin hq hvb hvh htk
          go_wp2
          go_region_law ((
              refine step_app Tryd.sltTwos rfl (.tmp 97) (.tmp 115) rfl w2.heap.size _ k _ rfl (own_new hown ?hm) ⟨wr.heap.size, 0, none⟩ 1 1 [.int .i64 (at_ r x : Int), .int .i64 (at_ r y : Int)] rfl rfl ?hn ?h1 ?hb ?hB ?_
              case hm => exact ((Mod.refl _ _).alloc _).drew
              case hn => exact cells_new wr _ _
              case h1 => simp [Value.oneCell']
              case hb => omega
              case hB => have := hw.size; simp; omega
              intro v' w3 hown3 hg3 hat3
              have hz3 : New w2 w3 := New.grown (hw.alloc _).drew (own_new hown ((Mod.refl _ _).alloc _).drew) (Nat.le_refl _) hg3
              have HO3 := Lib.hid hown3
              clear hown3 hg3 hat3))
          all_goals
            go_wp2
            go_roundw
            case rel => exact ⟨k + 1, by omega, by go_num, by rw [HE.out, cellsL_append, cellsL_one]; exact HO3.out, hz3⟩
            case measure => simp [intOf]; omega
        · obtain rfl : k = T.length := by omega
          have hed := hown
          rw [List.take_of_length_le (by rw [headEdges_length]; exact Nat.le_refl _)] at hed
          obtain ⟨EA, ec, hea⟩ := own_shape hed
          subst hea
          have HED := Lib.hid hed
          obtain ⟨wq, rfl⟩ : ∃ wq : World, wq = wr := ⟨_, rfl⟩
          have hA3 := HA2.out.new_ hw
          have HA3 := Lib.hid hA3
          have hqs := hw.size
          clear hed hown hA3
          go_wp2
          go_loopw [19] (fun i wy => ∃ (k : Nat) (ps : List Int), k ≤ n ∧ i = .int .i64 (k : Int) ∧ ps.length = n ∧ (∀ j, j < k → prioOf ps j = prioN ls j) ∧ Blk wy wq.heap.size 3 (nums ps) ∧ New wq wy) (fun i _ => n - (intOf i).toNat)
          case atStart => exact ⟨0, List.replicate n 0, Nat.zero_le _, rfl, by simp, fun j hj => by omega, by rw [show nums (List.replicate n 0) = nats (List.replicate n 0) from by simp [nats, nums]]; exact Blk.new wq 3 (nats (List.replicate n 0)), (Mod.refl _ _).alloc _⟩
          case round =>
            obtain ⟨k, ps, hk, rfl, hps, hdone, hbp, hwy⟩ := hrel
            have HPS := Lib.hid hps
            have HD := Lib.hid hdone
            have HBP := Lib.hid hbp
            clear hps hdone hbp
            by_cases hlt : k < n
            · obtain ⟨b, off, v, rfl, hv, hc⟩ := (HA3.out.new_ hwy).sl.elem encNotice_len (by decide) hlt
              have c25 := hc 25 _ rfl
              have HV := Lib.hid hv
              have hbk := HBP.out.cell k
              rw [nums_prio (by rw [HPS.out]; exact hlt)] at hbk
              have hbf := HBP.out.frozen k
              clear hc hv
              go_wp2
              go_roundw
              case rel => exact ⟨k + 1, ps.set k v.b.priority, by omega, by go_num, by simp; exact HPS.out, fun j hj => by
                rw [prioOf_set (by rw [HPS.out]; exact hlt)]
                by_cases e : j = k
                · subst e; rw [if_pos rfl, prioN_at HV.out]
                · rw [if_neg e]; exact HD.out j (by omega), by
                have := HBP.out.set_ k (.int .i64 v.b.priority)
                rwa [nums_set] at this, hwy.set_ (fun h => by simp only at h; omega) _⟩
              case measure => simp [intOf]; omega
            · obtain rfl : n = k := by omega
              have hup : PrioUp (at_ r) n 0 (prioN ls) ps := ⟨HPS.out, fun i hi => by rw [HD.out i hi]; rfl⟩
              have HUP := Lib.hid hup
              clear hup HD HPS
              obtain ⟨wy0, rfl⟩ : ∃ wy0 : World, wy0 = wr := ⟨_, rfl⟩
              go_wp2
              go_loopw [20] (fun i wy => ∃ (k : Nat) (ps : List Int), k ≤ n ∧ i = .int .i64 (k : Int) ∧ PrioUp (at_ r) n k (prioN ls) ps ∧ Blk wy wq.heap.size 3 (nums ps) ∧ New wq wy) (fun i _ => n - (intOf i).toNat)
              case atStart => exact ⟨0, ps, Nat.zero_le _, rfl, HUP.out, HBP.out, hwy⟩
              case round =>
                clear HUP HBP hwy
                obtain ⟨k, ps, hk, rfl, hup, hbp, hwy⟩ := hrel
                have HUP := Lib.hid hup
                have HBP := Lib.hid hbp
                clear hup hbp
                by_cases hlt : k < n
                · obtain ⟨b, off, v, rfl, hv, hc⟩ := (HA3.out.new_ hwy).sl.elem encNotice_len (by decide) hlt
                  have c25 := hc 25 _ rfl
                  have HV := Lib.hid hv
                  have hvh := own_new (own_new HVH.out hw) hwy
                  obtain ⟨gH, rfl, hgH, hgH2⟩ := own_form hvh (by omega)
                  have hck := own_nat hvh hlt
                  have hrk := HRL.out k hlt
                  have hbk := HBP.out.cell (at_ r k)
                  rw [nums_prio (by rw [HUP.out.1]; omega)] at hbk
                  have hbf := HBP.out.frozen (at_ r k)
                  have hpl := HBP.out.lt
                  clear hc hv hvh
                  by_cases hgt : prioOf ps (at_ r k) < v.b.priority
                  · have hd : decide (prioOf ps (at_ r k) < v.b.priority) = true := decide_eq_true hgt
                    have HST := Lib.hid (HUP.out.step (q := ps.set (at_ r k) v.b.priority) (by omega) (.inl ⟨by rw [prioN_at HV.out]; exact hgt, by rw [prioN_at HV.out]⟩))
                    go_wp2
                    go_quiet (fail)
                    go_wp2
                    go_region
                    all_goals
                      go_wp2
                      go_roundw
                      case rel => exact ⟨k + 1, ps.set (at_ r k) v.b.priority, by omega, by go_num, HST.out, by
                        have := HBP.out.set_ (at_ r k) (.int .i64 v.b.priority)
                        rwa [nums_set] at this, (hwy.set_ (fun h => by simp only at h; omega) _).drewN _⟩
                      case measure => simp [intOf]; omega
                  · have hd : decide (prioOf ps (at_ r k) < v.b.priority) = false := decide_eq_false hgt
                    have HST := Lib.hid (HUP.out.step (q := ps) (by omega) (.inr ⟨by rw [prioN_at HV.out]; exact hgt, rfl⟩))
                    clear hgt
                    go_wp2
                    go_quiet (fail)
                    go_wp2
                    go_roundw
                    case rel => exact ⟨k + 1, ps, by omega, by go_num, HST.out, HBP.out.drewN _, hwy.drewN _⟩
                    case measure => simp [intOf]; omega
                · obtain rfl : n = k := by omega
                  have hzz := New.trans HW2.out (New.trans hw hwy)
                  have hsh : Sl wr HD n 1 (nats r) := own_sl (own_new (own_new HVH.out hw) hwy)
                  have hse : Sl wr EA T.length 2 (twos (headEdges (at_ r) T)) := own_sl (own_new HED.out hwy)
                  have hsp : Sl wr (some ⟨wq.heap.size, 0, none⟩) n 1 (nums ps) := Sl.ofBlk HBP.out (by simp [nums]; exact HUP.out.1) (by omega)
                  have hli := lists_any HD EA (some ⟨wq.heap.size, 0, none⟩) n T.length hc0 ec n r (headEdges (at_ r) T) ps wr (by omega) hsh hse (headEdges_in HRL.out HTN.out) hsp (by omega)
                  have hoc := ordered_congr (l := headEdges (at_ r) T) (fun i hi => HUP.out.2 i hi)
                  have hord : ordered (headEdges (at_ r) T) (prioOf ps) n = ordN ls r := by
                    rw [hoc]; unfold ordN resOrd prioH; rw [HN.out, HTT.out]
                  have hlo : listsOf (at_ r) n (ordN ls r) = outN ls r := by unfold outN resOut listsOf ordN; rw [HN.out]
                  have hfin : ∀ e w', ListsPost r (headEdges (at_ r) T) ps n wr e w' → RefResPost ls w e w' := fun e w' ⟨hn', hcase⟩ => by
                    refine ⟨New.trans hzz hn', r, ?_⟩
                    rw [hord, hlo] at hcase
                    rcases hcase with ⟨hfull, A', c', us, he, hnest⟩ | ⟨hfull, he⟩
                    · have h1 : resErr ls r = (0, 0, 0) := by unfold resErr; rw [if_neg (by rw [HW0.out]; simp), if_pos (by rw [HN.out]; exact hfull)]
                      have h2 : resLists ls r = outN ls r := by unfold resLists; rw [if_pos (by rw [h1])]
                      exact ⟨A', c', us, fun _ => HHO.out, by rw [h1, h2]; exact he, by rw [h2]; exact hnest⟩
                    · have h1 : resErr ls r = (12, 0, 0) := by unfold resErr; rw [if_neg (by rw [HW0.out]; simp), if_neg (by rw [HN.out]; exact hfull)]
                      have h2 : resLists ls r = [] := by unfold resLists; rw [if_neg (by rw [h1]; decide)]
                      exact ⟨none, 0, [], fun _ => HHO.out, by rw [h1, h2]; exact he, by rw [h2]; exact ⟨Sl.nil _ _ _, rfl, fun i v l h => by simp at h⟩⟩
                  have HFIN := Lib.hid hfin
                  have HLI := Lib.hid hli
                  clear hfin hli hord hlo hoc hsp hse hsh hzz
                  go_wp2_with (go_at_call 56; refine HLI.out.mono ?_; rintro e w9 h9; have h9' := h9; obtain ⟨hn9, hcase9⟩ := h9; rcases hcase9 with ⟨_, A9, c9, us9, rfl, _⟩ | ⟨_, rfl⟩)
                  all_goals
                    go_wp2
                    (try simp only [Exit.inBlock, Exit.then])
                    refine bodyPost_ret (results_tmp4 rfl _ _ _) rfl ?_
                    exact HFIN.out _ _ h9'
      --D1

theorem wrong_zero {ls : List NoticeV} (h : (wrongOf ls).1 = 0) : wrongOf ls = (0, 0, 0) ∧ noticesBad ls ls 0 = none := by
  unfold wrongOf at h ⊢
  split at h
  · simp at h
  · rename_i h1
    rw [if_neg h1]
    split at h
    · simp at h
    · rename_i h2
      rw [if_neg h2]
      split at h
      · simp at h
      · rename_i h3
        split at h
        · rename_i x hx
          have := noticesBad_kind hx
          omega
        · rename_i hx
          exact ⟨rfl, hx⟩
set_option maxRecDepth 100000 in
set_option maxHeartbeats 1000000 in
theorem refResolve_any (A : Option Addr) (n c : Nat) (ls : List NoticeV) (w : World) (ha : Notices w A n ls) (hT : totN ls ≤ 3000) :
    Calls Tryd.prog 26 #[.slice A n c] w (RefResPost ls w) := by
  by_cases h0 : (wrongOf ls).1 = 0
  · obtain ⟨h1, h2⟩ := wrong_zero h0
    exact refResolve_ok A n c ls w ha hT h1 h2
  · have HWR := Lib.hid (wrong_any A n c ls w ha)
    obtain ⟨x, hx⟩ : ∃ x, wrongOf ls = x := ⟨_, rfl⟩
    rw [hx] at HWR h0
    obtain ⟨no, i, k⟩ := x
    have HH := Lib.hid (refRes_bad (w := w) hx h0)
    have hd : (no != 0) = true := by simpa using h0
    clear hx h0 hT
    go_enter Tryd.func26, Tryd.ntmps26
    go_wp2_with (go_at_call 54; refine HWR.out.mono ?_; rintro e w1 ⟨rfl, hw1⟩)
    (try simp only [Exit.inBlock, Exit.then])
    refine bodyPost_ret (results_tmp4 rfl _ _ _) rfl ?_
    exact HH.out _ hw1
end Go.Proofs.YtkkaejbdekdljaaDoor
/- Plain: notices that are the same but for where their links lie: the answer is the same. -/
set_option linter.unusedVariables false
set_option linter.unusedSimpArgs false
namespace Go.Proofs.YtkkaejbdekdljaaDoor

/-- The same notices but for where their links lie. -/
def SameN (es ls : List NoticeV) : Prop := es.map (fun v => (v.b, v.links)) = ls.map (fun v => (v.b, v.links))
theorem SameN.cons {v v' : NoticeV} {l l' : List NoticeV} (h : SameN (v :: l) (v' :: l')) : v.b = v'.b ∧ v.links = v'.links ∧ SameN l l' := by
  simp only [SameN, List.map_cons, List.cons.injEq, Prod.mk.injEq] at h
  exact ⟨h.1.1, h.1.2, h.2⟩
theorem SameN.len {l l' : List NoticeV} (h : SameN l l') : l.length = l'.length := by
  have := congrArg List.length h
  simpa using this
theorem SameN.ne1 {v : NoticeV} {l : List NoticeV} (h : SameN (v :: l) []) : False := by simp [SameN] at h
theorem SameN.ne2 {v : NoticeV} {l : List NoticeV} (h : SameN [] (v :: l)) : False := by simp [SameN] at h
theorem SameN.findFrom : ∀ {l l' : List NoticeV} (h : SameN l l') (r : List UInt8) (i : Nat), findFrom l r i = Go.Proofs.YtkkaejbdekdljaaDoor.findFrom l' r i
  | [], [], _, _, _ => rfl
  | [], _ :: _, h, _, _ => h.ne2.elim
  | _ :: _, [], h, _, _ => h.ne1.elim
  | v :: l, v' :: l', h, r, i => by
    obtain ⟨h1, h2, h3⟩ := h.cons
    unfold Go.Proofs.YtkkaejbdekdljaaDoor.findFrom
    rw [h1, h3.findFrom]
theorem SameN.find {l l' : List NoticeV} (h : SameN l l') (r : List UInt8) : findAt l r = findAt l' r := h.findFrom r 0
theorem SameN.linkBad {l l' : List NoticeV} (h : SameN l l') (x : Int × ByteArray) : linkBad l x = Go.Proofs.YtkkaejbdekdljaaDoor.linkBad l' x := by
  unfold Go.Proofs.YtkkaejbdekdljaaDoor.linkBad
  rw [h.find]
theorem SameN.linksBad {a a' : List NoticeV} (h : SameN a a') : ∀ (l : List (Int × ByteArray)) (k : Nat), linksBad a l k = Go.Proofs.YtkkaejbdekdljaaDoor.linksBad a' l k
  | [], _ => rfl
  | x :: l, k => by
    unfold Go.Proofs.YtkkaejbdekdljaaDoor.linksBad
    rw [h.linkBad, h.linksBad l]
theorem SameN.noticesBad {a a' : List NoticeV} (ha : SameN a a') : ∀ {l l' : List NoticeV} (h : SameN l l') (i : Nat), noticesBad a l i = Go.Proofs.YtkkaejbdekdljaaDoor.noticesBad a' l' i
  | [], [], _, _ => rfl
  | [], _ :: _, h, _ => h.ne2.elim
  | _ :: _, [], h, _ => h.ne1.elim
  | v :: l, v' :: l', h, i => by
    obtain ⟨h1, h2, h3⟩ := h.cons
    unfold Go.Proofs.YtkkaejbdekdljaaDoor.noticesBad
    rw [h2, ha.linksBad, ha.noticesBad h3]
theorem SameN.twice {a a' : List NoticeV} (ha : SameN a a') : ∀ {l l' : List NoticeV} (h : SameN l l') (i : Nat), twiceFrom a l i = twiceFrom a' l' i
  | [], [], _, _ => rfl
  | [], _ :: _, h, _ => h.ne2.elim
  | _ :: _, [], h, _ => h.ne1.elim
  | v :: l, v' :: l', h, i => by
    obtain ⟨h1, h2, h3⟩ := h.cons
    unfold twiceFrom
    rw [h1, ha.find, ha.twice h3]
theorem SameN.any : ∀ {l l' : List NoticeV} (h : SameN l l'), (l.any fun v => decide (16 < v.links.length)) = l'.any fun v => decide (16 < v.links.length)
  | [], [], _ => rfl
  | [], _ :: _, h => h.ne2.elim
  | _ :: _, [], h => h.ne1.elim
  | v :: l, v' :: l', h => by
    obtain ⟨h1, h2, h3⟩ := h.cons
    simp only [List.any_cons, h2, h3.any]
theorem SameN.wrong {l l' : List NoticeV} (h : SameN l l') : wrongOf l = wrongOf l' := by
  unfold wrongOf
  rw [h.len, h.any, h.twice h, h.noticesBad h]
theorem SameN.pairs {f f' : Nat → Int × ByteArray → List (Int × Int)} (hf : ∀ i x, f i x = f' i x) : ∀ {l l' : List NoticeV} (h : SameN l l') (i : Nat), pairs f l i = Go.Proofs.YtkkaejbdekdljaaDoor.pairs f' l' i
  | [], [], _, _ => rfl
  | [], _ :: _, h, _ => h.ne2.elim
  | _ :: _, [], h, _ => h.ne1.elim
  | v :: l, v' :: l', h, i => by
    obtain ⟨h1, h2, h3⟩ := h.cons
    have hff : f = f' := by funext i x; exact hf i x
    subst hff
    unfold Go.Proofs.YtkkaejbdekdljaaDoor.pairs
    rw [h2, SameN.pairs hf h3]
theorem SameN.other {l l' : List NoticeV} (h : SameN l l') (x : Int × ByteArray) : other l x = Go.Proofs.YtkkaejbdekdljaaDoor.other l' x := by
  unfold Go.Proofs.YtkkaejbdekdljaaDoor.other; rw [h.find]
theorem SameN.withs {l l' : List NoticeV} (h : SameN l l') : withsOf l = withsOf l' := SameN.pairs (fun i x => by unfold linkWith; rw [h.other]) h 0
theorem SameN.ties {l l' : List NoticeV} (h : SameN l l') : tiesOf l = tiesOf l' := SameN.pairs (fun i x => by unfold linkTie; rw [h.other]) h 0
theorem SameN.prio {l l' : List NoticeV} (h : SameN l l') : prioN l = prioN l' := by
  funext i
  have h1 := congrArg (fun m : List (NoticeB × List (Int × ByteArray)) => (m[i]?.map fun p => p.1.priority).getD 0) h
  simp only [List.getElem?_map, Option.map_map] at h1
  exact h1
theorem totN_same : ∀ {l l' : List NoticeV} (h : SameN l l'), totN l = totN l'
  | [], [], _ => rfl
  | [], _ :: _, h => h.ne2.elim
  | _ :: _, [], h => h.ne1.elim
  | v :: l, v' :: l', h => by
    obtain ⟨h1, h2, h3⟩ := h.cons
    have := totN_same h3
    simp only [totN, List.map_cons, List.sum_cons, h2] at this ⊢
    omega
theorem SameN.res {l l' : List NoticeV} (h : SameN l l') (r : List Nat) : resErr l r = resErr l' r ∧ resLists l r = resLists l' r ∧ (HeadsOf l r → HeadsOf l' r) := by
  have e1 : ordN l r = ordN l' r := by unfold ordN; rw [h.ties, h.prio, h.len]
  have e2 : outN l r = outN l' r := by unfold outN; rw [h.ties, h.prio, h.len]
  have e3 : resErr l r = resErr l' r := by unfold resErr; rw [h.wrong, e1, h.len]
  refine ⟨e3, by unfold resLists; rw [e3, e2], fun hh => ⟨by rw [← h.len]; exact hh.len, by rw [← h.len, ← h.withs]; exact hh.least⟩⟩
end Go.Proofs.YtkkaejbdekdljaaDoor
