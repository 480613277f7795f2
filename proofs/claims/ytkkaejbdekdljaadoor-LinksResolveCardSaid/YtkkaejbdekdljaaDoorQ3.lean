/- Words and walks, part 3 of 19. -/
import Derived.Test.YtkkaejbdekdljaaDoorProg
import Derived.Deep.QuietTactic
import Derived.BigQuiet
import Derived.Lib.MinMax
import Derived.Test.YtkkaejbdekdljaaDoorQ1
import Derived.Test.YtkkaejbdekdljaaDoorQ2
/- Plain: groups of pairs: the least labelling; a forest with its roots. No program in sight. -/
set_option linter.unusedVariables false
set_option linter.unusedSimpArgs false
namespace Go.Proofs.YtkkaejbdekdljaaDoor

/-- R gives each thing below n the least of its group. -/
structure Least (n : Nat) (l : List (Int × Int)) (R : Nat → Nat) : Prop where
  le : ∀ i, i < n → R i ≤ i
  pair : ∀ p, p ∈ l → R p.1.toNat = R p.2.toNat
  any : ∀ c : Nat → Nat, (∀ p, p ∈ l → c p.1.toNat = c p.2.toNat) → ∀ i, i < n → c (R i) = c i

theorem Least.unique {n : Nat} {l : List (Int × Int)} {R R' : Nat → Nat} (h : Least n l R) (h' : Least n l R') : ∀ i, i < n → R i = R' i := by
  intro i hi
  have a := h.any R' h'.pair i hi
  have b := h'.any R h.pair i hi
  have c := h.le i hi
  have d := h'.le i hi
  have e := h.le (R' i) (by omega)
  have f := h'.le (R i) (by omega)
  omega

/-- The root of x in a forest. -/
def rt (f : Nat → Nat) (x : Nat) : Nat := if f x < x then rt f (f x) else x
termination_by x

theorem rt_step {f : Nat → Nat} {x : Nat} (h : f x < x) : rt f x = rt f (f x) := by rw [rt, if_pos h]
theorem rt_end {f : Nat → Nat} {x : Nat} (h : ¬ f x < x) : rt f x = x := by rw [rt, if_neg h]
theorem rt_le (f : Nat → Nat) (x : Nat) : rt f x ≤ x := by
  induction x using Nat.strongRecOn with
  | _ x ih =>
    by_cases h : f x < x
    · rw [rt_step h]; exact Nat.le_trans (ih _ h) (Nat.le_of_lt h)
    · rw [rt_end h]; exact Nat.le_refl _
theorem rt_root (f : Nat → Nat) (x : Nat) : ¬ f (rt f x) < rt f x := by
  induction x using Nat.strongRecOn with
  | _ x ih =>
    by_cases h : f x < x
    · rw [rt_step h]; exact ih _ h
    · rw [rt_end h]; exact h
theorem rt_f (f : Nat → Nat) (x : Nat) (h : f x ≤ x) : rt f (f x) = rt f x := by
  by_cases hx : f x < x
  · rw [rt_step hx]
  · rw [show f x = x by omega]

/-- A function with one value changed. -/
def put (f : Nat → Nat) (x v : Nat) : Nat → Nat := fun y => if y = x then v else f y
theorem put_same (f : Nat → Nat) (x v : Nat) : put f x v x = v := by simp [put]
theorem put_other (f : Nat → Nat) {x y : Nat} (v : Nat) (h : y ≠ x) : put f x v y = f y := by simp [put, h]

theorem rt_half {f : Nat → Nat} {n x : Nat} (hf : ∀ i, i < n → f i ≤ i) (hx : x < n) : ∀ y, rt (put f x (f (f x))) y = rt f y := by
  intro y
  induction y using Nat.strongRecOn with
  | _ y ih =>
    by_cases hy : y = x
    · subst hy
      have h1 := hf y hx
      have h2 := hf (f y) (by omega)
      by_cases h : f y < y
      · have h3 : put f y (f (f y)) y < y := by rw [put_same]; omega
        rw [rt_step h3, put_same, ih (f (f y)) (by omega), rt_step h, rt_f f (f y) h2]
      · have h3 : ¬ put f y (f (f y)) y < y := by rw [put_same, show f y = y by omega]; omega
        rw [rt_end h3, rt_end h]
    · by_cases h : f y < y
      · have h3 : put f x (f (f x)) y < y := by rw [put_other _ _ hy]; exact h
        rw [rt_step h3, put_other _ _ hy, ih (f y) h, rt_step h]
      · have h3 : ¬ put f x (f (f x)) y < y := by rw [put_other _ _ hy]; exact h
        rw [rt_end h3, rt_end h]

theorem rt_join {f : Nat → Nat} {hi lo : Nat} (hl : lo ≤ hi) (hh : f hi = hi) (h0 : f lo = lo) : ∀ y, rt (put f hi lo) y = if rt f y = hi then lo else rt f y := by
  intro y
  induction y using Nat.strongRecOn with
  | _ y ih =>
    by_cases hy : y = hi
    · subst hy
      rw [rt_end (f := f) (x := y) (by omega), if_pos rfl]
      by_cases h : lo < y
      · have h3 : put f y lo y < y := by rw [put_same]; exact h
        rw [rt_step h3, put_same, ih lo h, rt_end (f := f) (x := lo) (by omega), if_neg (by omega)]
      · have h3 : ¬ put f y lo y < y := by rw [put_same]; exact h
        rw [rt_end h3]; omega
    · by_cases h : f y < y
      · have h3 : put f hi lo y < y := by rw [put_other _ _ hy]; exact h
        rw [rt_step h3, put_other _ _ hy, ih (f y) h, rt_step h]
      · have h3 : ¬ put f hi lo y < y := by rw [put_other _ _ hy]; exact h
        rw [rt_end h3, rt_end h, if_neg hy]

/-- The forest behind some pairs. -/
structure Tree (n : Nat) (l : List (Int × Int)) (f : Nat → Nat) : Prop where
  le : ∀ i, i < n → f i ≤ i
  pair : ∀ p, p ∈ l → rt f p.1.toNat = rt f p.2.toNat
  any : ∀ c : Nat → Nat, (∀ p, p ∈ l → c p.1.toNat = c p.2.toNat) → ∀ i, i < n → c (rt f i) = c i
theorem Tree.least {n : Nat} {l : List (Int × Int)} {f : Nat → Nat} (h : Tree n l f) : Least n l (rt f) := ⟨fun i _ => rt_le f i, h.pair, h.any⟩
theorem rt_congr {f g : Nat → Nat} {n : Nat} (hf : ∀ i, i < n → f i ≤ i) (h : ∀ i, i < n → f i = g i) : ∀ y, y < n → rt f y = rt g y := by
  intro y
  induction y using Nat.strongRecOn with
  | _ y ih =>
    intro hy
    have e := h y hy
    by_cases hl : f y < y
    · rw [rt_step hl, rt_step (f := g) (by omega), ← e]; exact ih _ hl (by omega)
    · rw [rt_end hl, rt_end (f := g) (by omega)]
theorem Tree.congr {n : Nat} {l : List (Int × Int)} {f g : Nat → Nat} (h : Tree n l f) (hn : ∀ p, p ∈ l → p.1.toNat < n ∧ p.2.toNat < n) (e : ∀ i, i < n → rt g i = rt f i) (hg : ∀ i, i < n → g i ≤ i) : Tree n l g :=
  ⟨hg, fun p hp => by rw [e _ (hn p hp).1, e _ (hn p hp).2]; exact h.pair p hp, fun c hc i hi => by rw [e i hi]; exact h.any c hc i hi⟩
theorem Tree.start (n : Nat) (f : Nat → Nat) (hf : ∀ i, i < n → f i = i) : Tree n [] f :=
  ⟨fun i hi => by rw [hf i hi]; exact Nat.le_refl _, fun p hp => by simp at hp, fun c _ i hi => by rw [rt_end (f := f) (by rw [hf i hi]; omega)]⟩
theorem Tree.snoc {n : Nat} {l : List (Int × Int)} {f g : Nat → Nat} {p : Int × Int} (h : Tree n l f) (hn : ∀ q, q ∈ l → q.1.toNat < n ∧ q.2.toNat < n) (hp : p.1.toNat < n ∧ p.2.toNat < n)
    (e : ∀ i, i < n → rt g i = if rt f i = max (rt f p.1.toNat) (rt f p.2.toNat) then min (rt f p.1.toNat) (rt f p.2.toNat) else rt f i) (hg : ∀ i, i < n → g i ≤ i) : Tree n (l ++ [p]) g := by
  refine ⟨hg, fun q hq => ?_, fun c hc i hi => ?_⟩
  · rcases List.mem_append.1 hq with hq | hq
    · rw [e _ (hn q hq).1, e _ (hn q hq).2, h.pair q hq]
    · simp at hq; subst hq
      rw [e _ hp.1, e _ hp.2]
      split <;> split <;> omega
  · have hc' : ∀ q, q ∈ l → c q.1.toNat = c q.2.toNat := fun q hq => hc q (by simp [hq])
    have h1 := h.any c hc' _ hp.1
    have h2 := h.any c hc' _ hp.2
    have h3 := hc p (by simp)
    have h4 := h.any c hc' i hi
    rw [e i hi]
    split
    · rename_i h5
      rw [h5] at h4
      rcases Nat.le_total (rt f p.1.toNat) (rt f p.2.toNat) with hl | hl
      · rw [Nat.min_eq_left hl]; rw [Nat.max_eq_right hl] at h4; omega
      · rw [Nat.min_eq_right hl]; rw [Nat.max_eq_left hl] at h4; omega
    · exact h4

/-- Labels on the way to the least ones. -/
structure Label (n : Nat) (l : List (Int × Int)) (f : Nat → Nat) : Prop where
  le : ∀ i, i < n → f i ≤ i
  any : ∀ c : Nat → Nat, (∀ p, p ∈ l → c p.1.toNat = c p.2.toNat) → ∀ i, i < n → c (f i) = c i
theorem Label.start (n : Nat) (l : List (Int × Int)) (f : Nat → Nat) (hf : ∀ i, i < n → f i = i) : Label n l f :=
  ⟨fun i hi => by rw [hf i hi]; exact Nat.le_refl _, fun c _ i hi => by rw [hf i hi]⟩
theorem Label.left {n : Nat} {l : List (Int × Int)} {f : Nat → Nat} {p : Int × Int} (h : Label n l f) (hp : p ∈ l) (h1 : p.1.toNat < n) (h2 : p.2.toNat < n) (hlt : f p.1.toNat < f p.2.toNat) : Label n l (put f p.2.toNat (f p.1.toNat)) := by
  refine ⟨fun i hi => ?_, fun c hc i hi => ?_⟩
  · by_cases e : i = p.2.toNat
    · subst e; rw [put_same]; have := h.le _ hi; omega
    · rw [put_other _ _ e]; exact h.le i hi
  · by_cases e : i = p.2.toNat
    · subst e; rw [put_same, h.any c hc _ h1]; exact hc p hp
    · rw [put_other _ _ e]; exact h.any c hc i hi
theorem Label.right {n : Nat} {l : List (Int × Int)} {f : Nat → Nat} {p : Int × Int} (h : Label n l f) (hp : p ∈ l) (h1 : p.1.toNat < n) (h2 : p.2.toNat < n) (hlt : f p.2.toNat < f p.1.toNat) : Label n l (put f p.1.toNat (f p.2.toNat)) := by
  refine ⟨fun i hi => ?_, fun c hc i hi => ?_⟩
  · by_cases e : i = p.1.toNat
    · subst e; rw [put_same]; have := h.le _ hi; omega
    · rw [put_other _ _ e]; exact h.le i hi
  · by_cases e : i = p.1.toNat
    · subst e; rw [put_same, h.any c hc _ h2]; exact (hc p hp).symm
    · rw [put_other _ _ e]; exact h.any c hc i hi
theorem Label.least {n : Nat} {l : List (Int × Int)} {f : Nat → Nat} (h : Label n l f) (hp : ∀ p, p ∈ l → f p.1.toNat = f p.2.toNat) : Least n l f := ⟨h.le, hp, h.any⟩

/-- A list as a function. -/
def at_ (l : List Nat) (i : Nat) : Nat := l.getD i 0
theorem at_set (l : List Nat) (i v : Nat) (h : i < l.length) : at_ (l.set i v) = put (at_ l) i v := by
  funext y
  unfold at_ put
  by_cases e : y = i
  · subst e; simp [List.getD_eq_getElem?_getD, h]
  · simp [List.getD_eq_getElem?_getD, List.getElem?_set_ne (Ne.symm e), e]
theorem sum_set_lt (l : List Nat) (i v : Nat) (h : i < l.length) (hv : v < at_ l i) : (l.set i v).sum < l.sum := by
  induction l generalizing i with
  | nil => simp at h
  | cons x l ih =>
    cases i with
    | zero => simp [at_] at hv ⊢; omega
    | succ i =>
      have := ih i (by simpa using h) (by simpa [at_] using hv)
      simp; omega
theorem list_of_at {l r : List Nat} (hl : l.length = r.length) (h : ∀ i, i < l.length → at_ l i = at_ r i) : l = r := by
  refine List.ext_getElem hl fun i h1 h2 => ?_
  have := h i h1
  simpa [at_, List.getD_eq_getElem?_getD, h1, h2] using this
end Go.Proofs.YtkkaejbdekdljaaDoor
/- Walks: the forest of package links (newForest, root, join, roots). -/
set_option linter.unusedVariables false
set_option linter.unusedSimpArgs false
namespace Go.Proofs.YtkkaejbdekdljaaDoor
open Go.RowKit

def nats (l : List Nat) : List Value := l.map fun x : Nat => .int .i64 (x : Int)
theorem nats_length (l : List Nat) : (nats l).length = l.length := by simp [nats]
theorem nats_set (l : List Nat) (i v : Nat) : (nats l).set i (.int .i64 (v : Int)) = nats (l.set i v) := by simp [nats, List.map_set]
theorem nats_at (l : List Nat) (k : Nat) (h : k < l.length) : (nats l)[k]? = some (.int .i64 (at_ l k : Int)) := by
  simp [nats, at_, List.getElem?_eq_getElem h, List.getD_eq_getElem?_getD]
theorem Blk.nat {w : World} {g : Nat} {t : TypeId} {l : List Nat} (h : Blk w g t (nats l)) {k : Nat} (hk : k < l.length) : w.cell? ⟨g, k, none⟩ = some (.int .i64 (at_ l k : Int)) := by
  rw [h.cell, nats_at l k hk]

theorem madeCells_int (n : Nat) : madeCells (Value.int .i64 0).cells (n * 1) = (nats (List.replicate n 0)).toArray := by
  apply Array.ext <;> simp [madeCells, Value.cells, nats, Nat.mod_one]

set_option maxHeartbeats 400000 in
theorem root_any (g : Nat) (n c x : Nat) (l : List Nat) (w : World) (hb : Blk w g 3 (nats l)) (hl : l.length = n) (hf : ∀ i, i < n → at_ l i ≤ i) (hx : x < n) (hn : n ≤ 4096) (hc : n ≤ c) :
    Calls Tryd.prog 64 #[.slice (some ⟨g, 0, none⟩) n c, .int .i64 (x : Int)] w fun e w' => e = .returned (.int .i64 (rt (at_ l) x : Int)) ∧
      ∃ l' : List Nat, l'.length = n ∧ (∀ i, i < n → at_ l' i ≤ i) ∧ (∀ i, i < n → rt (at_ l') i = rt (at_ l) i) ∧ Blk w' g 3 (nats l') ∧ Mod (· = g) w w' := by
  have HL := Lib.hid hl
  clear hl
  go_enter Tryd.func64, Tryd.ntmps64
  go_wp2
  go_loopw [1] (fun v wr => ∃ (y : Nat) (l' : List Nat), v = .int .i64 (y : Int) ∧ y < n ∧ l'.length = n ∧ (∀ i, i < n → at_ l' i ≤ i) ∧ (∀ i, i < n → rt (at_ l') i = rt (at_ l) i) ∧ rt (at_ l) y = rt (at_ l) x ∧ Blk wr g 3 (nats l') ∧ Mod (· = g) w wr) (fun v _ => (intOf v).toNat)
  case atStart => exact ⟨x, l, rfl, hx, HL.out, hf, fun _ _ => rfl, rfl, hb, Mod.refl _ _⟩
  case round =>
    obtain ⟨y, l', rfl, hy, hl', hf', hr', hxy, hb', hw⟩ := hrel
    have hc1 := hb'.nat (k := y) (by omega)
    have hfy := hf' y hy
    have hc2 := hb'.nat (k := at_ l' y) (by omega)
    have hfz := hb'.frozen y
    have HX := Lib.hid hxy
    have HR := Lib.hid hr'
    have HF := Lib.hid hf'
    have HL' := Lib.hid hl'
    clear hxy hr' hf' hl'
    by_cases he : at_ l' y = y
    · have hd : ((at_ l' y : Int) != (y : Int)) = false := by simp; omega
      have HE := Lib.hid he
      clear he
      go_wp2
      go_ret
      exact ⟨ret_int (by
        have h1 := HX.out
        rw [rt_end (f := at_ l) (x := y)] at h1
        · rw [h1]
        · have h2 := HR.out y hy
          have h3 := HE.out
          rw [rt_end (f := at_ l') (by omega)] at h2
          intro h4
          rw [rt_step h4] at h2
          have := rt_le (at_ l) (at_ l y)
          omega), l', HL'.out, HF.out, HR.out, hb', hw⟩
    · have hd : ((at_ l' y : Int) != (y : Int)) = true := by simp; omega
      have HE := Lib.hid he
      clear he
      go_wp2
      go_roundw
      case rel =>
        have e1 := at_set l' y (at_ l' (at_ l' y)) (by have := HL'.out; omega)
        have e2 := rt_half (f := at_ l') (n := n) (x := y) HF.out hy
        have e3 : rt (at_ l') (at_ l' y) = rt (at_ l') y := rt_f _ _ hfy
        have e4 := HF.out (at_ l' y) (by omega)
        have e5 : rt (at_ l') (at_ l' (at_ l' y)) = rt (at_ l') (at_ l' y) := rt_f _ _ e4
        refine ⟨at_ l' (at_ l' y), l'.set y (at_ l' (at_ l' y)), rfl, by omega, by simp; exact HL'.out, fun i hi => ?_, fun i hi => ?_, ?_, ?_, ?_⟩
        · rw [e1]
          by_cases hiy : i = y
          · subst hiy; rw [put_same]; omega
          · rw [put_other _ _ hiy]; exact HF.out i hi
        · rw [e1, e2]; exact HR.out i hi
        · rw [← HX.out, ← HR.out _ (by omega), e5, e3]; exact HR.out y hy
        · have := hb'.set_ y (.int .i64 (at_ l' (at_ l' y) : Int))
          rwa [nats_set] at this
        · exact hw.set_ (fun _ => rfl) _
      case measure =>
        have e4 := HF.out (at_ l' y) (by omega)
        have e6 := HE.out
        simp [intOf]; omega

theorem Tryd.slt24 : SlT Tryd.prog 24 3 1 8 := ⟨Tryd.underlying24, ⟨.int .i64 0, by kernel_rfl, rfl⟩, by decide, by decide⟩
theorem Tryd.sltForest : SlT Tryd.prog 73 3 1 8 := ⟨Tryd.underlying73, ⟨.int .i64 0, by kernel_rfl, rfl⟩, by decide, by decide⟩
theorem run_mk_ints {P : Program} {t e : TypeId} (H : SlT P t e 1 8) (hz : (P.info? e).map (·.zero) = some (some (.int .i64 0))) (n : Nat) (hn : n ≤ 4294967296) (w : World) :
    (Instr.makeSlice t (.int .i64 (n : Int)) (.int .i64 (n : Int))).run P w = .ok (.slice (some ⟨w.heap.size, 0, none⟩) n n) (w.alloc (.cells (nats (List.replicate n 0)).toArray e)) := by
  obtain ⟨z, hi, hzs⟩ := H.info
  obtain ⟨i, hi0, hi1, hi2, hi3⟩ := info_parts hi
  rw [hi0] at hz
  simp at hz
  rw [hi1] at hz
  injection hz with hz
  have := run_make (P := P) w t e i z H.und hi0 hi1 .i64 .i64 n n (by omega) (by omega) (by rw [hi3]; omega) (by omega)
  simp only [Int.toNat_natCast] at this
  rw [this, hi2, hz, madeCells_int]
theorem at_repl (n i : Nat) : at_ (List.replicate n 0) i = 0 := by
  simp [at_, List.getD_eq_getElem?_getD, List.getElem?_replicate]
  split <;> rfl

set_option maxHeartbeats 400000 in
theorem newForest_any (n : Nat) (w : World) (hn : n ≤ 4096) :
    Calls Tryd.prog 39 #[.int .i64 (n : Int)] w fun e w' => ∃ g, e = .returned (.slice (some ⟨g, 0, none⟩) n n) ∧ w.heap.size ≤ g ∧ Blk w' g 3 (nats (List.range n)) ∧ New w w' := by
  have hmk := run_mk_ints Tryd.sltForest (by kernel_rfl) n (by omega)
  go_enter Tryd.func39, Tryd.ntmps39
  go_wp2
  go_loopw [4, 8] (fun _ i wr => ∃ (k : Nat) (l : List Nat), k ≤ n ∧ i = .int .i64 (k : Int) ∧ l.length = n ∧ (∀ j, j < k → at_ l j = j) ∧ Blk wr w.heap.size 3 (nats l) ∧ New w wr) (fun _ i _ => n - (intOf i).toNat)
  case atStart => exact ⟨0, _, Nat.zero_le _, rfl, by simp, fun j hj => by omega, Blk.new _ _ _, (Mod.refl _ _).alloc _⟩
  case round =>
    obtain ⟨k, l, hk, rfl, hl, hj, hb, hw⟩ := hrel
    have HL := Lib.hid hl
    have HJ := Lib.hid hj
    clear hl hj
    by_cases hlt : k < n
    · have hc := hb.nat (k := k) (by have := HL.out; omega)
      have hf := hb.frozen k
      go_wp2
      go_roundw
      case rel => exact ⟨k + 1, l.set k k, by omega, by go_num, by simp; exact HL.out, fun j hj => by
        rw [at_set _ _ _ (by have := HL.out; omega)]
        by_cases e : j = k
        · subst e; rw [put_same]
        · rw [put_other _ _ e]; exact HJ.out j (by omega), by
        have := hb.set_ k (.int .i64 (k : Int))
        rwa [nats_set] at this, hw.set_ (fun h => by simp at h) _⟩
      case measure => simp [intOf]; omega
    · go_wp2
      go_ret
      have e : l = List.range n := list_of_at (by rw [HL.out]; simp) (fun i hi => by
        rw [HJ.out i (by have := HL.out; omega)]
        have := HL.out
        simp [at_, List.getD_eq_getElem?_getD, show i < n by omega])
      exact ⟨w.heap.size, rfl, Nat.le_refl _, by rw [← e]; exact hb, hw⟩

set_option maxHeartbeats 400000 in
theorem join_any (g : Nat) (n c x y : Nat) (l : List Nat) (w : World) (hb : Blk w g 3 (nats l)) (hl : l.length = n) (hf : ∀ i, i < n → at_ l i ≤ i) (hx : x < n) (hy : y < n) (hn : n ≤ 4096) (hc : n ≤ c) :
    Calls Tryd.prog 40 #[.slice (some ⟨g, 0, none⟩) n c, .int .i64 (x : Int), .int .i64 (y : Int)] w fun e w' => e = .returned (.tuple #[]) ∧
      ∃ l' : List Nat, l'.length = n ∧ (∀ i, i < n → at_ l' i ≤ i) ∧ (∀ i, i < n → rt (at_ l') i = if rt (at_ l) i = max (rt (at_ l) x) (rt (at_ l) y) then min (rt (at_ l) x) (rt (at_ l) y) else rt (at_ l) i) ∧ Blk w' g 3 (nats l') ∧ Mod (· = g) w w' := by
  have HL := Lib.hid hl
  have HF := Lib.hid hf
  have hx0 := rt_le (at_ l) x
  have hy0 := rt_le (at_ l) y
  clear hl hf
  go_enter Tryd.func40, Tryd.ntmps40
  go_wp2_with fail
  refine (root_any g n c x l _ hb HL.out HF.out hx hn hc).mono ?_
  rintro e w1 ⟨rfl, l1, hl1, hf1, hr1, hb1, hw1⟩
  have HL1 := Lib.hid hl1
  have HF1 := Lib.hid hf1
  have HR1 := Lib.hid hr1
  clear hl1 hf1 hr1
  go_wp2_with fail
  refine (root_any g n c y l1 _ hb1 HL1.out HF1.out hy hn hc).mono ?_
  rintro e w2 ⟨rfl, l2, hl2, hf2, hr2, hb2, hw2⟩
  have hry := HR1.out y hy
  rw [hry]
  have HL2 := Lib.hid hl2
  have HF2 := Lib.hid hf2
  have HR2 := Lib.hid hr2
  have HRY := Lib.hid hry
  clear hl2 hf2 hr2 hry
  have hm : (max (rt (at_ l) x : Int) (rt (at_ l) y : Int)).toNat = max (rt (at_ l) x) (rt (at_ l) y) := by omega
  have hmc : w2.cell? ⟨g, (max (rt (at_ l) x : Int) (rt (at_ l) y : Int)).toNat, none⟩ = some (.int .i64 (at_ l2 (max (rt (at_ l) x) (rt (at_ l) y)) : Int)) := by
    rw [hm]; exact hb2.nat (by have := HL2.out; omega)
  have hmf : w2.frozen? ⟨g, (max (rt (at_ l) x : Int) (rt (at_ l) y : Int)).toNat, none⟩ = false := hb2.frozen _
  have HM := Lib.hid hm
  clear hm
  have hb0 : 0 ≤ max (rt (at_ l) x : Int) (rt (at_ l) y : Int) := by omega
  have hb3 : max (rt (at_ l) x : Int) (rt (at_ l) y : Int) < (n : Int) := by omega
  go_wp2
  go_end0
  have ea : ∀ i, i < n → rt (at_ l2) i = rt (at_ l) i := fun i hi => (HR2.out i hi).trans (HR1.out i hi)
  have ex : ∀ z, z = x ∨ z = y → at_ l2 (rt (at_ l) z) = rt (at_ l) z := fun z hz => by
    have hzn : z < n := by rcases hz with rfl | rfl <;> assumption
    have h1 := rt_root (at_ l2) z
    rw [ea z hzn] at h1
    have := HF2.out (rt (at_ l) z) (by have := rt_le (at_ l) z; omega)
    omega
  have emin : ((min (rt (at_ l) x) (rt (at_ l) y) : Nat) : Int) = min (rt (at_ l) x : Int) (rt (at_ l) y : Int) := by omega
  have ehi : at_ l2 (max (rt (at_ l) x) (rt (at_ l) y)) = max (rt (at_ l) x) (rt (at_ l) y) := by
    rcases Nat.le_total (rt (at_ l) x) (rt (at_ l) y) with h | h
    · rw [Nat.max_eq_right h]; exact ex y (.inr rfl)
    · rw [Nat.max_eq_left h]; exact ex x (.inl rfl)
  have elo : at_ l2 (min (rt (at_ l) x) (rt (at_ l) y)) = min (rt (at_ l) x) (rt (at_ l) y) := by
    rcases Nat.le_total (rt (at_ l) x) (rt (at_ l) y) with h | h
    · rw [Nat.min_eq_left h]; exact ex x (.inl rfl)
    · rw [Nat.min_eq_right h]; exact ex y (.inr rfl)
  have eset := at_set l2 (max (rt (at_ l) x) (rt (at_ l) y)) (min (rt (at_ l) x) (rt (at_ l) y)) (by have := HL2.out; omega)
  refine ⟨rfl, l2.set (max (rt (at_ l) x) (rt (at_ l) y)) (min (rt (at_ l) x) (rt (at_ l) y)), by simp; exact HL2.out, fun i hi => ?_, fun i hi => ?_, ?_, ?_⟩
  · rw [eset]
    by_cases e : i = max (rt (at_ l) x) (rt (at_ l) y)
    · rw [e, put_same]; omega
    · rw [put_other _ _ e]; exact HF2.out i hi
  · rw [eset, rt_join (by omega) ehi elo, ea i hi]
  · have := hb2.set_ (max (rt (at_ l) x) (rt (at_ l) y)) (.int .i64 ((min (rt (at_ l) x) (rt (at_ l) y) : Nat) : Int))
    rw [nats_set, emin] at this
    rw [HM.out]
    exact this
  · exact (hw1.trans hw2 (fun _ _ h => h)).set_ (fun _ => rfl) _

set_option maxHeartbeats 400000 in
theorem roots_any (g : Nat) (n c : Nat) (l : List Nat) (w : World) (hb : Blk w g 3 (nats l)) (hl : l.length = n) (hf : ∀ i, i < n → at_ l i ≤ i) (hn : n ≤ 4096) (hc : n ≤ c) :
    Calls Tryd.prog 41 #[.slice (some ⟨g, 0, none⟩) n c] w fun e w' => ∃ (h : Nat) (r : List Nat), e = .returned (.slice (some ⟨h, 0, none⟩) n n) ∧ w.heap.size ≤ h ∧ Blk w' h 3 (nats r) ∧ r.length = n ∧ (∀ i, i < n → at_ r i = rt (at_ l) i) ∧ Mod (· = g) w w' := by
  have HL := Lib.hid hl
  have HF := Lib.hid hf
  clear hl hf
  have hmk := run_mk_ints Tryd.slt24 (by kernel_rfl) n (by omega)
  have hgl := hb.lt
  go_enter Tryd.func41, Tryd.ntmps41
  go_wp2
  go_loopw [4, 10] (fun _ i wr => ∃ (k : Nat) (l' r : List Nat), k ≤ n ∧ i = .int .i64 (k : Int) ∧ l'.length = n ∧ (∀ j, j < n → at_ l' j ≤ j) ∧ (∀ j, j < n → rt (at_ l') j = rt (at_ l) j) ∧ r.length = n ∧ (∀ j, j < k → at_ r j = rt (at_ l) j) ∧
      Blk wr g 3 (nats l') ∧ Blk wr w.heap.size 3 (nats r) ∧ Mod (· = g) w wr) (fun _ i _ => n - (intOf i).toNat)
  case atStart => exact ⟨0, l, _, Nat.zero_le _, rfl, HL.out, HF.out, fun _ _ => rfl, by simp, fun j hj => by omega, hb.alloc _, Blk.new _ _ _, (Mod.refl _ _).alloc _⟩
  case round =>
    obtain ⟨k, l', r, hk, rfl, hl', hf', hr', hlr, hj, hb', hbr, hw⟩ := hrel
    have HL' := Lib.hid hl'
    have HF' := Lib.hid hf'
    have HR' := Lib.hid hr'
    have HLR := Lib.hid hlr
    have HJ := Lib.hid hj
    clear hl' hf' hr' hlr hj
    by_cases hlt : k < n
    · go_wp2_with fail
      refine (root_any g n c k l' _ hb' HL'.out HF'.out hlt hn hc).mono ?_
      rintro e w1 ⟨rfl, l1, hl1, hf1, hr1, hb1, hw1⟩
      have hbr1 := hbr.kept hw1 (fun h => by omega)
      have hcr := hbr1.nat (k := k) (by have := HLR.out; omega)
      have hfr := hbr1.frozen k
      have HL1 := Lib.hid hl1
      have HF1 := Lib.hid hf1
      have HR1 := Lib.hid hr1
      clear hl1 hf1 hr1
      go_wp2
      go_roundw
      case rel => exact ⟨k + 1, l1, r.set k (rt (at_ l') k), by omega, by go_num, HL1.out, HF1.out, fun j hj => (HR1.out j hj).trans (HR'.out j hj), by simp; exact HLR.out, fun j hj => by
        rw [at_set _ _ _ (by have := HLR.out; omega)]
        by_cases e : j = k
        · subst e; rw [put_same]; exact HR'.out j hlt
        · rw [put_other _ _ e]; exact HJ.out j (by omega), hb1.far (by simp; omega) _, by
        have := hbr1.set_ k (.int .i64 (rt (at_ l') k : Int))
        rwa [nats_set] at this, (hw.trans hw1 (fun _ _ h => h)).set_ (fun h => by simp at h) _⟩
      case measure => simp [intOf]; omega
    · go_wp2
      go_ret
      exact ⟨w.heap.size, r, rfl, Nat.le_refl _, hbr, HLR.out, fun i hi => HJ.out i (by omega), hw⟩
end Go.Proofs.YtkkaejbdekdljaaDoor
/- Words: lists of pairs. -/
set_option linter.unusedVariables false
set_option linter.unusedSimpArgs false
namespace Go.Proofs.YtkkaejbdekdljaaDoor
open Go.RowKit

theorem Tryd.slt22 : SlT Tryd.prog 22 67 2 16 := ⟨Tryd.underlying22, ⟨.agg #[.int .i64 0, .int .i64 0], by kernel_rfl, rfl⟩, by decide, by decide⟩
def twos (l : List (Int × Int)) : List Value := l.flatMap fun p => [.int .i64 p.1, .int .i64 p.2]
theorem twos_length (l : List (Int × Int)) : (twos l).length = 2 * l.length := by
  induction l with
  | nil => rfl
  | cons p l ih => simp [twos] at ih ⊢; omega
theorem twos_append (l r : List (Int × Int)) : twos (l ++ r) = twos l ++ twos r := by simp [twos]
theorem twos_at (l : List (Int × Int)) (k : Nat) (p : Int × Int) (h : l[k]? = some p) : (twos l)[k * 2]? = some (.int .i64 p.1) ∧ (twos l)[k * 2 + 1]? = some (.int .i64 p.2) := by
  induction l generalizing k with
  | nil => simp at h
  | cons q l ih =>
    cases k with
    | zero => simp at h; subst h; simp [twos]
    | succ k =>
      have := ih k (by simpa using h)
      simpa [twos, Nat.add_mul] using this
theorem Sl.two {w : World} {A : Option Addr} {n : Nat} {l : List (Int × Int)} (h : Sl w A n 2 (twos l)) {k : Nat} (hk : k < n) :
    ∃ b off p, A = some ⟨b, off, none⟩ ∧ l[k]? = some p ∧ w.cell? ⟨b, off + k * 2, none⟩ = some (.int .i64 p.1) ∧ w.cell? ⟨b, off + k * 2 + 1, none⟩ = some (.int .i64 p.2) := by
  obtain ⟨b, off, e, hc⟩ := h.cells (by omega)
  have hl : k < l.length := by have := h.len; rw [twos_length] at this; omega
  have := twos_at l k l[k] (List.getElem?_eq_getElem hl)
  refine ⟨b, off, l[k], e, List.getElem?_eq_getElem hl, hc _ _ this.1, ?_⟩
  rw [Nat.add_assoc]
  exact hc _ _ this.2
end Go.Proofs.YtkkaejbdekdljaaDoor
/- Walks: told, sized, named and Groups of package links. -/
set_option linter.unusedVariables false
set_option linter.unusedSimpArgs false
namespace Go.Proofs.YtkkaejbdekdljaaDoor
open Go.RowKit

/-- The errors that tell a place. -/
def Placed (n : Int) : Bool := n == 10 || n == 11 || n == 24
/-- An error value is the number n, with the place, if n is one that tells it. -/
def ErrIs (v : Value) (n l c : Int) : Prop := (n = 0 ∧ v = .nilIface) ∨ (1 ≤ n ∧ n ≤ 24 ∧ Er v n (if Placed n then some (l, c) else none))

set_option maxHeartbeats 1000000 in
theorem told_any {v : Value} {n l c : Int} (h : ErrIs v n l c) (w : World) (hg : ErrVar w) :
    Calls Tryd.prog 11 #[v, .int .i64 n, .int .i64 l, .int .i64 c] w fun e w' => e = .returned (.bool true) ∧ New w w' := by
  rcases h with ⟨rfl, rfl⟩ | ⟨h1, h24, h⟩
  · go_enter Tryd.func11, Tryd.ntmps11
    go_wp2_with (go_at_call 22; refine (plain_nil _).mono ?_; rintro e w1 ⟨rfl, hw1⟩)
    go_ret
    exact ⟨rfl, hw1⟩
  · by_cases hp : Placed n = true
    · rw [if_pos hp] at h
      obtain ⟨t, x, rfl⟩ := h.iface
      have hp2 : n = 10 ∨ n = 11 ∨ n = 24 := by simpa [Placed, or_assoc] using hp
      rcases hp2 with rfl | rfl | rfl
      all_goals
        go_enter Tryd.func11, Tryd.ntmps11
        go_wp2_with (go_at_call 42; refine (at_any h (by omega) (by omega) _ hg).mono ?_; rintro e w1 ⟨rfl, hw1⟩)
        go_ret
        exact ⟨rfl, hw1⟩
    · rw [if_neg hp] at h
      obtain ⟨t, x, rfl⟩ := h.iface
      have hp2 : ¬ (n = 10 ∨ n = 11 ∨ n = 24) := by simpa [Placed, or_assoc] using hp
      have d1 : (n == 10) = false := by simp; omega
      have d2 : (n == 11) = false := by simp; omega
      have d3 : (n == 24) = false := by simp; omega
      go_enter Tryd.func11, Tryd.ntmps11
      go_wp2_with (go_at_call 22; refine (plain_any h h1 h24 _ hg).mono ?_; rintro e w1 ⟨rfl, hw1⟩)
      go_ret
      exact ⟨rfl, hw1⟩

theorem sized_any (n : Int) (w : World) :
    Calls Tryd.prog 37 #[.int .i64 n] w fun e w' => e = .returned (if n < 0 then .iface 82 (.agg #[.int .i64 1]) else if 4096 < n then .iface 82 (.agg #[.int .i64 5]) else .nilIface) ∧ New w w' := by
  by_cases h1 : n < 0
  · rw [if_pos h1]
    go_enter Tryd.func37, Tryd.ntmps37
    go_wp2
    go_ret
    exact ⟨rfl, Mod.refl _ _⟩
  · rw [if_neg h1]
    by_cases h2 : 4096 < n
    · rw [if_pos h2]
      go_enter Tryd.func37, Tryd.ntmps37
      go_wp2
      go_ret
      exact ⟨rfl, Mod.refl _ _⟩
    · rw [if_neg h2]
      go_enter Tryd.func37, Tryd.ntmps37
      go_wp2
      go_ret
      exact ⟨rfl, Mod.refl _ _⟩

/-- A pair names things. -/
def names (n : Nat) (p : Int × Int) : Bool := decide (0 ≤ p.1 ∧ p.1 < n ∧ 0 ≤ p.2 ∧ p.2 < n)
/-- The place of the first pair from k on that names no things. -/
def lostFrom (n : Nat) : Nat → List (Int × Int) → Option Nat
  | _, [] => none
  | k, p :: l => if names n p then lostFrom n (k + 1) l else some k

/-- The error that says that pair k names no things. -/
def lostErr : Option Nat → Value
  | none => .nilIface
  | some k => .iface 88 (.agg #[.int .i64 10, .int .i64 0, .int .i64 (k : Int)])
theorem lostFrom_yes {n k : Nat} {p : Int × Int} {l : List (Int × Int)} (h : names n p = true) : lostFrom n k (p :: l) = lostFrom n (k + 1) l := by simp [lostFrom, h]
theorem lostFrom_no {n k : Nat} {p : Int × Int} {l : List (Int × Int)} (h : names n p = false) : lostFrom n k (p :: l) = some k := by simp [lostFrom, h]

set_option maxHeartbeats 1000000 in
theorem named_any (n : Nat) (A : Option Addr) (m c : Nat) (l : List (Int × Int)) (w : World) (hn : n ≤ 4096) (ha : Sl w A m 2 (twos l)) :
    Calls Tryd.prog 38 #[.int .i64 (n : Int), .slice A m c] w fun e w' => e = .returned (lostErr (lostFrom n 0 l)) ∧ New w w' := by
  have hl : l.length = m := by have := ha.len; rw [twos_length] at this; omega
  have hm := ha.le
  have HL := Lib.hid hl
  clear hl
  go_enter Tryd.func38, Tryd.ntmps38
  go_wp2
  go_loopw [5, 6, 9] (fun _ _ i wr => ∃ k : Nat, k ≤ m ∧ i = .int .i64 (k : Int) ∧ lostFrom n 0 l = lostFrom n k (l.drop k) ∧ New w wr) (fun _ _ i _ => m - (intOf i).toNat)
  case atStart => exact ⟨0, Nat.zero_le _, rfl, by simp, Mod.refl _ _⟩
  case round =>
    obtain ⟨k, hk, rfl, hlost, hw⟩ := hrel
    have HR := Lib.hid hlost
    clear hlost
    by_cases hlt : k < m
    · obtain ⟨b, off, p, rfl, hp, hc0, hc1⟩ := (ha.new_ hw).two hlt
      have hdrop : l.drop k = p :: l.drop (k + 1) := by
        rw [List.drop_eq_getElem_cons (by have := HL.out; omega)]
        congr 1
        rw [List.getElem?_eq_getElem (by have := HL.out; omega)] at hp
        injection hp
      have HD := Lib.hid hdrop
      clear hdrop hp
      obtain ⟨x, y⟩ := p
      have hret : names n (x, y) = false → Ending.returned (.iface 88 (.agg #[.int .i64 10, .int .i64 0, .int .i64 (k : Int)])) = .returned (lostErr (lostFrom n 0 l)) := fun h => by
        rw [HR.out, HD.out, lostFrom_no h]; rfl
      have HT := Lib.hid hret
      clear hret
      by_cases hmin : min x y < 0
      · go_wp2
        go_ret
        exact ⟨HT.out (by simp [names]; omega), hw.alloc _⟩
      · by_cases hmax : (n : Int) ≤ max x y
        · go_wp2
          go_ret
          exact ⟨HT.out (by simp [names]; omega), hw.alloc _⟩
        · go_wp2
          go_roundw
          case rel => exact ⟨k + 1, by omega, by go_num, by rw [HR.out, HD.out, lostFrom_yes (by simp [names]; omega)], hw.alloc _⟩
          case measure => simp [intOf]; omega
    · have hret : Ending.returned .nilIface = .returned (lostErr (lostFrom n 0 l)) := by
        rw [HR.out, List.drop_of_length_le (by have := HL.out; omega)]; rfl
      have HT := Lib.hid hret
      clear hret
      go_wp2
      go_ret
      exact ⟨HT.out, hw⟩
end Go.Proofs.YtkkaejbdekdljaaDoor
/- Walks: links.Groups, and the document's Groups. -/
set_option linter.unusedVariables false
set_option linter.unusedSimpArgs false
namespace Go.Proofs.YtkkaejbdekdljaaDoor
open Go.RowKit

/-- The error of Groups: its number, its place. -/
def grpErr (n : Int) (l : List (Int × Int)) : Int × Int :=
  if n < 0 then (1, 0) else if 4096 < n then (5, 0) else match lostFrom n.toNat 0 l with | some k => (10, (k : Int)) | none => (0, 0)
/-- What Groups answers. -/
def GrpOut (n : Int) (l : List (Int × Int)) (r : List Nat) : Prop := if (grpErr n l).1 = 0 then r.length = n.toNat ∧ Least n.toNat l (at_ r) else r = []
theorem GrpOut.unique {n : Int} {l : List (Int × Int)} {r r' : List Nat} (h : GrpOut n l r) (h' : GrpOut n l r') : r = r' := by
  unfold GrpOut at h h'
  split at h
  · rename_i h0
    rw [if_pos h0] at h'
    exact list_of_at (h.1.trans h'.1.symm) fun i hi => h.2.unique h'.2 i (by omega)
  · rename_i h0
    rw [if_neg h0] at h'
    rw [h, h']
theorem lostFrom_none {n : Nat} {l : List (Int × Int)} : ∀ {k : Nat}, lostFrom n k l = none → ∀ p, p ∈ l → 0 ≤ p.1 ∧ p.1 < n ∧ 0 ≤ p.2 ∧ p.2 < n := by
  induction l with
  | nil => intro k _ p hp; simp at hp
  | cons q l ih =>
    intro k h p hp
    by_cases hq : names n q = true
    · rw [lostFrom_yes hq] at h
      rcases List.mem_cons.1 hp with rfl | hp
      · simpa [names] using hq
      · exact ih h p hp
    · rw [lostFrom_no (by simpa using hq)] at h
      cases h

/-- What a call of Groups comes to. -/
def GrpPost (w : World) (n : Int) (l : List (Int × Int)) (e : Ending) (w' : World) : Prop :=
  ∃ v ev r, e = .returned (.tuple #[v, ev]) ∧ ErrIs ev (grpErr n l).1 0 (grpErr n l).2 ∧ w'.ownsRow w.heap.size 3 1 v r.length (nats r) ∧ GrpOut n l r ∧ New w w'

theorem own_blk {w : World} {B g n : Nat} {r : List Nat} (h : Blk w g 3 (nats r)) (hB : B ≤ g) (hr : r.length = n) (hn : n ≤ 4096) : w.ownsRow B 3 1 (.slice (some ⟨g, 0, none⟩) n n) r.length (nats r) := by
  subst hr
  refine ⟨by simp [nats], .inr ⟨g, r.length, (nats r).toArray, rfl, hB, h, Nat.le_refl _, by unfold maxLen; omega, by simp [nats], ?_⟩⟩
  simp [nats, List.take_of_length_le]

set_option maxHeartbeats 1000000 in
theorem linksGroups_any (n : Int) (A : Option Addr) (m c : Nat) (l : List (Int × Int)) (w : World) (ha : Sl w A m 2 (twos l)) :
    Calls Tryd.prog 10 #[.int .i64 n, .slice A m c] w (GrpPost w n l) := by
  have hl : l.length = m := by have := ha.len; rw [twos_length] at this; omega
  have hm := ha.le
  have HL := Lib.hid hl
  clear hl
  by_cases h1 : n < 0
  · have hs := fun w => sized_any n w
    simp only [if_pos h1] at hs
    have HP : ∀ w', New w w' → GrpPost w n l (.returned (.tuple #[.slice none 0 0, .iface 82 (.agg #[.int .i64 1])])) w' := fun w' hw =>
      ⟨_, _, [], rfl, by simp [grpErr, h1]; exact .inr ⟨by omega, by omega, .ref 1⟩, own_nil _ _ _ _, by simp [GrpOut, grpErr, h1], hw⟩
    have HS := Lib.hid hs
    have HH := Lib.hid HP
    clear hs HP
    go_enter Tryd.func10, Tryd.ntmps10
    go_wp2_with (go_at_call 37; refine (HS.out _).mono ?_; rintro e w1 ⟨rfl, hw1⟩)
    go_ret2
    exact HH.out _ hw1
  · by_cases h2 : 4096 < n
    · have hs := fun w => sized_any n w
      simp only [if_neg h1, if_pos h2] at hs
      have HP : ∀ w', New w w' → GrpPost w n l (.returned (.tuple #[.slice none 0 0, .iface 82 (.agg #[.int .i64 5])])) w' := fun w' hw =>
        ⟨_, _, [], rfl, by simp [grpErr, h1, h2]; exact .inr ⟨by omega, by omega, .ref 5⟩, own_nil _ _ _ _, by simp [GrpOut, grpErr, h1, h2], hw⟩
      have HS := Lib.hid hs
      have HH := Lib.hid HP
      clear hs HP
      go_enter Tryd.func10, Tryd.ntmps10
      go_wp2_with (go_at_call 37; refine (HS.out _).mono ?_; rintro e w1 ⟨rfl, hw1⟩)
      go_ret2
      exact HH.out _ hw1
    · obtain ⟨n, rfl⟩ := Int.eq_ofNat_of_zero_le (Int.not_lt.1 h1)
      have hn : n ≤ 4096 := by omega
      have hs := fun w => sized_any (n : Int) w
      simp only [if_neg h1, if_neg h2] at hs
      have HS := Lib.hid hs
      clear hs
      cases hlost : lostFrom n 0 l with
      | some k =>
        have hge : grpErr (n : Int) l = (10, (k : Int)) := by unfold grpErr; rw [if_neg h1, if_neg h2]; simp [hlost]
        have HP : ∀ w', New w w' → GrpPost w n l (.returned (.tuple #[.slice none 0 0, .iface 88 (.agg #[.int .i64 10, .int .i64 0, .int .i64 (k : Int)])])) w' := fun w' hw =>
          ⟨_, _, [], rfl, by rw [hge]; exact .inr ⟨by omega, by omega, .fault 10 0 k⟩, own_nil _ _ _ _, by simp [GrpOut, hge], hw⟩
        have hna := fun w ha => named_any n A m c l w hn ha
        simp only [hlost, lostErr] at hna
        have HN := Lib.hid hna
        have HH := Lib.hid HP
        clear HP hna hlost hge
        go_enter Tryd.func10, Tryd.ntmps10
        go_wp2_with (first
          | (go_at_call 37; refine (HS.out _).mono ?_; rintro e w1 ⟨rfl, hw1⟩)
          | (go_at_call 38; refine (HN.out _ (ha.new_ hw1)).mono ?_; rintro e w2 ⟨rfl, hw2⟩))
        go_ret2
        exact HH.out _ (New.trans hw1 hw2)
      | none =>
        have hge : grpErr (n : Int) l = (0, 0) := by unfold grpErr; rw [if_neg h1, if_neg h2]; simp [hlost]
        have hna := fun w ha => named_any n A m c l w hn ha
        simp only [hlost, lostErr] at hna
        have HN := Lib.hid hna
        have hin := lostFrom_none hlost
        have HP : ∀ w' h r, New w w' → w.heap.size ≤ h → Blk w' h 3 (nats r) → r.length = n → Least n l (at_ r) → GrpPost w n l (.returned (.tuple #[.slice (some ⟨h, 0, none⟩) n n, .nilIface])) w' := fun w' h r hw hh hb hr hls =>
          ⟨_, _, r, rfl, by rw [hge]; exact .inl ⟨rfl, rfl⟩, own_blk hb hh hr hn, by simp [GrpOut, hge]; exact ⟨hr, hls⟩, hw⟩
        have HH := Lib.hid HP
        have HI := Lib.hid hin
        clear HP hna hlost hin hge
        go_enter Tryd.func10, Tryd.ntmps10
        go_wp2_with (first
          | (go_at_call 37; refine (HS.out _).mono ?_; rintro e w1 ⟨rfl, hw1⟩)
          | (go_at_call 38; refine (HN.out _ (ha.new_ hw1)).mono ?_; rintro e w2 ⟨rfl, hw2⟩)
          | (go_at_call 39; refine (newForest_any n _ hn).mono ?_; rintro e w3 ⟨g, rfl, hg, hb, hw3⟩))
        have hw03 : New w w3 := New.trans (New.trans hw1 hw2) hw3
        have hgB : w.heap.size ≤ g := Nat.le_trans (New.trans hw1 hw2).size hg
        have HW := Lib.hid hw03
        clear hw1 hw2 hw3 hw03 HN HS
        go_loopw [10, 26] (fun _ i wr => ∃ (k : Nat) (f : List Nat), k ≤ m ∧ i = .int .i64 (k : Int) ∧ f.length = n ∧ Tree n (l.take k) (at_ f) ∧ Blk wr g 3 (nats f) ∧ New w wr) (fun _ i _ => m - (intOf i).toNat)
        case atStart => exact ⟨0, List.range n, Nat.zero_le _, rfl, by simp, by simp; exact Tree.start _ _ fun i hi => by simp [at_, List.getD_eq_getElem?_getD, hi], hb, HW.out⟩
        case round =>
          obtain ⟨k, f, hk, rfl, hf, ht, hb, hw⟩ := hrel
          have HF := Lib.hid hf
          have HT := Lib.hid ht
          clear hf ht
          by_cases hlt : k < m
          · obtain ⟨b, off, p, rfl, hp, hc0, hc1⟩ := (ha.new_ hw).two hlt
            have hpm : p ∈ l := List.mem_of_getElem? hp
            have hpin := HI.out p hpm
            have HP := Lib.hid hp
            obtain ⟨x, y⟩ := p
            obtain ⟨x, rfl⟩ := Int.eq_ofNat_of_zero_le hpin.1
            obtain ⟨y, rfl⟩ := Int.eq_ofNat_of_zero_le hpin.2.2.1
            have hx : x < n := by have := hpin.2.1; simpa using this
            have hy : y < n := by have := hpin.2.2.2; simpa using this
            clear hp hpm hpin
            go_wp2_with (go_at_call 40; refine (join_any g n n x y f _ (hb.alloc _) HF.out HT.out.le hx hy hn (Nat.le_refl _)).mono ?_; rintro e w4 ⟨rfl, f', hf', hle', hrt', hb', hw4⟩)
            go_roundw
            case rel => exact ⟨k + 1, f', by omega, by go_num, hf', by
              rw [List.take_add_one, HP.out]
              refine Tree.snoc HT.out (fun q hq => ?_) ⟨by simpa using hx, by simpa using hy⟩ (by simpa using hrt') hle'
              have := HI.out q (List.mem_of_mem_take hq)
              omega, hb', Mod.trans (hw.alloc _) hw4 (fun i hi hs => by omega)⟩
            case measure => simp [intOf]; omega
          · have ht2 : Tree n l (at_ f) := by have := HT.out; rwa [List.take_of_length_le (by have := HL.out; omega)] at this
            have HT2 := Lib.hid ht2
            clear ht2
            go_wp2_with (go_at_call 41; refine (roots_any g n n f _ hb HF.out HT2.out.le hn (Nat.le_refl _)).mono ?_; rintro e w5 ⟨h, r, rfl, hh, hbr, hr, hrr, hw5⟩)
            go_ret2
            refine HH.out _ h r (Mod.trans hw hw5 (fun i hi hs => by omega)) (Nat.le_trans hw.size hh) hbr hr ?_
            have := HT2.out.least
            exact ⟨fun i hi => by rw [hrr i hi]; exact this.le i hi, fun q hq => by
              have hq2 := HI.out q hq
              rw [hrr _ (by omega), hrr _ (by omega)]; exact this.pair q hq, fun c hc i hi => by rw [hrr i hi]; exact this.any c hc i hi⟩
end Go.Proofs.YtkkaejbdekdljaaDoor
