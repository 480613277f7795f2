/- Words and walks, part 13 of 19. -/
import Derived.Test.YtkkaejbdekdljaaDoorQ6
import Derived.Test.YtkkaejbdekdljaaDoorQ7
import Derived.Test.YtkkaejbdekdljaaDoorQ10
/- Words: the edges written over by their groups' numbers; the groups picked in an order. -/
set_option linter.unusedVariables false
set_option linter.unusedSimpArgs false
namespace Go.Proofs.YtkkaejbdekdljaaDoor
open Go.RowKit Go.Maps

/-- The edges by the numbers of their ends' groups. -/
def numPairs (R : Nat → Nat) (T : List (Int × Int)) : List (Int × Int) := numEdges (isHead R) (headEdges R T)
theorem numPairs_length (R : Nat → Nat) (T : List (Int × Int)) : (numPairs R T).length = T.length := by simp [numPairs, numEdges, headEdges]
theorem numPairs_at {R : Nat → Nat} {T : List (Int × Int)} {k x y : Nat} (h : T[k]? = some ((x : Int), (y : Int))) : (numPairs R T)[k]? = some ((num (isHead R) (R x) : Int), (num (isHead R) (R y) : Int)) := by
  simp [numPairs, numEdges, headEdges, h]
theorem numPairs_in {R : Nat → Nat} {T : List (Int × Int)} {n : Nat} (hR : ∀ i, i < n → R (R i) = R i) (hle : ∀ i, i < n → R i ≤ i) (hT : ∀ q, q ∈ T → 0 ≤ q.1 ∧ q.1 < n ∧ 0 ≤ q.2 ∧ q.2 < n) : ∀ p, p ∈ numPairs R T → 0 ≤ p.1 ∧ p.1 < (num (isHead R) n : Nat) ∧ 0 ≤ p.2 ∧ p.2 < (num (isHead R) n : Nat) := fun p hp => by
  obtain ⟨q, hq, rfl⟩ := List.mem_map.1 hp
  obtain ⟨t, ht, rfl⟩ := List.mem_map.1 hq
  obtain ⟨h1, h2, h3, h4⟩ := hT t ht
  have a1 : t.1.toNat < n := by omega
  have a2 : t.2.toNat < n := by omega
  have b1 := num_lt (hd := isHead R) (i := R t.1.toNat) (j := n) (by have := hle _ a1; omega) (by simp [isHead, hR _ a1])
  have b2 := num_lt (hd := isHead R) (i := R t.2.toNat) (j := n) (by have := hle _ a2; omega) (by simp [isHead, hR _ a2])
  simp only [Int.toNat_natCast]
  omega
theorem mixed_at {α : Type} {E T : List α} {k : Nat} (h : E.length = T.length) {q : α} (hq : T[k]? = some q) : (E.take k ++ T.drop k)[k]? = some q := by
  have hk := (List.getElem?_eq_some_iff.1 hq).1
  rw [List.getElem?_append_right (by simp; omega)]
  have : k - (E.take k).length = 0 := by simp; omega
  rw [this, List.getElem?_drop, Nat.add_zero, hq]
theorem mixed_set {α : Type} {E T : List α} {k : Nat} (h : E.length = T.length) {p : α} (hp : E[k]? = some p) : (E.take k ++ T.drop k).set k p = E.take (k + 1) ++ T.drop (k + 1) := by
  have hk := (List.getElem?_eq_some_iff.1 hp).1
  rw [List.set_append_right _ _ (by simp; omega)]
  have : k - (E.take k).length = 0 := by simp; omega
  have e2 : T.drop k = T[k]'(by omega) :: T.drop (k + 1) := List.drop_eq_getElem_cons (by omega)
  rw [this, List.take_add_one, hp, e2]
  simp only [List.set_cons_zero, Option.toList_some, List.append_assoc, List.singleton_append]
section
variable {w w' : World} {B m1 m2 n kf km : Nat} {R : Nat → Nat} {fv : Value} {vs : List Value}
theorem Grp.mod {S : Nat → Prop} (h : Grp w B m1 m2 n kf km R fv vs) (hm : Mod S w w') (hS : ∀ (v : Value) (m : Nat) (xs : List Value) (b : Nat), w.ownsRow B 3 1 v m xs → v.ownBlock = some b → ¬ S b) (h1 : ¬ S m1) (h2 : ¬ S m2) : Grp w' B m1 m2 n kf km R fv vs :=
  ⟨h.rows.kept hm (fun i v b hv hb => by
    have hi : i < (((firsts R kf).length, nats (firsts R kf)) :: memRows R n km).length := by rw [← h.rows.len]; exact (List.getElem?_eq_some_iff.1 hv).1
    exact hS v _ _ b (h.rows.own i v _ hv (List.getElem?_eq_getElem hi)) hb), h.mg.mod hm h1, h.mn.mod hm h2, h.ne⟩
/-- Some of the groups, each once. -/
theorem Grp.pick (h : Grp w B m1 m2 n kf km R fv vs) {B' : Nat} (hB : B' ≤ B) (hs : List Nat) (hlt : ∀ x, x ∈ hs → x < n) (hnd : hs.Nodup) :
    RowsOf w B' 3 1 (hs.map fun x => vs.getD x nilS) (hs.map fun x => ((mem R km x).length, nats (mem R km x))) := by
  refine ⟨by simp, fun i v x hv hx => ?_, fun i j v u b hij hv hu hb => ?_⟩
  · rw [List.getElem?_map] at hv hx
    obtain ⟨y, hy, rfl⟩ := Option.map_eq_some_iff.1 hv
    rw [hy] at hx
    simp at hx
    subst hx
    exact own_mono (h.group (hlt y (List.mem_of_getElem? hy))) hB
  · rw [List.getElem?_map] at hv hu
    obtain ⟨y, hy, rfl⟩ := Option.map_eq_some_iff.1 hv
    obtain ⟨z, hz, rfl⟩ := Option.map_eq_some_iff.1 hu
    have hyn := hlt y (List.mem_of_getElem? hy)
    have hzn := hlt z (List.mem_of_getElem? hz)
    have hyz : y ≠ z := fun e => by
      subst e
      exact hij ((List.getElem?_inj (List.getElem?_eq_some_iff.1 hy).1 hnd).1 (hy.trans hz.symm))
    have hl := h.vlen
    have e1 : ∀ x, x < n → (fv :: vs)[x + 1]? = some (vs.getD x nilS) := fun x hx => by simp [List.getD_eq_getElem?_getD, List.getElem?_eq_getElem (show x < vs.length by omega)]
    exact h.rows.ne (y + 1) (z + 1) _ _ b (by omega) (e1 y hyn) (e1 z hzn) hb
end
theorem firsts_inj {R : Nat → Nat} {n i j : Nat} (hi : i < (firsts R n).length) (hj : j < (firsts R n).length) (h : at_ (firsts R n) i = at_ (firsts R n) j) : i = j := by
  have hnd : (firsts R n).Nodup := List.nodup_range.filter _
  have e : ∀ k, (hk : k < (firsts R n).length) → at_ (firsts R n) k = (firsts R n)[k] := fun k hk => by simp [at_, List.getD_eq_getElem?_getD, List.getElem?_eq_getElem hk]
  rw [e i hi, e j hj] at h
  exact (List.getElem?_inj hi hnd).1 (by rw [List.getElem?_eq_getElem hi, List.getElem?_eq_getElem hj, h])
theorem picked_nodup {R : Nat → Nat} {n : Nat} {l : List Nat} (hl : ∀ x, x ∈ l → x < (firsts R n).length) (hnd : l.Nodup) : (l.map (at_ (firsts R n))).Nodup := by
  induction l with
  | nil => simp
  | cons a l ih =>
    obtain ⟨ha, hn⟩ := List.nodup_cons.1 hnd
    rw [List.map_cons, List.nodup_cons]
    refine ⟨fun hm => ?_, ih (fun x hx => hl x (by simp [hx])) hn⟩
    obtain ⟨x, hx, e⟩ := List.mem_map.1 hm
    have := firsts_inj (hl x (by simp [hx])) (hl a (by simp)) e
    subst this
    exact ha hx
/-- Where the edges stand, k of them written over. -/
structure Res5 (w wx : World) (B B1 n h PB : Nat) (r : List Nat) (fv : Value) (vs : List Value) (ps : List Int) (tv : Value) (T : List (Int × Int)) (k : Nat) : Prop where
  grp : Grp wx B B (B + 1) n n n (at_ r) fv vs
  heads : Blk wx h 3 (nats r)
  prio : Blk wx PB 3 (nums ps)
  ties : wx.ownsRow B1 67 2 tv T.length (cellsL encTwos ((numPairs (at_ r) T).take k ++ T.drop k))
  new : New w wx
theorem own_not_blk {w : World} {B n sz g : Nat} {t e : TypeId} {v : Value} {xs cs : List Value} (h : w.ownsRow B e sz v n xs) (hb : Blk w g t cs) (hne : t ≠ e) : v.ownBlock ≠ some g := fun he => by
  rcases h.2 with ⟨rfl, _⟩ | ⟨g', cap, cur, rfl, _, hh, _⟩
  · simp [Value.ownBlock] at he
  · simp [Value.ownBlock] at he
    subst he
    unfold Blk at hb
    rw [hb] at hh
    injection hh with hh
    injection hh with _ hh
    exact hne hh
theorem Res5.step {w wx : World} {B B1 n h PB gT tc : Nat} {r : List Nat} {fv : Value} {vs : List Value} {ps : List Int} {T : List (Int × Int)} {k : Nat} (H : Res5 w wx B B1 n h PB r fv vs ps (.slice (some ⟨gT, 0, none⟩) T.length tc) T k) (hB : w.heap.size ≤ B1) {q : Int × Int} (hq : T[k]? = some q) {a b : Int} (hab : (numPairs (at_ r) T)[k]? = some (a, b)) :
    Res5 w ((wx.setCell ⟨gT, k * 2, none⟩ (.int .i64 a)).setCell ⟨gT, k * 2 + 1, none⟩ (.int .i64 b)) B B1 n h PB r fv vs ps (.slice (some ⟨gT, 0, none⟩) T.length tc) T (k + 1) := by
  have hk := (List.getElem?_eq_some_iff.1 hq).1
  obtain ⟨g', cap', hv, h1, h2⟩ := H.ties.form (by omega)
  injection hv with hv
  injection hv with hv
  injection hv with hv
  subst hv
  have hm : Mod (· = gT) wx ((wx.setCell ⟨gT, k * 2, none⟩ (.int .i64 a)).setCell ⟨gT, k * 2 + 1, none⟩ (.int .i64 b)) := (((Mod.refl (· = gT) wx).set_ (fun _ => rfl) _).set_ (fun _ => rfl) _)
  have hgT : (Value.slice (some ⟨gT, 0, none⟩) T.length tc).ownBlock = some gT := rfl
  have hmix := mixed_at (numPairs_length (at_ r) T) hq
  refine ⟨H.grp.mod hm (fun v m xs b hv hb hS => ?_) (fun e => ?_) (fun e => ?_), H.heads.kept hm (fun e => ?_), H.prio.kept hm (fun e => ?_), ?_, ((H.new.set_ (fun h => by simp only at h; omega) _).set_ (fun h => by simp only at h; omega) _)⟩
  · subst hS
    rcases own_type_ne hv H.ties (by decide) with h3 | h3
    · rw [h3] at hb; cases hb
    · exact h3 (hb.trans hgT.symm)
  · exact H.grp.mg.ne_own H.ties (hgT.trans (by rw [e]))
  · exact H.grp.mn.ne_own H.ties (hgT.trans (by rw [e]))
  · exact own_not_blk H.ties H.heads (by decide) (hgT.trans (by rw [e]))
  · exact own_not_blk H.ties H.prio (by decide) (hgT.trans (by rw [e]))
  · have h3 := H.ties.stored (k * 2) (.int .i64 a)
    have h4 := (h3.1.stored (k * 2 + 1) (.int .i64 b)).1
    have e1 := cellsL_set (enc := encTwos) (sz := 2) encTwos_len _ k 0 q (a, q.2) hmix (by decide) (.int .i64 a) rfl
    rw [Nat.add_zero] at e1
    rw [e1] at h4
    have e2 := cellsL_set (enc := encTwos) (sz := 2) encTwos_len (((numPairs (at_ r) T).take k ++ T.drop k).set k (a, q.2)) k 1 (a, q.2) (a, b) (by rw [List.getElem?_set_self (List.getElem?_eq_some_iff.1 hmix).1]) (by decide) (.int .i64 b) rfl
    rw [e2, List.set_set, mixed_set (numPairs_length _ _) hab] at h4
    exact h4
theorem Res5.new_ {w wx wy : World} {B B1 n h PB : Nat} {r : List Nat} {fv tv : Value} {vs : List Value} {ps : List Int} {T : List (Int × Int)} {k : Nat} (H : Res5 w wx B B1 n h PB r fv vs ps tv T k) (hm : New wx wy) : Res5 w wy B B1 n h PB r fv vs ps tv T k :=
  ⟨H.grp.new_ hm, H.heads.new_ hm, H.prio.new_ hm, own_new H.ties hm, New.trans H.new hm⟩
theorem Res5.drewN {w wx : World} {B B1 n h PB : Nat} {r : List Nat} {fv tv : Value} {vs : List Value} {ps : List Int} {T : List (Int × Int)} {k : Nat} (H : Res5 w wx B B1 n h PB r fv vs ps tv T k) (m : Nat) : Res5 w (wx.drewN m) B B1 n h PB r fv vs ps tv T k :=
  ⟨H.grp.new_ ((Mod.refl _ _).drewN m), H.heads.drewN m, H.prio.drewN m, own_new H.ties ((Mod.refl _ _).drewN m), H.new.drewN m⟩
theorem Sl.ofBlk {w : World} {g : Nat} {t : TypeId} {xs : List Value} {n : Nat} (h : Blk w g t xs) (hl : xs.length = n) (hn : n ≤ 9223372036854775807) : Sl w (some ⟨g, 0, none⟩) n 1 xs :=
  ⟨by omega, hn, fun _ => ⟨g, 0, rfl, fun j u hu => by rw [h.cell, Nat.zero_add, hu]⟩⟩
end Go.Proofs.YtkkaejbdekdljaaDoor
