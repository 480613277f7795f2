/- Words: two stores and two of the document's, and the lists handed out, side by side in memory. -/
import Derived.Test.YtfifalopbfopnaaGreatDoorUl
import Derived.Test.YtfifalopbfopnaaGreatDoorUm
import Derived.Test.YtfifalopbfopnaaGreatDoorAKeys
set_option linter.unusedVariables false
set_option linter.unusedSimpArgs false
namespace Go.Proofs.YtfifalopbfopnaaGreatDoor
open Go.RowKit

/-- What stays: the world at the beginning; the two arrays; the stores' places and numbers of shards. -/
structure SysEnv where
  w0 : World
  b7 : Nat
  b8 : Nat
  m : Nat → Nat
  p : Nat → Nat
  q : Nat → Nat
def upd {α : Type} (f : Nat → α) (k : Nat) (x : α) : Nat → α := fun i => if i = k then x else f i
theorem upd_same {α : Type} (f : Nat → α) (k : Nat) (x : α) : upd f k x k = x := by simp [upd]
theorem upd_ne {α : Type} (f : Nat → α) {k i : Nat} (x : α) (h : i ≠ k) : upd f k x i = f i := by simp [upd, h]
/-- The parts: each block has one owner: 0, 1 the stores, 2, 3 the document's, 4 the arrays, 5 the list of lists, 6 the lists handed out. -/
structure Parts (E : SysEnv) (X : Nat → Lay) (R : Nat → RLay) (own : Nat → Nat) (s r : Nat → StS) (NS NR : Nat) (tv : Value) (vs : List Value) (ls : List (Nat × List Value)) (W : World) : Prop where
  new : New E.w0 W
  st : ∀ k, k < 2 → StoreAt W (X k) NS (s k)
  rf : ∀ k, k < 2 → RefAt W (R k) NR (E.m k) (r k)
  xp : ∀ k, k < 2 → (X k).s = E.p k ∧ (X k).bs.length = E.m k
  rp : ∀ k, k < 2 → (R k).s = E.q k
  blk7 : Blk W E.b7 26 [.pointer (some ⟨E.p 0, 0, none⟩), .pointer (some ⟨E.p 1, 0, none⟩)]
  blk8 : Blk W E.b8 29 [.pointer (some ⟨E.q 0, 0, none⟩), .pointer (some ⟨E.q 1, 0, none⟩)]
  tvo : W.ownsRow E.w0.heap.size 40 1 tv vs.length vs
  rows : RowsOf W E.w0.heap.size 33 2 vs ls
  lens : ∀ x, x ∈ ls → x.1 ≤ 1048576
  ox : ∀ k, k < 2 → ∀ b, Foot (X k) b → own b = k ∧ E.w0.heap.size ≤ b
  orf : ∀ k, k < 2 → ∀ b, RFoot (R k) b → own b = 2 + k ∧ E.w0.heap.size ≤ b
  o7 : own E.b7 = 4 ∧ E.w0.heap.size ≤ E.b7
  o8 : own E.b8 = 4 ∧ E.w0.heap.size ≤ E.b8
  ot : ∀ b, tv.ownBlock = some b → own b = 5
  ov : ∀ b, OwnS vs b → own b = 6
def Sys (E : SysEnv) (s r : Nat → StS) (NS NR : Nat) (tv : Value) (vs : List Value) (ls : List (Nat × List Value)) (W : World) : Prop := ∃ X R own, Parts E X R own s r NS NR tv vs ls W

section
variable {E : SysEnv} {X : Nat → Lay} {R : Nat → RLay} {own : Nat → Nat} {s r : Nat → StS} {NS NR : Nat} {tv : Value} {vs : List Value} {ls : List (Nat × List Value)} {W W' : World}
theorem Parts.new_ (h : Parts E X R own s r NS NR tv vs ls W) (hm : New W W') : Parts E X R own s r NS NR tv vs ls W' :=
  ⟨New.trans h.new hm, fun k hk => (h.st k hk).new_ hm, fun k hk => (h.rf k hk).new_ hm, h.xp, h.rp, h.blk7.new_ hm, h.blk8.new_ hm, own_new h.tvo hm, h.rows.new_ hm, h.lens, h.ox, h.orf, h.o7, h.o8, h.ot, h.ov⟩
theorem Sys.new_ (h : Sys E s r NS NR tv vs ls W) (hm : New W W') : Sys E s r NS NR tv vs ls W' := by
  obtain ⟨X, R, own, h⟩ := h
  exact ⟨X, R, own, h.new_ hm⟩
theorem Parts.mono (h : Parts E X R own s r NS NR tv vs ls W) {NS' NR' : Nat} (h1 : NS ≤ NS') (h2 : NR ≤ NR') (h3 : NS' ≤ 1048576) (h4 : NR' ≤ 1048576) : Parts E X R own s r NS' NR' tv vs ls W :=
  ⟨h.new, fun k hk => (h.st k hk).mono h1 h3, fun k hk => (h.rf k hk).mono h2 h4, h.xp, h.rp, h.blk7, h.blk8, h.tvo, h.rows, h.lens, h.ox, h.orf, h.o7, h.o8, h.ot, h.ov⟩
theorem Sys.mono (h : Sys E s r NS NR tv vs ls W) {NS' NR' : Nat} (h1 : NS ≤ NS') (h2 : NR ≤ NR') (h3 : NS' ≤ 1048576) (h4 : NR' ≤ 1048576) : Sys E s r NS' NR' tv vs ls W := by
  obtain ⟨X, R, own, h⟩ := h
  exact ⟨X, R, own, h.mono h1 h2 h3 h4⟩
theorem Parts.vs_lt (h : Parts E X R own s r NS NR tv vs ls W) {b : Nat} (hb : OwnS vs b) : b < W.heap.size := (h.rows.owns hb).2.1
/-- A store has been written. -/
theorem Parts.ask (h : Parts E X R own s r NS NR tv vs ls W) {k : Nat} (hk : k < 2) {NS' : Nat} {st' : StS} (hN : NS ≤ NS') (hN' : NS' ≤ 1048576) (hs : Step W (X k) NS' st' W') : Sys E (upd s k st') r NS' NR tv vs ls W' := by
  obtain ⟨L', h1, h2, h3, h4, h5⟩ := hs
  have hsz : ∀ {b : Nat}, b < W.heap.size → (fun b => if b < W.heap.size then own b else k) b = own b := fun {b} hb => by simp [hb]
  have hno : ∀ b, own b ≠ k → ¬ Foot (X k) b := fun b hb hf => hb (h.ox k hk b hf).1
  refine ⟨upd X k L', R, fun b => if b < W.heap.size then own b else k, ?_⟩
  have hkne : ∀ i, i < 2 → i ≠ k → ∀ b, Foot (X i) b → ¬ Foot (X k) b := fun i hi hik b hb => hno b (by rw [(h.ox i hi b hb).1]; exact hik)
  exact {
    new := Mod.trans h.new h4 (fun b hb hf => by have := (h.ox k hk b hf).2; omega)
    st := fun i hi => by
      by_cases e : i = k
      · subst e; rw [upd_same, upd_same]; exact h3
      · rw [upd_ne _ _ e, upd_ne _ _ e]; exact ((h.st i hi).mod h4 (hkne i hi e)).mono hN hN'
    rf := fun i hi => (h.rf i hi).mod h4 (fun b hb => hno b (by rw [(h.orf i hi b hb).1]; omega))
    xp := fun i hi => by
      by_cases e : i = k
      · subst e; rw [upd_same, h1, h2]; exact h.xp i hi
      · rw [upd_ne _ _ e]; exact h.xp i hi
    rp := h.rp
    blk7 := h.blk7.kept h4 (hno _ (by rw [h.o7.1]; omega))
    blk8 := h.blk8.kept h4 (hno _ (by rw [h.o8.1]; omega))
    tvo := own_mod' h.tvo h4 (fun b hb => hno b (by rw [h.ot b hb]; omega))
    rows := h.rows.kept h4 (fun i v b hv hb => hno b (by rw [h.ov b ⟨i, v, hv, hb⟩]; omega))
    lens := h.lens
    ox := fun i hi b hb => by
      by_cases e : i = k
      · subst e
        rw [upd_same] at hb
        by_cases hlt : b < W.heap.size
        · rcases h5 b hb with hf | hf
          · simp only [hlt, if_true]; exact h.ox i hi b hf
          · omega
        · simp only [hlt, if_false]; exact ⟨trivial, by have := h.new.size; omega⟩
      · rw [upd_ne _ _ e] at hb
        have hlt := (h.st i hi).foot_lt hb
        simp only [hlt, if_true]; exact h.ox i hi b hb
    orf := fun i hi b hb => by
      have hlt := (h.rf i hi).foot_lt hb
      simp only [hlt, if_true]; exact h.orf i hi b hb
    o7 := by simp only [h.blk7.lt, if_true]; exact h.o7
    o8 := by simp only [h.blk8.lt, if_true]; exact h.o8
    ot := fun b hb => by
      have hlt := (h.tvo.lt b hb).2
      simp only [hlt, if_true]; exact h.ot b hb
    ov := fun b hb => by
      have hlt := h.vs_lt hb
      simp only [hlt, if_true]; exact h.ov b hb }
/-- One of the document's has been written. -/
theorem Parts.tell (h : Parts E X R own s r NS NR tv vs ls W) {k : Nat} (hk : k < 2) {NR' : Nat} {st' : StS} (hN : NR ≤ NR') (hN' : NR' ≤ 1048576) (hs : RStep W (R k) NR' (E.m k) st' W') : Sys E s (upd r k st') NS NR' tv vs ls W' := by
  obtain ⟨R', h1, h3, h4, h5⟩ := hs
  have hno : ∀ b, own b ≠ 2 + k → ¬ RFoot (R k) b := fun b hb hf => hb (h.orf k hk b hf).1
  refine ⟨X, upd R k R', fun b => if b < W.heap.size then own b else 2 + k, ?_⟩
  exact {
    new := Mod.trans h.new h4 (fun b hb hf => by have := (h.orf k hk b hf).2; omega)
    st := fun i hi => (h.st i hi).mod h4 (fun b hb => hno b (by rw [(h.ox i hi b hb).1]; omega))
    rf := fun i hi => by
      by_cases e : i = k
      · subst e; rw [upd_same, upd_same]; exact h3
      · rw [upd_ne _ _ e, upd_ne _ _ e]; exact ((h.rf i hi).mod h4 (fun b hb => hno b (by rw [(h.orf i hi b hb).1]; omega))).mono hN hN'
    xp := h.xp
    rp := fun i hi => by
      by_cases e : i = k
      · subst e; rw [upd_same, h1]; exact h.rp i hi
      · rw [upd_ne _ _ e]; exact h.rp i hi
    blk7 := h.blk7.kept h4 (hno _ (by rw [h.o7.1]; omega))
    blk8 := h.blk8.kept h4 (hno _ (by rw [h.o8.1]; omega))
    tvo := own_mod' h.tvo h4 (fun b hb => hno b (by rw [h.ot b hb]; omega))
    rows := h.rows.kept h4 (fun i v b hv hb => hno b (by rw [h.ov b ⟨i, v, hv, hb⟩]; omega))
    lens := h.lens
    ox := fun i hi b hb => by
      have hlt := (h.st i hi).foot_lt hb
      simp only [hlt, if_true]; exact h.ox i hi b hb
    orf := fun i hi b hb => by
      by_cases e : i = k
      · subst e
        rw [upd_same] at hb
        by_cases hlt : b < W.heap.size
        · rcases h5 b hb with hf | hf
          · simp only [hlt, if_true]; exact h.orf i hi b hf
          · omega
        · simp only [hlt, if_false]; exact ⟨trivial, by have := h.new.size; omega⟩
      · rw [upd_ne _ _ e] at hb
        have hlt := (h.rf i hi).foot_lt hb
        simp only [hlt, if_true]; exact h.orf i hi b hb
    o7 := by simp only [h.blk7.lt, if_true]; exact h.o7
    o8 := by simp only [h.blk8.lt, if_true]; exact h.o8
    ot := fun b hb => by
      have hlt := (h.tvo.lt b hb).2
      simp only [hlt, if_true]; exact h.ot b hb
    ov := fun b hb => by
      have hlt := h.vs_lt hb
      simp only [hlt, if_true]; exact h.ov b hb }
/-- The lists handed out have been written over. -/
theorem Parts.apart (h : Parts E X R own s r NS NR tv vs ls W) (hm : Mod (OwnS vs) W W') : New E.w0 W' ∧ (∀ k, k < 2 → StoreAt W' (X k) NS (s k)) ∧ (∀ k, k < 2 → RefAt W' (R k) NR (E.m k) (r k)) ∧
    Blk W' E.b7 26 [.pointer (some ⟨E.p 0, 0, none⟩), .pointer (some ⟨E.p 1, 0, none⟩)] ∧ Blk W' E.b8 29 [.pointer (some ⟨E.q 0, 0, none⟩), .pointer (some ⟨E.q 1, 0, none⟩)] := by
  have hno : ∀ b, own b ≠ 6 → ¬ OwnS vs b := fun b hb hf => hb (h.ov b hf)
  refine ⟨Mod.trans h.new hm (fun b hb hf => by have := (h.rows.owns hf).1; omega), fun k hk => (h.st k hk).mod hm (fun b hb => hno b (by rw [(h.ox k hk b hb).1]; omega)), fun k hk => (h.rf k hk).mod hm (fun b hb => hno b (by rw [(h.orf k hk b hb).1]; omega)), h.blk7.kept hm (hno _ (by rw [h.o7.1]; omega)), h.blk8.kept hm (hno _ (by rw [h.o8.1]; omega))⟩

/-- Two lists more have been handed out. -/
theorem Parts.told {W3 w4 : World} {v1 v2 tv' : Value} {n1 n2 : Nat} {xs1 xs2 : List Value} (h : Parts E X R own s r NS NR tv vs ls W) (hm : New W W3) (h1 : W3.ownsRow W.heap.size 33 2 v1 n1 xs1) (h2 : W3.ownsRow W.heap.size 33 2 v2 n2 xs2)
    (hne : ∀ b, v1.ownBlock = some b → v2.ownBlock ≠ some b) (hb1 : n1 ≤ 1048576) (hb2 : n2 ≤ 1048576) (hg : W3.grownBy w4 tv.ownBlock) (hown : w4.ownsRow E.w0.heap.size 40 1 tv' (vs.length + 2) (vs ++ [v1, v2])) (hat : tv'.ownBlock = tv.ownBlock ∨ tv'.ownBlock = some W3.heap.size) :
    Sys E s r NS NR tv' (vs ++ [v1, v2]) (ls ++ [(n1, xs1), (n2, xs2)]) w4 := by
  have hm4 : Mod (fun b => tv.ownBlock = some b) W3 w4 := Mod.of_grown (S := fun b => tv.ownBlock = some b) hg (fun _ h => h)
  have hmw : Mod (fun b => tv.ownBlock = some b) W w4 := Mod.trans (Mod.mono hm (fun _ _ h => h.elim)) hm4 (fun _ _ h => h)
  have hno : ∀ b, own b ≠ 5 → ¬ (tv.ownBlock = some b) := fun b hb hf => hb (h.ot b hf)
  have htl : ∀ b, tv.ownBlock = some b → b < W.heap.size := fun b hb => (h.tvo.lt b hb).2
  have hge := h.new.size
  have l1 : ∀ b, v1.ownBlock = some b → W.heap.size ≤ b ∧ b < W3.heap.size := fun b hb => h1.lt b hb
  have l2 : ∀ b, v2.ownBlock = some b → W.heap.size ≤ b ∧ b < W3.heap.size := fun b hb => h2.lt b hb
  have hll := h.rows.len
  have hcase : ∀ (i : Nat) (v : Value), (vs ++ [v1, v2])[i]? = some v → vs[i]? = some v ∨ (i = vs.length ∧ v = v1) ∨ (i = vs.length + 1 ∧ v = v2) := fun i v hv => by
    by_cases hi : i < vs.length
    · rw [List.getElem?_append_left hi] at hv; exact .inl hv
    · rw [List.getElem?_append_right (by omega)] at hv
      have : i - vs.length = 0 ∨ i - vs.length = 1 := by have := (List.getElem?_eq_some_iff.1 hv).1; simp at this; omega
      rcases this with e | e
      · rw [e] at hv; simp at hv; exact .inr (.inl ⟨by omega, hv.symm⟩)
      · rw [e] at hv; simp at hv; exact .inr (.inr ⟨by omega, hv.symm⟩)
  have hold : ∀ (i : Nat) (v : Value) (b : Nat), vs[i]? = some v → v.ownBlock = some b → own b = 6 ∧ b < W.heap.size := fun i v b hv hb => ⟨h.ov b ⟨i, v, hv, hb⟩, h.vs_lt ⟨i, v, hv, hb⟩⟩
  have o1 : w4.ownsRow E.w0.heap.size 33 2 v1 n1 xs1 := own_mono (own_mod' h1 hm4 (fun b hb e => by have := (l1 b hb).1; have := htl b e; omega)) hge
  have o2 : w4.ownsRow E.w0.heap.size 33 2 v2 n2 xs2 := own_mono (own_mod' h2 hm4 (fun b hb e => by have := (l2 b hb).1; have := htl b e; omega)) hge
  refine ⟨X, R, fun b => if b < W.heap.size then own b else if v1.ownBlock = some b ∨ v2.ownBlock = some b then 6 else 5, ?_⟩
  exact {
    new := Mod.trans h.new hmw (fun b hb hf => by have := (h.tvo.lt b hf).1; omega)
    st := fun i hi => (h.st i hi).mod hmw (fun b hb => hno b (by rw [(h.ox i hi b hb).1]; omega))
    rf := fun i hi => (h.rf i hi).mod hmw (fun b hb => hno b (by rw [(h.orf i hi b hb).1]; omega))
    xp := h.xp
    rp := h.rp
    blk7 := h.blk7.kept hmw (hno _ (by rw [h.o7.1]; omega))
    blk8 := h.blk8.kept hmw (hno _ (by rw [h.o8.1]; omega))
    tvo := by rw [List.length_append]; exact hown
    rows := by
      refine ⟨by simp [hll], fun i v x hv hx => ?_, fun i j v u b hij hv hu hb => ?_⟩
      · rcases hcase i v hv with hv | ⟨rfl, rfl⟩ | ⟨rfl, rfl⟩
        · have hi := (List.getElem?_eq_some_iff.1 hv).1
          rw [List.getElem?_append_left (by omega)] at hx
          exact own_mod' (h.rows.own i v x hv hx) hmw (fun b hb => hno b (by rw [(hold i v b hv hb).1]; omega))
        · rw [List.getElem?_append_right (by omega), hll, Nat.sub_self] at hx
          simp at hx; subst hx; exact o1
        · rw [List.getElem?_append_right (by omega), hll, Nat.add_sub_cancel_left] at hx
          simp at hx; subst hx; exact o2
      · rcases hcase i v hv with hv' | ⟨rfl, rfl⟩ | ⟨rfl, rfl⟩
        · rcases hcase j u hu with hu' | ⟨rfl, rfl⟩ | ⟨rfl, rfl⟩
          · exact h.rows.ne i j v u b hij hv' hu' hb
          · intro e; have := (hold i v b hv' hb).2; have := (l1 b e).1; omega
          · intro e; have := (hold i v b hv' hb).2; have := (l2 b e).1; omega
        · rcases hcase j u hu with hu' | ⟨rfl, rfl⟩ | ⟨rfl, rfl⟩
          · intro e; have := (hold j u b hu' e).2; have := (l1 b hb).1; omega
          · exact absurd rfl hij
          · exact hne b hb
        · rcases hcase j u hu with hu' | ⟨rfl, rfl⟩ | ⟨rfl, rfl⟩
          · intro e; have := (hold j u b hu' e).2; have := (l2 b hb).1; omega
          · intro e; exact hne b e hb
          · exact absurd rfl hij
    lens := fun x hx => by
      rcases List.mem_append.1 hx with hx | hx
      · exact h.lens x hx
      · simp at hx; rcases hx with rfl | rfl
        · exact hb1
        · exact hb2
    ox := fun i hi b hb => by
      have hlt := (h.st i hi).foot_lt hb
      simp only [hlt, if_true]; exact h.ox i hi b hb
    orf := fun i hi b hb => by
      have hlt := (h.rf i hi).foot_lt hb
      simp only [hlt, if_true]; exact h.orf i hi b hb
    o7 := by simp only [h.blk7.lt, if_true]; exact h.o7
    o8 := by simp only [h.blk8.lt, if_true]; exact h.o8
    ot := fun b hb => by
      rcases hat with e | e
      · rw [e] at hb
        simp only [htl b hb, if_true]; exact h.ot b hb
      · rw [e] at hb
        injection hb with hb
        subst hb
        have hnl : ¬ W3.heap.size < W.heap.size := by have := hm.size; omega
        have hn1 : ¬ (v1.ownBlock = some W3.heap.size ∨ v2.ownBlock = some W3.heap.size) := by
          rintro (e | e)
          · have := (l1 _ e).2; omega
          · have := (l2 _ e).2; omega
        simp only [hnl, hn1, if_false]
    ov := fun b hb => by
      obtain ⟨i, v, hv, hb⟩ := hb
      rcases hcase i v hv with hv | ⟨rfl, rfl⟩ | ⟨rfl, rfl⟩
      · obtain ⟨k1, k2⟩ := hold i v b hv hb
        simp only [k2, if_true]; exact k1
      · have hnl : ¬ b < W.heap.size := by have := (l1 b hb).1; omega
        simp only [hnl, if_false, hb, true_or, if_true]
      · have hnl : ¬ b < W.heap.size := by have := (l2 b hb).1; omega
        simp only [hnl, if_false, hb, or_true, if_true] }
end
def two {α : Type} (x y : α) : Nat → α := fun k => if k = 0 then x else y
/-- At the beginning. -/
theorem Sys.start {w w1 w2 w3 w4 : World} {L0 L1 : Lay} {R0 R1 : RLay} {m0 m1 : Nat} (h1 : StoreAt w1 L0 0 stNew) (n1 : New w w1) (f1 : ∀ b, Foot L0 b → w.heap.size ≤ b) (e1 : L0.bs.length = m0)
    (h2 : StoreAt w2 L1 0 stNew) (n2 : New w1 w2) (f2 : ∀ b, Foot L1 b → w1.heap.size ≤ b) (e2 : L1.bs.length = m1)
    (h3 : RefAt w3 R0 0 m0 stNew) (n3 : New (w2.alloc (.cells #[.pointer (some ⟨L0.s, 0, none⟩), .pointer (some ⟨L1.s, 0, none⟩)] 26)) w3) (f3 : ∀ b, RFoot R0 b → w2.heap.size + 1 ≤ b)
    (h4 : RefAt w4 R1 0 m1 stNew) (n4 : New w3 w4) (f4 : ∀ b, RFoot R1 b → w3.heap.size ≤ b) :
    Sys ⟨w, w2.heap.size, w4.heap.size, two m0 m1, two L0.s L1.s, two R0.s R1.s⟩ (fun _ => stNew) (fun _ => stNew) 0 0 (.slice none 0 0) [] [] (w4.alloc (.cells #[.pointer (some ⟨R0.s, 0, none⟩), .pointer (some ⟨R1.s, 0, none⟩)] 29)) := by
  have s1 := n1.size
  have s2 := n2.size
  have s3 := n3.size
  simp only [World.size_alloc] at s3
  have s4 := n4.size
  have a7 : New w2 (w2.alloc (.cells #[.pointer (some ⟨L0.s, 0, none⟩), .pointer (some ⟨L1.s, 0, none⟩)] 26)) := (Mod.refl _ _).alloc _
  have a8 : New w4 (w4.alloc (.cells #[.pointer (some ⟨R0.s, 0, none⟩), .pointer (some ⟨R1.s, 0, none⟩)] 29)) := (Mod.refl _ _).alloc _
  have n24 := New.trans (New.trans (New.trans a7 n3) n4) a8
  have l1 := fun b (hb : Foot L0 b) => h1.foot_lt hb
  have l2 := fun b (hb : Foot L1 b) => h2.foot_lt hb
  have l3 := fun b (hb : RFoot R0 b) => h3.foot_lt hb
  have l4 := fun b (hb : RFoot R1 b) => h4.foot_lt hb
  refine ⟨two L0 L1, two R0 R1, fun b => if b < w1.heap.size then 0 else if b < w2.heap.size then 1 else if b = w2.heap.size then 4 else if b < w3.heap.size then 2 else if b < w4.heap.size then 3 else 4, ?_⟩
  exact {
    new := New.trans (New.trans n1 n2) n24
    st := fun k hk => by
      rcases (show k = 0 ∨ k = 1 by omega) with rfl | rfl
      · exact (h1.new_ n2).new_ n24
      · exact h2.new_ n24
    rf := fun k hk => by
      rcases (show k = 0 ∨ k = 1 by omega) with rfl | rfl
      · exact (h3.new_ n4).new_ a8
      · exact h4.new_ a8
    xp := fun k hk => by
      rcases (show k = 0 ∨ k = 1 by omega) with rfl | rfl
      · exact ⟨rfl, e1⟩
      · exact ⟨rfl, e2⟩
    rp := fun k hk => by
      rcases (show k = 0 ∨ k = 1 by omega) with rfl | rfl <;> rfl
    blk7 := (Blk.new w2 _ _).new_ (New.trans (New.trans n3 n4) a8)
    blk8 := Blk.new w4 _ _
    tvo := own_nil _ _ _ _
    rows := ⟨rfl, fun i v x hv => by simp at hv, fun i j v u b _ hv => by simp at hv⟩
    lens := fun x hx => by cases hx
    ox := fun k hk b hb => by
      rcases (show k = 0 ∨ k = 1 by omega) with rfl | rfl
      · have hb' : Foot L0 b := hb
        have := l1 b hb'
        have := f1 b hb'
        exact ⟨by simp [this, show b < w1.heap.size from by omega], this⟩
      · have hb' : Foot L1 b := hb
        have h1 := l2 b hb'
        have h2 := f2 b hb'
        exact ⟨by simp [show ¬ b < w1.heap.size from by omega, h1], by show w.heap.size ≤ b; omega⟩
    orf := fun k hk b hb => by
      rcases (show k = 0 ∨ k = 1 by omega) with rfl | rfl
      · have hb' : RFoot R0 b := hb
        have h1 := l3 b hb'
        have h2 := f3 b hb'
        exact ⟨by simp [show ¬ b < w1.heap.size from by omega, show ¬ b < w2.heap.size from by omega, show ¬ b = w2.heap.size from by omega, h1], by show w.heap.size ≤ b; omega⟩
      · have hb' : RFoot R1 b := hb
        have h1 := l4 b hb'
        have h2 := f4 b hb'
        exact ⟨by simp [show ¬ b < w1.heap.size from by omega, show ¬ b < w2.heap.size from by omega, show ¬ b = w2.heap.size from by omega, show ¬ b < w3.heap.size from by omega, h1], by show w.heap.size ≤ b; omega⟩
    o7 := ⟨by simp [show ¬ w2.heap.size < w1.heap.size from by omega], by show w.heap.size ≤ w2.heap.size; omega⟩
    o8 := ⟨by simp [show ¬ w4.heap.size < w1.heap.size from by omega, show ¬ w4.heap.size < w2.heap.size from by omega, show ¬ w4.heap.size < w3.heap.size from by omega], by show w.heap.size ≤ w4.heap.size; omega⟩
    ot := fun b hb => by simp [Value.ownBlock] at hb
    ov := fun b hb => by obtain ⟨i, v, hv, _⟩ := hb; simp at hv }
end Go.Proofs.YtfifalopbfopnaaGreatDoor
