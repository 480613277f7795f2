/- Words: a store behind a call that writes. -/
import Derived.Test.YtfifalopbfopnaaGreatDoorVk
set_option linter.unusedVariables false
set_option linter.unusedSimpArgs false
namespace Go.Proofs.YtfifalopbfopnaaGreatDoor
open Go.RowKit Go.Maps

theorem setRow_some {α : Type} {rs : RowsV α} {k : Key2} {j : Nat} {l : List (Int × α)} (hj : rowIdx rs k = some j) : setRow rs k l = rs.set j (k, l) := by unfold setRow; rw [hj]
theorem setRow_none {α : Type} {rs : RowsV α} {k : Key2} {l : List (Int × α)} (hj : rowIdx rs k = none) : setRow rs k l = rs ++ [(k, l)] := by unfold setRow; rw [hj]
theorem shardM_set {α : Type} {cs : List (Nat × Value)} {rs : RowsV α} {m i j : Nat} {k : Key2} {p : Nat × Value} {v : Value} {l : List (Int × α)} (hj : rowIdx rs k = some j) (hp : cs[j]? = some p) :
    shardM (cs.set j (p.1, v)) (rs.set j (k, l)) m i = shardM cs rs m i := by
  funext x
  unfold shardM
  rw [rowIdx_set hj]
  split
  · cases rowIdx rs x with
    | none => rfl
    | some y =>
      simp only
      by_cases e : y = j
      · subst e
        rw [List.getElem?_set_self (List.getElem?_eq_some_iff.1 hp).1, hp]; rfl
      · rw [List.getElem?_set_ne (Ne.symm e)]
  · rfl
theorem shardM_add {α : Type} {cs : List (Nat × Value)} {rs : RowsV α} {m i : Nat} {k : Key2} {p : Nat × Value} {l : List (Int × α)} (hj : rowIdx rs k = none) (hl : cs.length = rs.length) :
    shardM (cs ++ [p]) (rs ++ [(k, l)]) m i = if shardN k (m : Int) = i then updO (shardM cs rs m i) k (some (.pointer (some ⟨p.1, 0, none⟩))) else shardM cs rs m i := by
  funext x
  by_cases e : x = k
  · subst e
    unfold shardM
    rw [rowIdx_append, hj]
    simp only [if_true]
    split
    · rename_i h
      simp only [updO, if_true]
      rw [List.getElem?_append_right (by omega), hl, Nat.sub_self]; rfl
    · rename_i h
      simp only [if_neg h]
  · have h1 : shardM (cs ++ [p]) (rs ++ [(k, l)]) m i x = shardM cs rs m i x := by
      unfold shardM
      rw [rowIdx_append]
      split
      · cases hx : rowIdx rs x with
        | some y =>
          simp only
          rw [List.getElem?_append_left (by rw [hl]; exact rowIdx_lt hx)]
        | none => simp only; rw [if_neg (Ne.symm e)]
      · rfl
    rw [h1]
    split
    · simp [updO, e]
    · rfl

/-- What a call that writes a store leaves. -/
def Step (w : World) (L : Lay) (N : Nat) (st : StS) (w' : World) : Prop :=
  ∃ L', L'.s = L.s ∧ L'.bs = L.bs ∧ StoreAt w' L' N st ∧ Mod (Foot L) w w' ∧ ∀ b, Foot L' b → Foot L b ∨ w.heap.size ≤ b
theorem Step.new_ {w w' w'' : World} {L : Lay} {N : Nat} {st : StS} (h : Step w L N st w') (hm : New w' w'') : Step w L N st w'' := by
  obtain ⟨L', h1, h2, h3, h4, h5⟩ := h
  exact ⟨L', h1, h2, h3.new_ hm, Mod.trans h4 hm (fun _ _ h => h.elim), h5⟩
theorem Step.of_new {w w' w'' : World} {L : Lay} {N : Nat} {st : StS} (hm : New w w') (h : Step w' L N st w'') : Step w L N st w'' := by
  obtain ⟨L', h1, h2, h3, h4, h5⟩ := h
  refine ⟨L', h1, h2, h3, Mod.trans (Mod.mono hm (fun _ _ h => h.elim)) h4 (fun _ _ h => h), fun b hb => ?_⟩
  rcases h5 b hb with h | h
  · exact .inl h
  · exact .inr (Nat.le_trans hm.size h)
theorem Step.same {w w' : World} {L : Lay} {N : Nat} {st : StS} (h : StoreAt w L N st) (hm : New w w') : Step w L N st w' :=
  ⟨L, rfl, rfl, h.new_ hm, Mod.mono hm (fun _ _ h => h.elim), fun b hb => .inl hb⟩
theorem Step.mono {w w' : World} {L : Lay} {N N' : Nat} {st : StS} (h : Step w L N st w') (hn : N ≤ N') (hb : N' ≤ 1048576) : Step w L N' st w' := by
  obtain ⟨L', h1, h2, h3, h4, h5⟩ := h
  exact ⟨L', h1, h2, h3.mono hn hb, h4, h5⟩

theorem ChainAt.ne_blk {w : World} {B c g : Nat} {v : Value} {l : VersS} {t : TypeId} {cs : List Value} (h : ChainAt w B c v l) (hb : Blk w g t cs) (h1 : t ≠ 121) (h2 : t ≠ 133) : ¬ ChainF c v g := by
  rintro (rfl | hv)
  · exact hb.ne_ h.blk h1 rfl
  · exact own_ne_blk h.own hb h2 hv
theorem ChainAt.ne_map {K : Type} {k : TypeId} {enc : K → Value} {w : World} {B c b n : Nat} {v : Value} {l : VersS} {M : K → Option Value} (h : ChainAt w B c v l) (hb : MapO k enc w b n M) : ¬ ChainF c v b := by
  rintro (rfl | hv)
  · exact hb.not_blk h.blk rfl
  · exact hb.ne_own h.own hv
theorem ChainsAt.disj {w : World} {cs : List (Nat × Value)} {rs : RowsV ByteArray} (h : ChainsAt w cs rs) {i j : Nat} {p q : Nat × Value} (hi : cs[i]? = some p) (hj : cs[j]? = some q) (hij : i ≠ j) {b : Nat} (hb : ChainF p.1 p.2 b) : ¬ ChainF q.1 q.2 b := by
  have hil : i < rs.length := by rw [← h.len]; exact (List.getElem?_eq_some_iff.1 hi).1
  have hjl : j < rs.length := by rw [← h.len]; exact (List.getElem?_eq_some_iff.1 hj).1
  have c1 := h.at_ i p _ hi (List.getElem?_eq_getElem hil)
  have c2 := h.at_ j q _ hj (List.getElem?_eq_getElem hjl)
  rcases hb with rfl | hb
  · rintro (e | e)
    · exact h.capart i j p q hi hj hij e
    · exact own_ne_blk c2.own c1.blk (by decide) e
  · rintro (e | e)
    · subst e; exact own_ne_blk c1.own c2.blk (by decide) hb
    · exact h.vapart i j p q hi hj hij b hb e
/-- A key's chain has changed. -/
theorem StoreAt.upd_chain {w w' : World} {L : Lay} {N N' j : Nat} {st : StS} {k : Key2} {p : Nat × Value} {v' : Value} {l' : VersS} (h : StoreAt w L N st) (hj : rowIdx st.rows k = some j) (hp : L.cs[j]? = some p)
    (hm : Mod (ChainF p.1 p.2) w w') (hc : ChainAt w' 0 p.1 v' l') (hv : v'.ownBlock = p.2.ownBlock ∨ ∃ b, v'.ownBlock = some b ∧ w.heap.size ≤ b) (hr : Rising l') (hn0 : l' ≠ []) (hl : l'.length ≤ N') (hN : N ≤ N') (hN' : N' ≤ 1048576) :
    Step w L N' { st with rows := setRow st.rows k l' } w' := by
  obtain ⟨q, hq, hch, _, _, hrow⟩ := h.chain hj
  rw [hp] at hq
  injection hq with hq
  subst hq
  have hjl := (List.getElem?_eq_some_iff.1 hp).1
  have hlow : ∀ (i : Nat) (q : Nat × Value) (b : Nat), L.cs[i]? = some q → ChainF q.1 q.2 b → b < w.heap.size := fun i q b hq hb => h.foot_lt (.inr (.inr (.inr (.inr ⟨i, q, hq, hb⟩))))
  refine ⟨{ L with cs := L.cs.set j (p.1, v') }, rfl, rfl, ?_, ?_, ?_⟩
  · refine {
      blk := h.blk.kept hm (hch.ne_blk h.blk (by decide) (by decide))
      gblk := h.gblk.kept hm (hch.ne_blk h.gblk (by decide) (by decide))
      m1 := h.m1
      maps := fun i b hb => by
        have hb' : L.bs[i]? = some b := hb
        have := (h.maps i b hb').mod hm (hch.ne_map (h.maps i b hb'))
        rw [setRow_some hj]
        show MapO 33 keyVal w' b N' (shardM (L.cs.set j (p.1, v')) (st.rows.set j (k, l')) L.bs.length i)
        rw [shardM_set hj hp]
        exact this.mono hN
      bnodup := h.bnodup
      rmap := (h.rmap.mod hm (hch.ne_map h.rmap)).mono hN
      rbs := h.rbs
      chains := ?ch
      ok := setRow_ok h.ok hr hn0
      vers := fun x hx => by
        rw [setRow_some hj] at hx
        rcases List.mem_or_eq_of_mem_set hx with hx | hx
        · exact Nat.le_trans (h.vers x hx) hN
        · subst hx; exact hl
      rowsN := by rw [setRow_some hj]; simpa using Nat.le_trans h.rowsN hN
      readN := Nat.le_trans h.readN hN
      bigN := hN' }
    show ChainsAt w' (L.cs.set j (p.1, v')) (setRow st.rows k l')
    rw [setRow_some hj]
    have hother : ∀ (i : Nat) (q : Nat × Value), i ≠ j → (L.cs.set j (p.1, v'))[i]? = some q → L.cs[i]? = some q := fun i q hij hq => by rwa [List.getElem?_set_ne (Ne.symm hij)] at hq
    have hat : ∀ (q : Nat × Value), (L.cs.set j (p.1, v'))[j]? = some q → q = (p.1, v') := fun q hq => by
      rw [List.getElem?_set_self hjl] at hq
      injection hq with hq; exact hq.symm
    refine ⟨by simp [h.chains.len], fun i q x hq hx => ?_, fun a b q r hq hr hab => ?_, fun a b q r hq hr hab blk hqb => ?_⟩
    · by_cases hij : i = j
      · subst hij
        rw [hat q hq]
        rw [List.getElem?_set_self (by rw [← h.chains.len]; exact hjl)] at hx
        injection hx with hx
        subst hx
        exact hc
      · have hq2 := hother i q hij hq
        rw [List.getElem?_set_ne (Ne.symm hij)] at hx
        have h1 := h.chains.at_ i q x hq2 hx
        exact ⟨h1.blk.kept hm (h.chains.disj hq2 hp hij (.inl rfl)), own_mod' h1.own hm (fun b hb => h.chains.disj hq2 hp hij (.inr hb))⟩
    · by_cases ha : a = j
      · subst ha
        rw [hat q hq]
        exact h.chains.capart a b p r hp (hother b r (Ne.symm hab) hr) hab
      · by_cases hb : b = j
        · subst hb
          rw [hat r hr]
          exact h.chains.capart a b q p (hother a q ha hq) hp hab
        · exact h.chains.capart a b q r (hother a q ha hq) (hother b r hb hr) hab
    · by_cases ha : a = j
      · subst ha
        rw [hat q hq] at hqb
        have hr2 := hother b r (Ne.symm hab) hr
        rcases hv with hv | ⟨g, hg, hge⟩
        · exact h.chains.vapart a b p r hp hr2 hab blk (by rw [← hv]; exact hqb)
        · intro e
          rw [hg] at hqb
          injection hqb with hqb
          subst hqb
          have := hlow b r g hr2 (.inr e)
          omega
      · by_cases hb : b = j
        · subst hb
          rw [hat r hr]
          have hq2 := hother a q ha hq
          rcases hv with hv | ⟨g, hg, hge⟩
          · rw [hv]; exact h.chains.vapart a b q p hq2 hp hab blk hqb
          · rw [hg]
            intro e
            injection e with e
            subst e
            have := hlow a q g hq2 (.inr hqb)
            omega
        · exact h.chains.vapart a b q r (hother a q ha hq) (hother b r hb hr) hab blk hqb
  · exact Mod.mono hm (fun b _ hb => .inr (.inr (.inr (.inr ⟨j, p, hp, hb⟩))))
  · rintro b (hb | hb | hb | hb | ⟨i, q, hq, hb⟩)
    · exact .inl (.inl hb)
    · exact .inl (.inr (.inl hb))
    · exact .inl (.inr (.inr (.inl hb)))
    · exact .inl (.inr (.inr (.inr (.inl hb))))
    · have hq' : (L.cs.set j (p.1, v'))[i]? = some q := hq
      by_cases hij : i = j
      · subst hij
        rw [List.getElem?_set_self hjl] at hq'
        injection hq' with hq'
        subst hq'
        rcases hb with rfl | hb
        · exact .inl (.inr (.inr (.inr (.inr ⟨i, p, hp, .inl rfl⟩))))
        · rcases hv with hv | ⟨g, hg, hge⟩
          · exact .inl (.inr (.inr (.inr (.inr ⟨i, p, hp, .inr (by rw [← hv]; exact hb)⟩))))
          · have e : v'.ownBlock = some b := hb
            rw [hg] at e
            injection e with e
            subst e
            exact .inr hge
      · rw [List.getElem?_set_ne (Ne.symm hij)] at hq'
        exact .inl (.inr (.inr (.inr (.inr ⟨i, q, hq', hb⟩))))
/-- A key's first version: its chain has been laid into its shard. -/
theorem StoreAt.add_chain {w w1 w' : World} {L : Lay} {N c b : Nat} {st : StS} {k : Key2} {v' : Value} {l' : VersS} (h : StoreAt w L N st) (hk : KeyWf k) (hj : rowIdx st.rows k = none) (hb : L.bs[shardN k (L.bs.length : Int)]? = some b)
    (hn : New w w1) (hc : ChainAt w1 0 c v' l') (hcn : ∀ x, ChainF c v' x → w.heap.size ≤ x)
    (hmap : MapO 33 keyVal w' b (N + 1) (updO (shardM L.cs st.rows L.bs.length (shardN k (L.bs.length : Int))) k (some (.pointer (some ⟨c, 0, none⟩))))) (hm : Mod (· = b) w1 w')
    (hr : Rising l') (hn0 : l' ≠ []) (hl : l'.length ≤ N + 1) (hN' : N + 1 ≤ 1048576) :
    Step w L (N + 1) { st with rows := setRow st.rows k l' } w' := by
  have h1 := h.new_ hn
  have hmw : Mod (· = b) w w' := Mod.trans (Mod.mono hn (fun _ _ h => h.elim)) hm (fun _ _ h => h)
  have hlow : ∀ (i : Nat) (q : Nat × Value) (b : Nat), L.cs[i]? = some q → ChainF q.1 q.2 b → b < w.heap.size := fun i q b hq hb => h.foot_lt (.inr (.inr (.inr (.inr ⟨i, q, hq, hb⟩))))
  have hmb := h.maps _ b hb
  have hchs : ∀ (i : Nat) (q : Nat × Value) (x : Nat), L.cs[i]? = some q → ChainF q.1 q.2 x → ¬ (x = b) := fun i q x hq hx e => by
    subst e
    have hi : i < st.rows.length := by rw [← h.chains.len]; exact (List.getElem?_eq_some_iff.1 hq).1
    exact (h.chains.at_ i q _ hq (List.getElem?_eq_getElem hi)).ne_map hmb hx
  have hcb : ∀ x, ChainF c v' x → ¬ (x = b) := fun x hx e => by have := hcn x hx; have := hmb.lt; omega
  refine ⟨{ L with cs := L.cs ++ [(c, v')] }, rfl, rfl, ?_, ?_, ?_⟩
  · refine {
      blk := h.blk.kept hmw (hmb.not_blk h.blk)
      gblk := h.gblk.kept hmw (hmb.not_blk h.gblk)
      m1 := h.m1
      maps := fun i b' hb' => by
        have hb'' : L.bs[i]? = some b' := hb'
        rw [setRow_none hj]
        show MapO 33 keyVal w' b' (N + 1) (shardM (L.cs ++ [(c, v')]) (st.rows ++ [(k, l')]) L.bs.length i)
        rw [shardM_add hj h.chains.len]
        by_cases hi : shardN k (L.bs.length : Int) = i
        · rw [if_pos hi]
          subst hi
          rw [hb] at hb''
          injection hb'' with e
          subst e
          exact hmap
        · rw [if_neg hi]
          refine ((h.maps i b' hb'').mod hmw (fun e => hi ?_)).mono (by omega)
          have e' : b' = b := e
          subst e'
          exact (List.getElem?_inj (List.getElem?_eq_some_iff.1 hb).1 h.bnodup).1 (hb.trans hb''.symm)
      bnodup := h.bnodup
      rmap := (h.rmap.mod hmw (fun e => h.rbs (by have e' : L.rb = b := e; rw [e']; exact List.mem_of_getElem? hb))).mono (by omega)
      rbs := h.rbs
      chains := ?ch
      ok := setRow_ok h.ok hr hn0
      vers := fun x hx => by
        rw [setRow_none hj] at hx
        rcases List.mem_append.1 hx with hx | hx
        · exact Nat.le_trans (h.vers x hx) (by omega)
        · simp at hx; subst hx; exact hl
      rowsN := by rw [setRow_none hj]; have := h.rowsN; simp; omega
      readN := Nat.le_trans h.readN (by omega)
      bigN := hN' }
    show ChainsAt w' (L.cs ++ [(c, v')]) (setRow st.rows k l')
    rw [setRow_none hj]
    have hlen := h.chains.len
    have hcase : ∀ (i : Nat) (q : Nat × Value), (L.cs ++ [(c, v')])[i]? = some q → L.cs[i]? = some q ∨ (i = L.cs.length ∧ q = (c, v')) := fun i q hq => by
      by_cases hi : i < L.cs.length
      · rw [List.getElem?_append_left hi] at hq; exact .inl hq
      · have : i = L.cs.length := by have := (List.getElem?_eq_some_iff.1 hq).1; simp at this; omega
        subst this
        rw [List.getElem?_append_right (Nat.le_refl _), Nat.sub_self] at hq
        simp at hq
        exact .inr ⟨rfl, hq.symm⟩
    refine ⟨by simp [hlen], fun i q x hq hx => ?_, fun a a' q r hq hr hab => ?_, fun a a' q r hq hr hab g hqb => ?_⟩
    · rcases hcase i q hq with hq2 | ⟨rfl, rfl⟩
      · have hi := (List.getElem?_eq_some_iff.1 hq2).1
        rw [List.getElem?_append_left (by omega)] at hx
        have h2 := h.chains.at_ i q x hq2 hx
        exact ⟨h2.blk.kept hmw (hchs i q _ hq2 (.inl rfl)), own_mod' h2.own hmw (fun g hg => hchs i q g hq2 (.inr hg))⟩
      · rw [List.getElem?_append_right (by omega), hlen, Nat.sub_self] at hx
        simp at hx
        subst hx
        exact ⟨hc.blk.kept hm (hcb _ (.inl rfl)), own_mod' hc.own hm (fun g hg => hcb g (.inr hg))⟩
    · rcases hcase a q hq with hq2 | ⟨rfl, rfl⟩
      · rcases hcase a' r hr with hr2 | ⟨rfl, rfl⟩
        · exact h.chains.capart a a' q r hq2 hr2 hab
        · intro e
          have e' : q.1 = c := e
          have := hlow a q q.1 hq2 (.inl rfl)
          have := hcn c (.inl rfl)
          omega
      · rcases hcase a' r hr with hr2 | ⟨rfl, rfl⟩
        · intro e
          have e' : c = r.1 := e
          have := hlow a' r r.1 hr2 (.inl rfl)
          have := hcn c (.inl rfl)
          omega
        · exact absurd rfl hab
    · rcases hcase a q hq with hq2 | ⟨rfl, rfl⟩
      · rcases hcase a' r hr with hr2 | ⟨rfl, rfl⟩
        · exact h.chains.vapart a a' q r hq2 hr2 hab g hqb
        · intro e
          have := hlow a q g hq2 (.inr hqb)
          have := hcn g (.inr e)
          omega
      · rcases hcase a' r hr with hr2 | ⟨rfl, rfl⟩
        · intro e
          have := hlow a' r g hr2 (.inr e)
          have := hcn g (.inr hqb)
          omega
        · exact absurd rfl hab
  · exact Mod.mono hmw (fun x _ hx => .inr (.inr (.inl (by have e : x = b := hx; rw [e]; exact List.mem_of_getElem? hb))))
  · rintro x (hx | hx | hx | hx | ⟨i, q, hq, hx⟩)
    · exact .inl (.inl hx)
    · exact .inl (.inr (.inl hx))
    · exact .inl (.inr (.inr (.inl hx)))
    · exact .inl (.inr (.inr (.inr (.inl hx))))
    · have hq' : (L.cs ++ [(c, v')])[i]? = some q := hq
      by_cases hi : i < L.cs.length
      · rw [List.getElem?_append_left hi] at hq'
        exact .inl (.inr (.inr (.inr (.inr ⟨i, q, hq', hx⟩))))
      · have : i = L.cs.length := by have := (List.getElem?_eq_some_iff.1 hq').1; simp at this; omega
        subst this
        rw [List.getElem?_append_right (Nat.le_refl _), Nat.sub_self] at hq'
        simp at hq'
        subst hq'
        exact .inr (hcn x hx)
end Go.Proofs.YtfifalopbfopnaaGreatDoor
