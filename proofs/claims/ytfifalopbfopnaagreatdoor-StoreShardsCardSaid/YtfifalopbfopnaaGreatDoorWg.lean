/- Words: append of one's own row: it stays in its block, or moves and leaves all that was there as it was. Rows that are written; shorter slices of a row. -/
import Derived.Test.YtfifalopbfopnaaGreatDoorWd
import Derived.Test.YtfifalopbfopnaaGreatDoorWe
set_option linter.unusedVariables false
set_option linter.unusedSimpArgs false
namespace Go.Proofs.YtfifalopbfopnaaGreatDoor
open Go.RowKit

/-- A row of n elements has become one of k: in its block, or in a new one, and then nothing old has changed. -/
def Moved (w w' : World) (v : Value) (n : Nat) (v' : Value) (k : Nat) : Prop :=
  (∃ g cap, v = .slice (some ⟨g, 0, none⟩) n cap ∧ v' = .slice (some ⟨g, 0, none⟩) k cap ∧ w.grownBy w' (some g)) ∨ (v'.ownBlock = some w.heap.size ∧ New w w')
theorem Moved.grown {w w' : World} {v v' : Value} {n k : Nat} (h : Moved w w' v n v' k) : w.grownBy w' v.ownBlock := by
  rcases h with ⟨g, cap, rfl, _, h⟩ | ⟨_, h⟩
  · exact h
  · exact ⟨h.os, h.tape, h.output, h.size, fun i hi _ => h.block i hi (fun x => x)⟩
theorem Moved.block {w w' : World} {v v' : Value} {n k : Nat} (h : Moved w w' v n v' k) : v'.ownBlock = v.ownBlock ∨ v'.ownBlock = some w.heap.size := by
  rcases h with ⟨g, cap, rfl, rfl, h⟩ | ⟨h, _⟩
  · exact .inl rfl
  · exact .inr h
section
variable {P : Program} {w : World} {t e : TypeId} {size bytes : Nat}
theorem run_append_moves (H : SlT P t e size bytes) (ty : TypeId) (base : Nat) (v : Value) (n : Nat) (xs : List Value) (hown : w.ownsRow base e size v n xs)
    (a : Addr) (m c : Nat) (news : List Value) (hm : 0 < m) (hl : news.length = m * size) (hnews : ∀ j u, news[j]? = some u → w.cell? (a.add j) = some u) (h1 : ∀ u ∈ news, u.oneCell' = true)
    (hbytes : (n + m) * bytes ≤ 140737488355328) (hbase : base ≤ w.heap.size) :
    ∃ v' w', (Builtin.append_ #[t, t] ty #[v, .slice (some a) m c]).run P w = .ok v' w' ∧ w'.ownsRow base e size v' (n + m) (xs ++ news) ∧
      Moved w w' v n v' (n + m) := by
  obtain ⟨z, hi, hz⟩ := H.info
  obtain ⟨i, hi0, hi1, hi2, hi3⟩ := info_parts hi
  have hml : n + m ≤ maxLen := by
    have : (n + m) * 1 ≤ (n + m) * bytes := Nat.mul_le_mul_left _ H.posb
    unfold maxLen; omega
  have hsm : n + m ≤ 9223372036854775807 := by unfold maxLen at hml; omega
  obtain ⟨v', w', hr, h2, h3, h4, h5⟩ := run_append_own_at (P := P) w base t ty e i z size bytes H.und hi0 hi1 hi2 hi3 hz H.pos v n xs hown a m c news hl hnews h1 hml hbytes hbase
  refine ⟨v', w', hr, h2, ?_⟩
  subst hi2 hi3
  rcases hown.2 with ⟨rfl, rfl⟩ | ⟨g, cap, cur, rfl, hbg, hg, hnc, hcm, hcs, htake⟩
  · have hx := run_append_nil (P := P) w t ty e i z H.und hi0 hi1 a m c news hl hnews hm (by omega) (by simp only [Nat.zero_add] at hbytes; omega)
    rw [hx] at hr
    injection hr with hr1 hr2
    subst hr1 hr2
    exact .inr ⟨rfl, (Mod.refl _ w).drew.alloc _⟩
  · by_cases hroom : n + m ≤ cap
    · have hfit : n * i.size + news.length ≤ cur.size := by rw [hl, hcs, ← Nat.add_mul]; exact Nat.mul_le_mul_right _ hroom
      have hx := run_append_room (P := P) w t ty e i H.und hi0 g n cap cur hg a m c news hl hnews h1 hroom hfit
      rw [hx] at hr
      injection hr with hr1 hr2
      subst hr1
      exact .inl ⟨g, cap, rfl, rfl, h3⟩
    · have hx := run_append_grow (P := P) w t ty e i z H.und hi0 hi1 ⟨g, 0, none⟩ n cap xs hown.1 (hown.cells (g := g) rfl) a m c news hl hnews (by omega) (by omega) (growslice_fits (by omega) hbytes)
      rw [hx] at hr
      injection hr with hr1 hr2
      subst hr1 hr2
      exact .inr ⟨rfl, (Mod.refl _ w).drew.alloc _⟩

theorem wpList_appm {ops : Array Oper} {rest : List Oper} {o : Oper} {a : Act} {Q : Exit → Act → World → Prop} (H : SlT P t e size bytes) (hgd : o.guard = none) (s x : Operand)
    (ho : o.op = .call { callee := .builtin .append, args := #[s, x], argTypes := #[t, t] })
    (base : Nat) (v : Value) (n : Nat) (xs : List Value) (hs : a.eval s = v) (hown : w.ownsRow base e size v n xs)
    (ad : Addr) (m c : Nat) (news : List Value) (hm : 0 < m) (hx : a.eval x = .slice (some ad) m c) (hl : news.length = m * size) (hnews : ∀ j u, news[j]? = some u → w.cell? (ad.add j) = some u) (h1 : ∀ u ∈ news, u.oneCell' = true)
    (hbytes : (n + m) * bytes ≤ 140737488355328) (hbase : base ≤ w.heap.size)
    (h : ∀ v' w', w'.ownsRow base e size v' (n + m) (xs ++ news) → Moved w w' v n v' (n + m) → wpList P ops Q rest (a.put o.dst v') w') : wpList P ops Q (o :: rest) a w := by
  refine wpList_plain hgd fun K hK => ?_
  obtain ⟨v', w', hr, h2, h3⟩ := run_append_moves H o.type base v n xs hown ad m c news hm hl hnews h1 hbytes hbase
  unfold Oper.wp execOp
  simp only [ho, resolve, invoke, builtin, Sem.run_bind, Sem.run_pure, Result.andThen_ok, List.map_toArray, List.map_cons, List.map_nil, hs, hx, hr]
  exact hK _ _ (h v' w' h2 h3)
end

section
variable {w w' : World} {B sz : Nat} {e : TypeId} {vs : List Value} {ls : List (Nat × List Value)}
/-- A shorter slice of a row. -/
theorem own_take {g n m cap : Nat} {xs : List Value} (h : w.ownsRow B e sz (.slice (some ⟨g, 0, none⟩) n cap) n xs) (hm : m ≤ n) : w.ownsRow B e sz (.slice (some ⟨g, 0, none⟩) m cap) m (xs.take (m * sz)) := by
  have hl := h.1
  have hmul : m * sz ≤ n * sz := Nat.mul_le_mul_right _ hm
  refine ⟨by rw [List.length_take]; omega, ?_⟩
  rcases h.2 with ⟨h1, _⟩ | ⟨g', cap', cur, h1, hg, hh, h2, h3, h4, h5⟩
  · cases h1
  · injection h1 with h1 h6 h7
    injection h1 with h1
    injection h1 with h1
    subst h1 h7
    refine .inr ⟨g, cap, cur, rfl, hg, hh, by omega, h3, h4, ?_⟩
    rw [← h5, List.take_take, Nat.min_eq_left hmul]
/-- Two slices of one block have one capacity. -/
theorem own_cap {g n m cap cap' : Nat} {xs ys : List Value} (hsz : 0 < sz) (h : w.ownsRow B e sz (.slice (some ⟨g, 0, none⟩) n cap) n xs) (h' : w.ownsRow B e sz (.slice (some ⟨g, 0, none⟩) m cap') m ys) : cap = cap' := by
  rcases h.2 with ⟨h1, _⟩ | ⟨g1, cap1, cur1, h1, _, hh1, _, _, h4, _⟩
  · cases h1
  · rcases h'.2 with ⟨k1, _⟩ | ⟨g2, cap2, cur2, k1, _, hh2, _, _, k4, _⟩
    · cases k1
    · injection h1 with a1 a2 a3
      injection k1 with b1 b2 b3
      injection a1 with a1
      injection a1 with a1
      injection b1 with b1
      injection b1 with b1
      subst a1 a3 b1 b3
      rw [hh1] at hh2
      injection hh2 with hh2
      injection hh2 with hh2
      subst hh2
      rw [h4] at k4
      exact Nat.eq_of_mul_eq_mul_right hsz k4
/-- A cell of a row has been written. -/
theorem RowsOf.store (h : RowsOf w B e sz vs ls) {i g n cap : Nat} {xs : List Value} (hv : vs[i]? = some (.slice (some ⟨g, 0, none⟩) n cap)) (hx : ls[i]? = some (n, xs)) (j : Nat) (u : Value) :
    RowsOf (w.setCell ⟨g, j, none⟩ u) B e sz vs (ls.set i (n, xs.set j u)) := by
  have hown := (h.own i _ _ hv hx).stored j u
  have hi : i < vs.length := (List.getElem?_eq_some_iff.1 hv).1
  have := h.upd (x := (n, xs.set j u)) hv (w' := w.setCell ⟨g, j, none⟩ u) (v' := .slice (some ⟨g, 0, none⟩) n cap) hown.2 hown.1 (.inl rfl)
  rwa [show vs.set i (.slice (some ⟨g, 0, none⟩) n cap) = vs from by
    refine List.ext_getElem? fun k => ?_
    rw [List.getElem?_set]
    split
    · rename_i hk; subst hk; rw [hv]
    · rfl] at this
end

/-- The blocks of some slices. -/
def OwnS (vs : List Value) (b : Nat) : Prop := ∃ (i : Nat) (v : Value), vs[i]? = some v ∧ v.ownBlock = some b
theorem RowsOf.owns {w : World} {B sz : Nat} {e : TypeId} {vs : List Value} {ls : List (Nat × List Value)} (h : RowsOf w B e sz vs ls) {b : Nat} (hb : OwnS vs b) : B ≤ b ∧ b < w.heap.size ∧ ∃ cs, w.heap[b]? = some (.cells cs e (0, 0)) := by
  obtain ⟨i, v, hv, hb⟩ := hb
  have hi : i < ls.length := by rw [← h.len]; exact (List.getElem?_eq_some_iff.1 hv).1
  have h0 := h.own i v _ hv (List.getElem?_eq_getElem hi)
  rcases h0.2 with ⟨h1, _⟩ | ⟨g, cap, cur, h1, hg, hh, _⟩
  · rw [h1] at hb; simp [Value.ownBlock] at hb
  · rw [h1] at hb
    simp [Value.ownBlock] at hb
    subst hb
    exact ⟨hg, (Array.getElem?_eq_some_iff.1 hh).1, _, hh⟩
/-- A block of another type is none of theirs. -/
theorem RowsOf.not_owns {w : World} {B sz g : Nat} {e t : TypeId} {vs : List Value} {ls : List (Nat × List Value)} {cs : List Value} (h : RowsOf w B e sz vs ls) (hg : Blk w g t cs) (hne : t ≠ e) : ¬ OwnS vs g := fun hb => by
  obtain ⟨_, _, ds, hd⟩ := h.owns hb
  unfold Blk at hg
  rw [hg] at hd
  injection hd with hd
  injection hd with _ hd
  exact hne hd

/-- Slices vs, and slices us that grew out of them: each reads as the first of its marks. -/
structure TwoRows (w : World) (B : Nat) (e : TypeId) (sz : Nat) (mk : Nat → Nat → List Value) (vs : List Value) (ns : List Nat) (us : List Value) (ms : List Nat) : Prop where
  lenv : vs.length = ns.length
  lenu : us.length = ms.length
  ownv : ∀ (j : Nat) (v : Value) (n : Nat), vs[j]? = some v → ns[j]? = some n → w.ownsRow B e sz v n (mk j n)
  ownu : ∀ (j : Nat) (u : Value) (m : Nat), us[j]? = some u → ms[j]? = some m → w.ownsRow B e sz u m (mk j m)
  ne : ∀ (i j : Nat) (x y : Value) (b : Nat), i ≠ j → (vs[i]? = some x ∨ us[i]? = some x) → (vs[j]? = some y ∨ us[j]? = some y) → x.ownBlock = some b → y.ownBlock ≠ some b

section
variable {w w' : World} {B sz : Nat} {e : TypeId} {mk : Nat → Nat → List Value} {vs us : List Value} {ns ms : List Nat}
theorem TwoRows.start {ls : List (Nat × List Value)} (h : RowsOf w B e sz vs ls) (hn : ns = ls.map (·.1)) (hm : ∀ (i : Nat) (x : Nat × List Value), ls[i]? = some x → x.2 = mk i x.1) : TwoRows w B e sz mk vs ns [] [] := by
  subst hn
  refine ⟨by simp [h.len], rfl, fun j v n hv hn => ?_, fun j u m hu => by simp at hu, fun i j x y b hij hx hy hb => ?_⟩
  · rw [List.getElem?_map] at hn
    obtain ⟨x, hx, rfl⟩ := Option.map_eq_some_iff.1 hn
    have := h.own j v x hv hx
    rwa [hm j x hx] at this
  · have hx' : vs[i]? = some x := by simpa using hx
    have hy' : vs[j]? = some y := by simpa using hy
    exact h.ne i j x y b hij hx' hy' hb
theorem TwoRows.new_ (h : TwoRows w B e sz mk vs ns us ms) (hm : New w w') : TwoRows w' B e sz mk vs ns us ms :=
  ⟨h.lenv, h.lenu, fun j v n hv hn => own_new (h.ownv j v n hv hn) hm, fun j u m hu hn => own_new (h.ownu j u m hu hn) hm, h.ne⟩
theorem TwoRows.grown (h : TwoRows w B e sz mk vs ns us ms) {row : Option Nat} (hg : w.grownBy w' row) (hne : ∀ (j : Nat) (x : Value), (vs[j]? = some x ∨ us[j]? = some x) → x.ownBlock = none ∨ x.ownBlock ≠ row) : TwoRows w' B e sz mk vs ns us ms :=
  ⟨h.lenv, h.lenu, fun j v n hv hn => (h.ownv j v n hv hn).kept hg (hne j v (.inl hv)), fun j u m hu hn => (h.ownu j u m hu hn).kept hg (hne j u (.inr hu)), h.ne⟩
theorem TwoRows.lt (h : TwoRows w B e sz mk vs ns us ms) {j : Nat} {x : Value} {b : Nat} (hx : vs[j]? = some x ∨ us[j]? = some x) (hb : x.ownBlock = some b) : B ≤ b ∧ b < w.heap.size := by
  rcases hx with hx | hx
  · have hj : j < ns.length := by rw [← h.lenv]; exact (List.getElem?_eq_some_iff.1 hx).1
    exact (h.ownv j x _ hx (List.getElem?_eq_getElem hj)).lt b hb
  · have hj : j < ms.length := by rw [← h.lenu]; exact (List.getElem?_eq_some_iff.1 hx).1
    exact (h.ownu j x _ hx (List.getElem?_eq_getElem hj)).lt b hb
/-- One more row begins to grow. -/
theorem TwoRows.push (h : TwoRows w B e sz mk vs ns us ms) {v : Value} {n : Nat} (hv : vs[us.length]? = some v) (hn : ns[us.length]? = some n) : TwoRows w B e sz mk vs ns (us ++ [v]) (ms ++ [n]) := by
  have hlu := h.lenu
  have key : ∀ (i : Nat) (x : Value), (vs[i]? = some x ∨ (us ++ [v])[i]? = some x) → (vs[i]? = some x ∨ us[i]? = some x) := fun i x hx => by
    rcases hx with hx | hx
    · exact .inl hx
    · by_cases hi : i < us.length
      · rw [List.getElem?_append_left hi] at hx; exact .inr hx
      · have hi2 : i = us.length := by
          have := (List.getElem?_eq_some_iff.1 hx).1
          simp at this; omega
        subst hi2
        rw [List.getElem?_append_right (Nat.le_refl _)] at hx
        simp at hx
        subst hx
        exact .inl hv
  refine ⟨h.lenv, by simp [hlu], h.ownv, fun j u m hu hm => ?_, fun i j x y b hij hx hy hb => h.ne i j x y b hij (key i x hx) (key j y hy) hb⟩
  by_cases hj : j < us.length
  · rw [List.getElem?_append_left hj] at hu
    rw [List.getElem?_append_left (by omega)] at hm
    exact h.ownu j u m hu hm
  · have hj2 : j = us.length := by
      have := (List.getElem?_eq_some_iff.1 hu).1
      simp at this; omega
    subst hj2
    rw [List.getElem?_append_right (Nat.le_refl _)] at hu
    rw [List.getElem?_append_right (by omega), hlu] at hm
    simp at hu hm
    subst hu hm
    exact h.ownv _ v n hv hn
/-- The last row has grown by one element. -/
theorem TwoRows.step {u v t' : Value} {m n : Nat} {news : List Value} (h : TwoRows w B e sz mk vs ns (us ++ [u]) (ms ++ [m])) (hsz : 0 < sz) (hv : vs[us.length]? = some v) (hn : ns[us.length]? = some n) (hnm : n ≤ m)
    (hmk : ∀ a b, a ≤ b → (mk us.length b).take (a * sz) = mk us.length a) (hmk1 : mk us.length m ++ news = mk us.length (m + 1)) (hown : w'.ownsRow B e sz t' (m + 1) (mk us.length m ++ news))
    (hat : Moved w w' u m t' (m + 1)) : TwoRows w' B e sz mk vs ns (us ++ [t']) (ms ++ [m + 1]) := by
  have hlu : us.length = ms.length := by have := h.lenu; simpa using this
  have hulast : (us ++ [u])[us.length]? = some u := by simp
  have hu0 := h.ownu us.length u m hulast (by rw [hlu]; simp)
  have hother : ∀ (i : Nat) (x : Value), i ≠ us.length → (vs[i]? = some x ∨ (us ++ [t'])[i]? = some x) → (vs[i]? = some x ∨ (us ++ [u])[i]? = some x) := fun i x hi hx => by
    rcases hx with hx | hx
    · exact .inl hx
    · have hl : i < us.length := by
        have := (List.getElem?_eq_some_iff.1 hx).1
        simp at this; omega
      rw [List.getElem?_append_left hl] at hx
      exact .inr (by rw [List.getElem?_append_left hl]; exact hx)
  have hgr := hat.grown
  have hkeep : ∀ (i : Nat) (x : Value), i ≠ us.length → (vs[i]? = some x ∨ (us ++ [u])[i]? = some x) → x.ownBlock = none ∨ x.ownBlock ≠ u.ownBlock := fun i x hi hx => by
    cases hb : x.ownBlock with
    | none => exact .inl rfl
    | some b => exact .inr fun he => h.ne i us.length x u b hi hx (.inr hulast) hb he.symm
  -- the block of what stands at the last place
  have hlast : ∀ (x : Value) (b : Nat), (vs[us.length]? = some x ∨ (us ++ [t'])[us.length]? = some x) → x.ownBlock = some b → (vs[us.length]? = some x ∨ (us ++ [u])[us.length]? = some x) ∨ b = u.ownBlock ∨ b = w.heap.size := fun x b hx hb => by
    rcases hx with hx | hx
    · exact .inl (.inl hx)
    · simp at hx
      subst hx
      rcases hat.block with hb2 | hb2
      · rw [hb2] at hb; exact .inr (.inl hb.symm)
      · rw [hb2] at hb; injection hb with hb; exact .inr (.inr hb.symm)
  refine ⟨h.lenv, by simp [hlu], fun j x k hx hk => ?_, fun j x k hx hk => ?_, fun i j x y b hij hx hy hb => ?_⟩
  · have h0 := h.ownv j x k hx hk
    by_cases hj : j = us.length
    · subst hj
      rw [hv] at hx
      rw [hn] at hk
      injection hx with hx
      injection hk with hk
      subst hx hk
      rcases hat with ⟨g, cap, rfl, rfl, hg⟩ | ⟨_, hnew⟩
      · by_cases hb : v.ownBlock = some g
        · rcases h0.2 with ⟨h1, _⟩ | ⟨g', cap', cur, h1, _⟩
          · rw [h1] at hb; simp [Value.ownBlock] at hb
          · subst h1
            simp [Value.ownBlock] at hb
            subst hb
            obtain rfl := own_cap hsz h0 hu0
            have := own_take hown (m := n) (by omega)
            rwa [hmk1, hmk n (m + 1) (by omega)] at this
        · exact h0.kept hg (.inr hb)
      · exact own_new h0 hnew
    · exact h0.kept hgr (hkeep j x hj (.inl hx))
  · by_cases hj : j = us.length
    · subst hj
      simp at hx
      rw [hlu] at hk
      simp at hk
      subst hx hk
      rw [← hmk1]; exact hown
    · have hl : j < us.length := by
        have := (List.getElem?_eq_some_iff.1 hx).1
        simp at this; omega
      rw [List.getElem?_append_left hl] at hx
      rw [List.getElem?_append_left (by omega)] at hk
      have hx2 : (us ++ [u])[j]? = some x := by rw [List.getElem?_append_left hl]; exact hx
      exact (h.ownu j x k hx2 (by rw [List.getElem?_append_left (by omega)]; exact hk)).kept hgr (hkeep j x hj (.inr hx2))
  · by_cases hi : i = us.length
    · subst hi
      have hy2 := hother j y (fun e => hij e.symm) hy
      rcases hlast x b hx hb with hx2 | hx2 | hx2
      · exact h.ne _ j x y b hij hx2 hy2 hb
      · exact h.ne us.length j u y b hij (.inr hulast) hy2 hx2.symm
      · intro hyb
        have := (h.lt hy2 hyb).2
        omega
    · have hx2 := hother i x hi hx
      by_cases hj : j = us.length
      · subst hj
        intro hyb
        rcases hlast y b hy hyb with hy2 | hy2 | hy2
        · exact h.ne i _ x y b hij hx2 hy2 hb hyb
        · exact h.ne i us.length x u b hij hx2 (.inr hulast) hb hy2.symm
        · have := (h.lt hx2 hb).2
          omega
      · exact h.ne i j x y b hij hx2 (hother j y hj hy) hb
end
end Go.Proofs.YtfifalopbfopnaaGreatDoor
