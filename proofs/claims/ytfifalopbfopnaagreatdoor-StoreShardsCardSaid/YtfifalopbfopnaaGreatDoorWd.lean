/- Words: a list of slices of the call's own, each in a block of its own; append in a region that draws. -/
import Derived.Test.YtfifalopbfopnaaGreatDoorWb
import Derived.Deep.RegionLaw
set_option linter.unusedVariables false
set_option linter.unusedSimpArgs false
namespace Go.Proofs.YtfifalopbfopnaaGreatDoor
open Go.RowKit

/-- The slices vs are the call's own, in blocks of their own, and hold these cells. -/
structure RowsOf (w : World) (B : Nat) (e : TypeId) (sz : Nat) (vs : List Value) (ls : List (Nat × List Value)) : Prop where
  len : vs.length = ls.length
  own : ∀ (i : Nat) (v : Value) (x : Nat × List Value), vs[i]? = some v → ls[i]? = some x → w.ownsRow B e sz v x.1 x.2
  ne : ∀ (i j : Nat) (v u : Value) (b : Nat), i ≠ j → vs[i]? = some v → vs[j]? = some u → v.ownBlock = some b → u.ownBlock ≠ some b

section
variable {w w' : World} {B sz : Nat} {e : TypeId} {vs : List Value} {ls : List (Nat × List Value)}

theorem RowsOf.nil (w : World) (B : Nat) (e : TypeId) (sz n : Nat) : RowsOf w B e sz (List.replicate n (.slice none 0 0)) (List.replicate n (0, [])) :=
  ⟨by simp, fun i v x hv hx => by
    simp [List.getElem?_replicate] at hv hx
    rw [← hv.2, ← hx.2]; exact own_nil _ _ _ _, fun i j v u b _ hv _ hb => by
    simp [List.getElem?_replicate] at hv
    rw [← hv.2] at hb; simp [Value.ownBlock] at hb⟩
theorem RowsOf.new_ (h : RowsOf w B e sz vs ls) (hm : New w w') : RowsOf w' B e sz vs ls :=
  ⟨h.len, fun i v x hv hx => own_new (h.own i v x hv hx) hm, h.ne⟩
theorem RowsOf.kept {S : Nat → Prop} (h : RowsOf w B e sz vs ls) (hm : Mod S w w') (hs : ∀ (i : Nat) (v : Value) (b : Nat), vs[i]? = some v → v.ownBlock = some b → ¬ S b) : RowsOf w' B e sz vs ls :=
  ⟨h.len, fun i v x hv hx => by
    have h0 := h.own i v x hv hx
    refine ⟨h0.1, ?_⟩
    rcases h0.2 with hn | ⟨g, cap, cur, rfl, hg, hh, r⟩
    · exact .inl hn
    · refine .inr ⟨g, cap, cur, rfl, hg, ?_, r⟩
      have hlt : g < w.heap.size := by
        rcases Nat.lt_or_ge g w.heap.size with hl | hl
        · exact hl
        · rw [Array.getElem?_eq_none hl] at hh; cases hh
      rw [hm.block g hlt (hs i _ g hv rfl)]
      exact hh, h.ne⟩
/-- One row has been replaced by one in its own block, or in a new one. -/
theorem RowsOf.upd (h : RowsOf w B e sz vs ls) {i : Nat} {v v' : Value} {x : Nat × List Value} (hv : vs[i]? = some v) (hg : w.grownBy w' v.ownBlock) (hown : w'.ownsRow B e sz v' x.1 x.2)
    (hb : v'.ownBlock = v.ownBlock ∨ v'.ownBlock = some w.heap.size) : RowsOf w' B e sz (vs.set i v') (ls.set i x) := by
  have hi : i < vs.length := (List.getElem?_eq_some_iff.1 hv).1
  have hlt : ∀ (j : Nat) (u : Value) (b : Nat), vs[j]? = some u → u.ownBlock = some b → b < w.heap.size := fun j u b hu hb => by
    have hj : j < vs.length := (List.getElem?_eq_some_iff.1 hu).1
    have hx : ls[j]? = some (ls[j]'(by rw [← h.len]; exact hj)) := List.getElem?_eq_getElem _
    exact ((h.own j u _ hu hx).lt b hb).2
  refine ⟨by simp [h.len], fun j u y hu hy => ?_, fun j k u t b hjk hu ht hub => ?_⟩
  · by_cases e : j = i
    · subst e
      rw [List.getElem?_set_self (by omega)] at hu
      rw [List.getElem?_set_self (by rw [← h.len]; omega)] at hy
      injection hu with hu
      injection hy with hy
      subst hu hy
      exact hown
    · rw [List.getElem?_set_ne (Ne.symm e)] at hu hy
      have h0 := h.own j u y hu hy
      refine h0.kept hg ?_
      cases hub : u.ownBlock with
      | none => exact .inl rfl
      | some b => exact .inr fun hvb => h.ne j i u v b e hu hv hub hvb.symm
  · by_cases ej : j = i
    · subst ej
      rw [List.getElem?_set_self (by omega)] at hu
      injection hu with hu
      subst hu
      rw [List.getElem?_set_ne hjk] at ht
      rcases hb with hb | hb
      · rw [hb] at hub
        exact h.ne j k v t b hjk hv ht hub
      · rw [hb] at hub
        injection hub with hub
        intro htb
        have := hlt k t b ht htb
        omega
    · rw [List.getElem?_set_ne (Ne.symm ej)] at hu
      by_cases ek : k = i
      · subst ek
        rw [List.getElem?_set_self (by omega)] at ht
        injection ht with ht
        subst ht
        rcases hb with hb | hb
        · rw [hb]; exact h.ne j k u v b hjk hu hv hub
        · rw [hb]
          intro htb
          injection htb with htb
          have := hlt j u b hu hub
          omega
      · rw [List.getElem?_set_ne (Ne.symm ek)] at ht
        exact h.ne j k u t b hjk hu ht hub
end

section
variable {P : Program} {w : World} {t e : TypeId} {size bytes : Nat}
/-- append onto a slice of the call's own, in a region that draws. -/
theorem step_app {ops : Array Oper} {o : Oper} {a : Act} {K : Act → World → Prop} {Q : Exit → Act → World → Prop} {E : Prop} (H : SlT P t e size bytes) (hgd : o.guard = none) (s x : Operand)
    (ho : o.op = .call { callee := .builtin .append, args := #[s, x], argTypes := #[t, t] })
    (base : Nat) (v : Value) (n : Nat) (xs : List Value) (hs : a.eval s = v) (hown : w.ownsRow base e size v n xs)
    (ad : Addr) (m c : Nat) (news : List Value) (hx : a.eval x = .slice (some ad) m c) (hl : news.length = m * size) (hnews : ∀ j u, news[j]? = some u → w.cell? (ad.add j) = some u) (h1 : ∀ u ∈ news, u.oneCell' = true)
    (hbytes : (n + m) * bytes ≤ 140737488355328) (hbase : base ≤ w.heap.size)
    (h : ∀ v' w', w'.ownsRow base e size v' (n + m) (xs ++ news) → w.grownBy w' v.ownBlock → (v'.ownBlock = v.ownBlock ∨ v'.ownBlock = some w.heap.size) → K (a.put o.dst v') w') :
    if Region.wanted o (yielded ops a.tmps) = true then Oper.wp P o a w K Q else E := by
  have hw : Region.wanted o (yielded ops a.tmps) = true := by simp [Region.wanted, hgd]
  rw [if_pos hw]
  obtain ⟨z, hi, hz⟩ := H.info
  obtain ⟨i, hi0, hi1, hi2, hi3⟩ := info_parts hi
  have hm : n + m ≤ maxLen := by
    have : (n + m) * 1 ≤ (n + m) * bytes := Nat.mul_le_mul_left _ H.posb
    unfold maxLen; omega
  obtain ⟨v', w', hr, h2, h3, h4, h5⟩ := run_append_own_at (P := P) w base t o.type e i z size bytes H.und hi0 hi1 hi2 hi3 hz H.pos v n xs hown ad m c news hl hnews h1 hm hbytes hbase
  unfold Oper.wp execOp
  simp only [ho, resolve, invoke, builtin, Sem.run_bind, Sem.run_pure, Result.andThen_ok, List.map_toArray, List.map_cons, List.map_nil, hs, hx, hr]
  exact h v' w' h2 h3 h5
end
end Go.Proofs.YtfifalopbfopnaaGreatDoor
