/- Plain: keys in their order; what is seen of versions while a list is gone through. -/
import Derived.Test.YtfifalopbfopnaaGreatDoorVb
set_option linter.unusedVariables false
set_option linter.unusedSimpArgs false
namespace Go.Proofs.YtfifalopbfopnaaGreatDoor

section
variable {α : Type}
theorem upTo_take_succ {l : List (Int × α)} (hr : Rising l) {i : Nat} {x : Int × α} (hx : l[i]? = some x) (n : Int) : upTo (l.take (i + 1)) n = if x.1 ≤ n then i + 1 else upTo (l.take i) n := by
  have hi := (List.getElem?_eq_some_iff.1 hx).1
  have hrt : ∀ k, Rising (l.take k) := fun k => ⟨hr.1.sublist (List.take_sublist k l), fun y hy => hr.2 y (List.mem_of_mem_take hy)⟩
  split
  · rename_i h
    refine (upTo_unique (hrt _) (by simp; omega) (fun j y hj hy => ?_) (fun j y hj hy => ?_)).symm
    · have hy2 : l[j]? = some y := by rw [List.getElem?_take_of_lt hj] at hy; exact hy
      by_cases e : j = i
      · subst e; rw [hx] at hy2; injection hy2 with hy2; subst hy2; exact h
      · have := hr.at_lt hy2 hx (by omega); omega
    · have := (List.getElem?_eq_some_iff.1 hy).1
      simp at this; omega
  · rename_i h
    have hle := upTo_le (l.take i) n
    refine (upTo_unique (hrt _) (by simp at hle ⊢; omega) (fun j y hj hy => ?_) (fun j y hj hy => ?_)).symm
    · have hj2 : j < i := by simp at hle; omega
      refine upTo_below (l := l.take i) hj ?_
      rw [List.getElem?_take_of_lt hj2]
      rwa [List.getElem?_take_of_lt (by omega)] at hy
    · by_cases e : j = i
      · subst e
        rw [List.getElem?_take_of_lt (by omega)] at hy
        rw [hx] at hy; injection hy with hy; subst hy; omega
      · have hj2 : j < i + 1 := by have := (List.getElem?_eq_some_iff.1 hy).1; simp at this; omega
        refine upTo_above (hrt i) (i := j) hj ?_
        rw [List.getElem?_take_of_lt (by omega)]
        rwa [List.getElem?_take_of_lt hj2] at hy
theorem upTo_zero (n : Int) : upTo ([] : List (Int × α)) n = 0 := rfl
end

/-- A key stands ahead of another. -/
def keyLess (a b : Key2) : Bool := decide (a.1 < b.1) || (decide (a.1 = b.1) && decide (a.2 < b.2))
theorem keyLess_iff {a b : Key2} : keyLess a b = true ↔ a.1 < b.1 ∨ (a.1 = b.1 ∧ a.2 < b.2) := by simp [keyLess]
theorem keyLess_irr (a : Key2) : keyLess a a = false := by simp [keyLess]
theorem keyLess_trans {a b c : Key2} (h : keyLess a b = true) (k : keyLess b c = true) : keyLess a c = true := by
  rw [keyLess_iff] at *
  omega
theorem keyLess_total {a b : Key2} (h : a ≠ b) : keyLess a b = true ∨ keyLess b a = true := by
  obtain ⟨a1, a2⟩ := a
  obtain ⟨b1, b2⟩ := b
  rw [keyLess_iff, keyLess_iff]
  simp only [ne_eq, Prod.mk.injEq] at h
  simp only
  omega
/-- Keys by rising order, each once. -/
def KeysUp (l : List Key2) : Prop := l.Pairwise (fun a b => keyLess a b = true)
theorem KeysUp.unique : ∀ {l l' : List Key2}, KeysUp l → KeysUp l' → (∀ x, x ∈ l ↔ x ∈ l') → l = l'
  | [], [], _, _, _ => rfl
  | [], b :: l', _, _, h => absurd ((h b).2 (by simp)) (by simp)
  | a :: l, [], _, _, h => absurd ((h a).1 (by simp)) (by simp)
  | a :: l, b :: l', hl, hl', h => by
    obtain ⟨h1, h2⟩ := List.pairwise_cons.1 hl
    obtain ⟨k1, k2⟩ := List.pairwise_cons.1 hl'
    have hab : a = b := by
      rcases List.mem_cons.1 ((h a).1 (by simp)) with e | hm
      · exact e
      · rcases List.mem_cons.1 ((h b).2 (by simp)) with e | hn
        · exact e.symm
        · have h3 := k1 a hm
          have h4 := h1 b hn
          have := keyLess_trans h3 h4
          rw [keyLess_irr] at this; cases this
    subst hab
    congr 1
    refine KeysUp.unique h2 k2 fun x => ⟨fun hx => ?_, fun hx => ?_⟩
    · rcases List.mem_cons.1 ((h x).1 (by simp [hx])) with e | hm
      · subst e; have := h1 x hx; rw [keyLess_irr] at this; cases this
      · exact hm
    · rcases List.mem_cons.1 ((h x).2 (by simp [hx])) with e | hm
      · subst e; have := k1 x hx; rw [keyLess_irr] at this; cases this
      · exact hm
/-- A key put in its place. -/
def insK (k : Key2) : List Key2 → List Key2
  | [] => [k]
  | x :: l => if keyLess k x then k :: x :: l else x :: insK k l
theorem insK_mem (k x : Key2) : ∀ l : List Key2, x ∈ insK k l ↔ x = k ∨ x ∈ l
  | [] => by simp [insK]
  | y :: l => by
    unfold insK
    split
    · simp
    · simp only [List.mem_cons, insK_mem k x l]
      constructor
      · rintro (h | h | h) <;> simp [h]
      · rintro (h | h | h) <;> simp [h]
theorem insK_up {k : Key2} : ∀ {l : List Key2}, KeysUp l → k ∉ l → KeysUp (insK k l)
  | [], _, _ => by simp [insK, KeysUp]
  | y :: l, h, hn => by
    obtain ⟨h1, h2⟩ := List.pairwise_cons.1 h
    unfold insK
    split
    · rename_i hk
      exact List.pairwise_cons.2 ⟨fun z hz => by
        rcases List.mem_cons.1 hz with rfl | hz
        · exact hk
        · exact keyLess_trans hk (h1 z hz), h⟩
    · rename_i hk
      refine List.pairwise_cons.2 ⟨fun z hz => ?_, insK_up h2 fun hm => hn (by simp [hm])⟩
      rcases (insK_mem k z l).1 hz with rfl | hz
      · rcases keyLess_total (a := y) (b := z) (fun e => hn (by simp [e])) with h3 | h3
        · exact h3
        · exact absurd h3 hk
      · exact h1 z hz
theorem insK_length (k : Key2) : ∀ l : List Key2, (insK k l).length = l.length + 1
  | [] => rfl
  | x :: l => by unfold insK; split <;> simp [insK_length k l]
/-- The keys of a store, rising. -/
def keysOf {α : Type} (rs : RowsV α) : List Key2 := (rs.map (·.1)).foldl (fun acc k => insK k acc) []
theorem fold_insK : ∀ (ks acc : List Key2), (acc ++ ks).Nodup → KeysUp acc → KeysUp (ks.foldl (fun acc k => insK k acc) acc) ∧ (∀ x, x ∈ ks.foldl (fun acc k => insK k acc) acc ↔ x ∈ acc ∨ x ∈ ks) ∧ (ks.foldl (fun acc k => insK k acc) acc).length = acc.length + ks.length
  | [], acc, _, h => ⟨h, fun x => by simp, by simp⟩
  | k :: ks, acc, hn, h => by
    have hk : k ∉ acc := fun hm => by
      have := List.nodup_append.1 hn
      exact this.2.2 k hm k (by simp) rfl
    have hn2 : (insK k acc ++ ks).Nodup := by
      obtain ⟨n1, n2, n3⟩ := List.nodup_append.1 hn
      obtain ⟨n4, n5⟩ := List.nodup_cons.1 n2
      have hup := insK_up h hk
      refine List.nodup_append.2 ⟨?_, n5, fun a ha b hb => ?_⟩
      · exact hup.imp fun {a b} hab e => by subst e; rw [keyLess_irr] at hab; cases hab
      · rcases (insK_mem k a acc).1 ha with rfl | ha
        · exact fun e => n4 (e ▸ hb)
        · exact n3 a ha b (by simp [hb])
    obtain ⟨h1, h2, h3⟩ := fold_insK ks (insK k acc) hn2 (insK_up h hk)
    refine ⟨h1, fun x => ?_, by simp only [List.foldl_cons, h3, insK_length, List.length_cons]; omega⟩
    simp only [List.foldl_cons, h2, insK_mem, List.mem_cons]
    constructor
    · rintro ((h | h) | h) <;> simp [h]
    · rintro (h | h | h) <;> simp [h]
theorem keysOf_up {α : Type} {rs : RowsV α} (h : (rs.map (·.1)).Nodup) : KeysUp (keysOf rs) ∧ (∀ x, x ∈ keysOf rs ↔ x ∈ rs.map (·.1)) ∧ (keysOf rs).length = rs.length := by
  obtain ⟨h1, h2, h3⟩ := fold_insK (rs.map (·.1)) [] (by simpa using h) List.Pairwise.nil
  exact ⟨h1, fun x => by rw [keysOf, h2]; simp, by rw [keysOf, h3]; simp⟩
end Go.Proofs.YtfifalopbfopnaaGreatDoor
