/- Walks: the law LinksGroups. -/
import Derived.Test.YtkkaejbdekdljaaDoorLh
import Derived.Test.YtkkaejbdekdljaaDoorKTwos
import Derived.Test.YtkkaejbdekdljaaDoorAInts
set_option linter.unusedVariables false
set_option linter.unusedSimpArgs false
namespace Go.Proofs.YtkkaejbdekdljaaDoor
open Go.RowKit

theorem twos_eq (l : List (Int × Int)) : twos l = cellsL encTwos l := rfl
theorem nats_eq (r : List Nat) : nats r = nums (r.map fun x : Nat => (x : Int)) := by simp [nats, nums]
theorem RowsOf.two {w : World} {B C sz : Nat} {e : TypeId} {a b : Value} {n m : Nat} {xs ys : List Value} (ha : w.ownsRow B e sz a n xs) (hb : w.ownsRow C e sz b m ys) (hC : B ≤ C) (hne : ∀ x, a.ownBlock = some x → b.ownBlock ≠ some x) :
    RowsOf w B e sz [a, b] [(n, xs), (m, ys)] := by
  refine ⟨rfl, fun i v x hv hx => ?_, fun i j v u x hij hv hu hx => ?_⟩
  · match i with
    | 0 => simp at hv hx; subst hv hx; exact ha
    | 1 => simp at hv hx; subst hv hx; exact own_mono hb hC
    | i + 2 => simp at hv
  · match i, j with
    | 0, 0 => exact absurd rfl hij
    | 0, 1 => simp at hv hu; subst hv hu; exact hne x hx
    | 1, 0 => simp at hv hu; subst hv hu; exact fun h => hne x h hx
    | 1, 1 => exact absurd rfl hij
    | i + 2, _ => simp at hv
    | 0, j + 2 => simp at hu
    | 1, j + 2 => simp at hu

set_option maxRecDepth 100000 in
set_option maxHeartbeats 4000000 in
theorem linksGroupsLaw_any (n : Int) (A : Option Addr) (m c : Nat) (l : List (Int × Int)) (w : World) (ha : Sl w A m 2 (twos l)) (hg : ErrVar w) :
    Calls Tryd.prog 3 #[.int .i64 n, .slice A m c] w fun e w' => e = .returned (.bool true) ∧ New w w' := by
  have hm := ha.le
  by_cases hbig : 300 < m
  · go_enter Tryd.func3, Tryd.ntmps3
    go_wp2_with (go_at_call 7; refine (works_any _).mono ?_; rintro e w1 ⟨rfl, hw1⟩)
    go_ret
    exact ⟨rfl, hw1⟩
  · go_enter Tryd.func3, Tryd.ntmps3
    go_wp2_with fail
    refine (refGroups_any n A m c l _ ha).mono ?_
    rintro e w1 ⟨v, r, rfl, hv, hr, hw1⟩
    obtain ⟨VA, vc, rfl⟩ := own_shape hv
    have hsv := own_sl hv
    rw [nats_eq] at hsv
    have HR := Lib.hid hr
    clear hr hv
    generalize hno : (grpErr n l).1 = no
    generalize hat : (grpErr n l).2 = at'
    have HNO := Lib.hid hno
    have HAT := Lib.hid hat
    clear hno hat
    go_wp2_with fail
    refine (lentTwos_any A m c l _ (ha.new_ hw1) (by omega)).mono ?_
    rintro e w2 ⟨g, cap, rfl, hL, hw2⟩
    have n2 := New.trans hw1 hw2
    have hcap := hL.cap
    have hsl : Sl w2 (some ⟨g, 0, none⟩) m 2 (twos l) := by
      have h := hL
      rw [cellsL_append] at h
      exact h.sl (by rw [cellsL_length encTwos_len, ha.length encTwos_len (by decide)])
    have HL := Lib.hid hL
    clear hL hcap
    go_wp2_with fail
    refine (linksGroups_any n _ m cap l _ hsl).mono ?_
    rintro e w3 ⟨va, ea, ra, rfl, hea, hva, hra, hw3⟩
    have hr1 := hra.unique HR.out
    subst hr1
    clear hra
    have n3 := New.trans n2 hw3
    go_wp2_with fail
    refine (linksGroups_any n _ m cap l _ (hsl.new_ hw3)).mono ?_
    rintro e w4 ⟨vb, eb, rb, rfl, heb, hvb, hrb, hw4⟩
    have hr1 := hrb.unique HR.out
    subst hr1
    clear hrb
    rw [HNO.out, HAT.out] at hea heb
    have n4 := New.trans n3 hw4
    obtain ⟨AA, ac, rfl⟩ := own_shape hva
    obtain ⟨BA, bc, rfl⟩ := own_shape hvb
    have hrows : RowsOf w4 w2.heap.size 3 1 [.slice AA rb.length ac, .slice BA rb.length bc] [(rb.length, nats rb), (rb.length, nats rb)] := RowsOf.two (own_new hva hw4) hvb hw3.size (fun x hx hx2 => by
      have h1 := (hva.lt x hx).2
      have h2 := (hvb.lt x hx2).1
      omega)
    have hsa : Sl w4 AA rb.length 1 (nums (rb.map fun x : Nat => (x : Int))) := by have := own_sl (own_new hva hw4); rwa [nats_eq] at this
    have hsb : Sl w4 BA rb.length 1 (nums (rb.map fun x : Nat => (x : Int))) := by have := own_sl hvb; rwa [nats_eq] at this
    have HLEN := Lib.hid (show rb.length ≤ 4294967296 by
      have := HR.out
      unfold GrpOut at this
      split at this
      · rename_i h0
        have h1 : n.toNat ≤ 4096 := by
          have h2 : ¬ n < 0 ∧ ¬ 4096 < n := by
            refine ⟨fun h => ?_, fun h => ?_⟩
            · simp [grpErr, h] at h0
            · have h3 : ¬ n < 0 := by omega
              simp [grpErr, h, h3] at h0
          omega
        omega
      · rw [this]; simp)
    have HROWS := Lib.hid hrows
    clear hva hvb hrows
    have hsv4 := hsv.new_ (New.trans (New.trans hw2 hw3) hw4)
    clear hsv
    go_wp2_with fail
    refine (told_any hea _ (hg.new_ n4)).mono ?_
    rintro e w5 ⟨rfl, hw5⟩
    go_wp2_with fail
    refine (told_any heb _ ((hg.new_ n4).new_ hw5)).mono ?_
    rintro e w6 ⟨rfl, hw6⟩
    have n46 := New.trans hw5 hw6
    go_wp2_with fail
    refine (sameInts_any AA VA _ _ ac vc _ _ _ (hsa.new_ n46) (hsv4.new_ n46)).mono ?_
    rintro e w7 ⟨rfl, hw7⟩
    have n47 := New.trans n46 hw7
    go_wp2_with fail
    refine (sameInts_any BA VA _ _ bc vc _ _ _ (hsb.new_ n47) (hsv4.new_ n47)).mono ?_
    rintro e w8 ⟨rfl, hw8⟩
    have n48 := New.trans n47 hw8
    go_wp2_with fail
    refine (works_any _).mono ?_
    rintro e w9 ⟨rfl, hw9⟩
    have n49 := New.trans n48 hw9
    go_wp2_with fail
    refine (apartInts_any (some ⟨w9.heap.size, 0, none⟩) 2 2 w2.heap.size [.slice AA rb.length ac, .slice BA rb.length bc] _ _ (Sl.lit w9 24 _ 2 1 rfl (by omega)) (fun ad had hown => by
        injection had with had
        subst had
        have := (HROWS.out.owns hown).2.1
        have := n49.size
        simp only at *
        omega) (HROWS.out.new_ (New.trans n49 ((Mod.refl _ _).alloc _))) (fun x hx => by
        simp at hx
        rw [hx]; exact HLEN.out) (by omega) (by simp; have := n49.size; have := (New.trans hw3 hw4).size; omega)).mono ?_
    rintro e w10 ⟨rfl, hw10⟩
    have hLk : Lent w10 w1.heap.size 67 2 g m cap (cellsL encTwos (l ++ marksTwos 16)) := by
      have h1 := ((HL.out.new_ (New.trans hw3 hw4)).new_ n49).new_ ((Mod.refl (fun _ => False) w9).alloc (.cells #[.slice AA rb.length ac, .slice BA rb.length bc] 24))
      exact own_mod h1 hw10 (fun x hx hown => by
        have h2 := HROWS.out.owns hown
        have h3 := (HL.out.lt x hx).2
        omega)
    have n10 : New w w10 := Mod.trans (New.trans (New.trans n4 n49) ((Mod.refl _ _).alloc _)) hw10 (fun i hi hown => by
      have h2 := (HROWS.out.owns hown).1
      have := n2.size
      omega)
    go_wp2_with fail
    refine (keptTwos_any g A m cap c _ l _ hLk (ha.new_ n10) (by omega)).mono ?_
    rintro e w11 ⟨rfl, hw11⟩
    go_wp2
    go_ret
    exact ⟨rfl, New.trans n10 hw11⟩
end Go.Proofs.YtkkaejbdekdljaaDoor
