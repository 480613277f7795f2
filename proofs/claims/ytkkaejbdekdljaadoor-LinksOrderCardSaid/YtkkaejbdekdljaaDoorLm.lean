/- Walks: the law LinksOrder. -/
import Derived.Test.YtkkaejbdekdljaaDoorLk
import Derived.Test.YtkkaejbdekdljaaDoorLi
import Derived.Test.YtkkaejbdekdljaaDoorKInts
set_option linter.unusedVariables false
set_option linter.unusedSimpArgs false
namespace Go.Proofs.YtkkaejbdekdljaaDoor
open Go.RowKit

theorem nums_eq (l : List Int) : nums l = cellsL encInts l := by
  induction l with
  | nil => rfl
  | cons a l ih => simp [nums, cellsL, encInts] at *; try exact ih
theorem run_length (l : List (Int × Int)) (prio : Nat → Int) (n : Nat) : ∀ f out, (run l prio n f out).length ≤ out.length + f := by
  intro f
  induction f with
  | zero => intro out; simp [run]
  | succ f ih => intro out; simp only [run]; split
                 · omega
                 · exact Nat.le_trans (ih _) (by simp; omega)
theorem ordOut_length (n : Int) (l : List (Int × Int)) (pn : Nat) (prio : List Int) : (ordOut n l pn prio).length ≤ 4096 := by
  unfold ordOut
  split
  · rename_i h0
    have h2 : ¬ n < 0 ∧ ¬ 4096 < n := by
      refine ⟨fun h => ?_, fun h => ?_⟩
      · simp [ordErr, h] at h0
      · have h3 : ¬ n < 0 := by omega
        simp [ordErr, h, h3] at h0
    have := run_length l (prioOf prio) n.toNat n.toNat []
    simp [ordered] at *
    omega
  · simp

set_option maxRecDepth 100000 in
set_option maxHeartbeats 4000000 in
theorem linksOrderLaw_any (n : Int) (A P : Option Addr) (m c pn pc : Nat) (l : List (Int × Int)) (prio : List Int) (w : World) (ha : Sl w A m 2 (twos l)) (hp : Sl w P pn 1 (nums prio)) (hg : ErrVar w) :
    Calls Tryd.prog 4 #[.int .i64 n, .slice A m c, .slice P pn pc] w fun e w' => e = .returned (.bool true) ∧ New w w' := by
  have hm := ha.le
  have hpm := hp.le
  by_cases hbig : 300 < m
  · go_enter Tryd.func4, Tryd.ntmps4
    go_wp2_with (go_at_call 7; refine (works_any _).mono ?_; rintro e w1 ⟨rfl, hw1⟩)
    go_ret
    exact ⟨rfl, hw1⟩
  by_cases hbig2 : 300 < pn
  · go_enter Tryd.func4, Tryd.ntmps4
    go_wp2_with (go_at_call 7; refine (works_any _).mono ?_; rintro e w1 ⟨rfl, hw1⟩)
    go_ret
    exact ⟨rfl, hw1⟩
  · have HLEN := Lib.hid (show (ordOut n l pn prio).length ≤ 4294967296 from Nat.le_trans (ordOut_length n l pn prio) (by omega))
    generalize hno : (ordErr n l pn prio).1 = no
    generalize hat : (ordErr n l pn prio).2 = at'
    generalize hou : ordOut n l pn prio = out at HLEN
    have HNO := Lib.hid hno
    have HAT := Lib.hid hat
    have HOU := Lib.hid hou
    clear hno hat hou
    go_enter Tryd.func4, Tryd.ntmps4
    go_wp2_with fail
    refine (refOrder_any n A P m c pn pc l prio _ ha hp (by omega)).mono ?_
    rintro e w1 ⟨v, rfl, hv, hw1⟩
    rw [HNO.out, HAT.out]
    rw [HOU.out] at hv
    obtain ⟨VA, vc, rfl⟩ := own_shape hv
    have hsv := own_sl hv
    rw [nats_eq] at hsv
    clear hv
    go_wp2_with fail
    refine (lentTwos_any A m c l _ (ha.new_ hw1) (by omega)).mono ?_
    rintro e w2 ⟨g, cap, rfl, hL, hw2⟩
    have n2 := New.trans hw1 hw2
    have hcap := hL.cap
    have hsl : Sl w2 (some ⟨g, 0, none⟩) m 2 (twos l) := by
      have h := hL
      rw [cellsL_append] at h
      exact h.sl (by rw [cellsL_length encTwos_len, ha.length encTwos_len (by decide)])
    have HL := Lib.hid hL
    clear hL hcap
    go_wp2_with fail
    refine (lentInts_any P pn pc prio _ (by have := hp.new_ n2; rwa [nums_eq] at this) (by omega)).mono ?_
    rintro e w3 ⟨g2, cap2, rfl, hL2, hw3⟩
    have n3 := New.trans n2 hw3
    have hcap2 := hL2.cap
    have hsl2 : Sl w3 (some ⟨g2, 0, none⟩) pn 1 (nums prio) := by
      have h := hL2
      rw [cellsL_append] at h
      rw [nums_eq]
      exact h.sl (by rw [cellsL_length encInts_len, (show Sl w P pn 1 (cellsL encInts prio) by rw [← nums_eq]; exact hp).length encInts_len (by decide)])
    have HL2 := Lib.hid hL2
    clear hL2 hcap2
    go_wp2_with fail
    refine (linksOrder_any n _ _ m cap pn cap2 l prio _ (hsl.new_ hw3) hsl2 (by omega)).mono ?_
    rintro e w4 ⟨va, ea, rfl, hea, hva, hw4⟩
    have n4 := New.trans n3 hw4
    go_wp2_with fail
    refine (linksOrder_any n _ _ m cap pn cap2 l prio _ ((hsl.new_ hw3).new_ hw4) (hsl2.new_ hw4) (by omega)).mono ?_
    rintro e w5 ⟨vb, eb, rfl, heb, hvb, hw5⟩
    rw [HNO.out, HAT.out] at hea heb
    rw [HOU.out] at hva hvb
    have n5 := New.trans n4 hw5
    obtain ⟨AA, ac, rfl⟩ := own_shape hva
    obtain ⟨BA, bc, rfl⟩ := own_shape hvb
    have hrows : RowsOf w5 w3.heap.size 3 1 [.slice AA out.length ac, .slice BA out.length bc] [(out.length, nats out), (out.length, nats out)] := RowsOf.two (own_new hva hw5) hvb hw4.size (fun x hx hx2 => by
      have h1 := (hva.lt x hx).2
      have h2 := (hvb.lt x hx2).1
      omega)
    have hsa : Sl w5 AA out.length 1 (nums (out.map fun x : Nat => (x : Int))) := by have := own_sl (own_new hva hw5); rwa [nats_eq] at this
    have hsb : Sl w5 BA out.length 1 (nums (out.map fun x : Nat => (x : Int))) := by have := own_sl hvb; rwa [nats_eq] at this
    have HROWS := Lib.hid hrows
    clear hva hvb hrows
    have hsv5 := hsv.new_ (New.trans (New.trans (New.trans hw2 hw3) hw4) hw5)
    clear hsv
    go_wp2_with fail
    refine (told_any hea _ (hg.new_ n5)).mono ?_
    rintro e w6 ⟨rfl, hw6⟩
    go_wp2_with fail
    refine (told_any heb _ ((hg.new_ n5).new_ hw6)).mono ?_
    rintro e w7 ⟨rfl, hw7⟩
    have n57 := New.trans hw6 hw7
    go_wp2_with fail
    refine (sameInts_any AA VA _ _ ac vc _ _ _ (hsa.new_ n57) (hsv5.new_ n57)).mono ?_
    rintro e w8 ⟨rfl, hw8⟩
    have n58 := New.trans n57 hw8
    go_wp2_with fail
    refine (sameInts_any BA VA _ _ bc vc _ _ _ (hsb.new_ n58) (hsv5.new_ n58)).mono ?_
    rintro e w9 ⟨rfl, hw9⟩
    have n59 := New.trans n58 hw9
    go_wp2_with fail
    refine (works_any _).mono ?_
    rintro e w10 ⟨rfl, hw10⟩
    have n510 := New.trans n59 hw10
    go_wp2_with fail
    refine (apartInts_any (some ⟨w10.heap.size, 0, none⟩) 2 2 w3.heap.size [.slice AA out.length ac, .slice BA out.length bc] _ _ (Sl.lit w10 24 _ 2 1 rfl (by omega)) (fun ad had hown => by
        injection had with had
        subst had
        have := (HROWS.out.owns hown).2.1
        have := n510.size
        simp only at *
        omega) (HROWS.out.new_ (New.trans n510 ((Mod.refl _ _).alloc _))) (fun x hx => by
        simp at hx
        rw [hx]; exact HLEN.out) (by omega) (by simp; have := n510.size; have := (New.trans hw4 hw5).size; omega)).mono ?_
    rintro e w11 ⟨rfl, hw11⟩
    have hLk : Lent w11 w1.heap.size 67 2 g m cap (cellsL encTwos (l ++ marksTwos 16)) := by
      have h1 := ((HL.out.new_ (New.trans (New.trans hw3 hw4) hw5)).new_ n510).new_ ((Mod.refl (fun _ => False) w10).alloc (.cells #[.slice AA out.length ac, .slice BA out.length bc] 24))
      exact own_mod h1 hw11 (fun x hx hown => by
        have h2 := HROWS.out.owns hown
        have h3 := (HL.out.lt x hx).2
        have := hw3.size
        omega)
    have hLk2 : Lent w11 w2.heap.size 3 1 g2 pn cap2 (cellsL encInts (prio ++ marksInts 16)) := by
      have h1 := ((HL2.out.new_ (New.trans hw4 hw5)).new_ n510).new_ ((Mod.refl (fun _ => False) w10).alloc (.cells #[.slice AA out.length ac, .slice BA out.length bc] 24))
      exact own_mod h1 hw11 (fun x hx hown => by
        have h2 := HROWS.out.owns hown
        have h3 := (HL2.out.lt x hx).2
        omega)
    have n11 : New w w11 := Mod.trans (New.trans (New.trans n5 n510) ((Mod.refl _ _).alloc _)) hw11 (fun i hi hown => by
      have h2 := (HROWS.out.owns hown).1
      have := n3.size
      omega)
    go_wp2_with fail
    refine (keptTwos_any g A m cap c _ l _ hLk (ha.new_ n11) (by omega)).mono ?_
    rintro e w12 ⟨rfl, hw12⟩
    go_wp2_with fail
    refine (keptInts_any g2 P pn cap2 pc _ prio _ (own_new hLk2 hw12) (by have := (hp.new_ n11).new_ hw12; rwa [nums_eq] at this) (by omega)).mono ?_
    rintro e w13 ⟨rfl, hw13⟩
    go_wp2
    go_ret
    exact ⟨rfl, New.trans (New.trans n11 hw12) hw13⟩
end Go.Proofs.YtkkaejbdekdljaaDoor
