/- Walks: the law LinksPool. -/
import Derived.Test.YtkkaejbdekdljaaDoorLo
import Derived.Test.YtkkaejbdekdljaaDoorLn
import Derived.Test.YtkkaejbdekdljaaDoorALegs
import Derived.Test.YtkkaejbdekdljaaDoorT2
import Derived.Test.YtkkaejbdekdljaaDoorLi
import Derived.Deep.RegionHeld3
set_option linter.unusedVariables false
set_option linter.unusedSimpArgs false
namespace Go.Proofs.YtkkaejbdekdljaaDoor
open Go.RowKit

def tot (ls : List (List Leg5)) : Nat := (ls.map fun l => 1 + l.length).sum
theorem tot_next {ls : List (List Leg5)} {k : Nat} {l : List Leg5} (h : ls[k]? = some l) : tot (ls.take (k + 1)) = tot (ls.take k) + 1 + l.length := by
  rw [List.take_add_one, h]; simp [tot]; omega
theorem tot_flat (ls : List (List Leg5)) : ls.flatten.length + ls.length = tot ls := by
  induction ls with
  | nil => rfl
  | cons a l ih => simp only [List.flatten_cons, List.length_append, List.length_cons, tot, List.map_cons, List.sum_cons] at ih ⊢; omega
theorem tot_one {ls : List (List Leg5)} {k : Nat} {l : List Leg5} (h : ls[k]? = some l) : l.length ≤ tot ls := by
  have h1 := tot_next h
  have h2 : tot (ls.take (k + 1)) + tot (ls.drop (k + 1)) = tot ls := by
    rw [tot, tot, tot, ← List.sum_append, ← List.map_append, List.take_append_drop]
  omega
theorem poolEnd_length (p : Int × List Leg5) : (poolEnd p).2.length ≤ 4 := by
  unfold poolEnd
  split
  · simp
  · split
    · simp
    · split
      · simp
      · simp only; omega
theorem plainIs_any {v : Value} {a : Int} (h : PlainIs v a) (w : World) (hg : ErrVar w) :
    Calls Tryd.prog 22 #[v, .int .i64 a] w fun e w' => e = .returned (.bool true) ∧ New w w' := by
  rcases h with ⟨rfl, rfl⟩ | ⟨h1, h2, h3⟩
  · exact plain_nil w
  · exact plain_any h3 h1 h2 w hg
theorem two_step {w0 w w' : World} {p q : Addr} {x y : Value} (h : (w.cell? p = some x ∧ w.cell? q = some y) ∧ New w0 w) (hm : New w w') : (w'.cell? p = some x ∧ w'.cell? q = some y) ∧ New w0 w' :=
  ⟨⟨hm.cell h.1.1 (fun h => h), hm.cell h.1.2 (fun h => h)⟩, New.trans h.2 hm⟩
/-- Lists that were lent, each in its block. -/
def LentRows (w : World) (B : Nat) (vs : List Value) (ls : List (List Leg5)) : Prop :=
  ∀ (i : Nat) (v : Value) (l : List Leg5), vs[i]? = some v → ls[i]? = some l → ∃ g cap, v = .slice (some ⟨g, 0, none⟩) l.length cap ∧ Lent w B 84 5 g l.length cap (cellsL encLegs (l ++ marksLegs 16))
theorem LentRows.new_ {w w' : World} {B : Nat} {vs : List Value} {ls : List (List Leg5)} (h : LentRows w B vs ls) (hm : New w w') : LentRows w' B vs ls := fun i v l hv hl => by
  obtain ⟨g, cap, e, hL⟩ := h i v l hv hl
  exact ⟨g, cap, e, hL.new_ hm⟩
theorem LentRows.nest {w : World} {B C n c : Nat} {IA : Option Addr} {vs : List Value} {ls : List (List Leg5)} (h : LentRows w B vs ls) (ho : Sl w IA n 1 vs) (hl : ls.length = n) : Nest encLegs 5 w IA n vs ls :=
  ⟨ho, hl, fun i v l hv hli => by
    obtain ⟨g, cap, e, hL⟩ := h i v l hv hli
    rw [cellsL_append] at hL
    exact ⟨_, _, e, hL.sl (cellsL_length encLegs_len l)⟩⟩

set_option maxRecDepth 100000 in
set_option maxHeartbeats 4000000 in
theorem linksPoolLaw_any (A : Option Addr) (n c : Nat) (vs : List Value) (ls : List (List Leg5)) (w : World) (hl : Nest encLegs 5 w A n vs ls) (hQ : ∀ (i k : Nat) (l : List Leg5) (x : Leg5), ls[i]? = some l → l[k]? = some x → LegWf x)
    (hB : ∀ (i : Nat) (l : List Leg5), ls[i]? = some l → l.length ≤ 140737488355328) (hg : ErrVar w) :
    Calls Tryd.prog 5 #[.slice A n c] w fun e w' => e = .returned (.bool true) ∧ New w w' := by
  have hn := hl.outer.le
  have HB := Lib.hid hB
  have HQ := Lib.hid hQ
  clear hB hQ
  go_enter Tryd.func5, Tryd.ntmps5
  go_wp2
  go_loopw [3, 4] (fun all i wr => ∃ (k : Nat) (q : Nat), k ≤ n ∧ i = .int .i64 (k : Int) ∧ all = .int .i64 (q : Int) ∧ q = tot (ls.take k) ∧ New w wr) (fun _ i _ => n - (intOf i).toNat)
  case atStart => exact ⟨0, 0, Nat.zero_le _, rfl, rfl, rfl, Mod.refl _ _⟩
  case round =>
    obtain ⟨k, q, hk, rfl, rfl, hq, hw⟩ := hrel
    have HK := Lib.hid hq
    clear hq
    by_cases hbig : 3000 < q
    · by_cases hlt : k < n
      all_goals
        go_wp2_with (go_at_call 7; refine (works_any _).mono ?_; rintro e w1 ⟨rfl, hw1⟩)
        go_ret
        exact ⟨rfl, New.trans hw hw1⟩
    by_cases hlt : k < n
    · obtain ⟨b, off, RA, rc, l, rfl, hli, hci, hsl, hvv⟩ := (hl.new_ hw).at_ hlt
      have hlb := HB.out k l hli
      have HT := Lib.hid (tot_next hli)
      clear hli hvv
      go_wp2
      go_roundw
      case rel => exact ⟨k + 1, q + 1 + l.length, by omega, by go_num, by push_cast; rfl, by rw [HT.out, HK.out], hw⟩
      case measure => simp [intOf]; omega
    · obtain rfl : k = n := by omega
      have htot : tot ls ≤ 3000 := by have := HK.out; rw [List.take_of_length_le (by have := hl.len; omega)] at this; omega
      have hfl := tot_flat ls
      have hll := hl.len
      have hflat : ls.flatten.length ≤ 3000 := by omega
      have hn3 : k ≤ 3000 := by omega
      have HONE := Lib.hid (fun (i : Nat) (l : List Leg5) (h : ls[i]? = some l) => Nat.le_trans (tot_one h) htot)
      have HLL := Lib.hid hll
      have hlw := hl.new_ hw
      have hgw := hg.new_ hw
      obtain ⟨wo, rfl⟩ : ∃ wo : World, wo = wr := ⟨_, rfl⟩
      generalize hRR : poolRun [] ls.flatten = R
      have HR := Lib.hid hRR
      clear htot hfl hll hRR
      go_wp2_with fail
      refine (refPool_any A k c vs ls _ hlw hflat (fun i k l x h1 h2 => (HQ.out i k l x h1 h2).qty)).mono ?_
      rw [HR.out]
      rintro e w1 ⟨wv, rfl, hwv, hw1⟩
      generalize hpe : poolEnd R = PE at hwv
      have HPE := Lib.hid hpe
      clear hpe
      obtain ⟨no, out⟩ := PE
      obtain ⟨WA, wc, rfl⟩ := own_shape hwv
      have hsw := own_sl hwv
      clear hwv
      have hl1 := hlw.new_ hw1
      go_wp2
      go_loopw [7, 8] (fun v i wr => ∃ (k' : Nat) (us : List Value), k' ≤ k ∧ i = .int .i64 (k' : Int) ∧ us.length = k' ∧ wr.ownsRow w1.heap.size 43 1 v k' us ∧ LentRows wr w1.heap.size us ls ∧ New w1 wr) (fun _ i _ => k - (intOf i).toNat)
      case atStart => exact ⟨0, [], Nat.zero_le _, rfl, rfl, own_nil _ _ _ _, fun i v l h => by simp at h, Mod.refl _ _⟩
      case round =>
        obtain ⟨i, us, hi, rfl, hul, hown, hlent, hw2⟩ := hrel
        have HUL := Lib.hid hul
        have HLENT := Lib.hid hlent
        clear hul hlent
        by_cases hik : i < k
        · obtain ⟨b, off, RA, rc, l, rfl, hli, hci, hsl, hvv⟩ := (hl1.new_ hw2).at_ hik
          have hl3 := HONE.out i l hli
          have HLI := Lib.hid hli
          clear hli hvv
          go_wp2_with fail
          refine (lentLegs_any RA l.length rc l _ hsl (by omega)).mono ?_
          rintro e w3 ⟨g, cap, rfl, hL, hw3⟩
          have hown3 := own_new hown hw3
          have hw23 := New.trans hw2 hw3
          have HL := Lib.hid hL
          clear hL
          go_wp2_with (at_builtin; go_must (refine wpList_app Tryd.sltOutLegs rfl (.tmp 47) (.tmp 53) rfl w1.heap.size _ i _ rfl (hown3.alloc _) ⟨w3.heap.size, 0, none⟩ 1 1 [.slice (some ⟨g, 0, none⟩) l.length cap] rfl rfl (cells_new _ _ _) ?c1 ?c2 ?c3 ?_))
          case c1 => simp [Value.oneCell']
          case c2 => omega
          case c3 => simp; have := hw23.size; omega
          intro v' w4 hown4 hg4 _
          have hw4 : New w1 w4 := New.grown (hw23.alloc _) (hown3.alloc _) (Nat.le_refl _) hg4
          have hle : LentRows w4 w1.heap.size (us ++ [.slice (some ⟨g, 0, none⟩) l.length cap]) ls := fun j v lj hv hlj => by
            by_cases hj : j < us.length
            · rw [List.getElem?_append_left hj] at hv
              obtain ⟨g', cap', e, hL'⟩ := HLENT.out j v lj hv hlj
              refine ⟨g', cap', e, ?_⟩
              have h1 := (hL'.new_ hw3).new_ ((Mod.refl _ w3).alloc (.cells #[.slice (some ⟨g, 0, none⟩) l.length cap] 43))
              exact World.ownsRow.kept h1 hg4 (own_type_ne h1 (hown3.alloc _) (by decide))
            · have hj2 : j = us.length := by have := (List.getElem?_eq_some_iff.1 hv).1; simp at this; omega
              subst hj2
              rw [List.getElem?_append_right (Nat.le_refl _), Nat.sub_self] at hv
              simp at hv
              have e1 := HLI.out
              rw [← HUL.out, hlj] at e1
              injection e1 with e1
              subst e1
              refine ⟨g, cap, hv.symm, ?_⟩
              have h1 := (HL.out).new_ ((Mod.refl _ w3).alloc (.cells #[.slice (some ⟨g, 0, none⟩) lj.length cap] 43))
              exact own_mono (World.ownsRow.kept h1 hg4 (own_type_ne h1 (hown3.alloc _) (by decide))) hw2.size
          have HLE := Lib.hid hle
          clear hle hg4
          go_wp2
          go_roundw
          case rel => exact ⟨i + 1, us ++ [.slice (some ⟨g, 0, none⟩) l.length cap], by omega, by go_num, by simp; exact HUL.out, hown4, HLE.out, hw4⟩
          case measure => simp [intOf]; omega
        · obtain rfl : i = k := by omega
          obtain ⟨IA, ic, rfl⟩ := own_shape hown
          have hsi := own_sl hown
          have hnest : Nest encLegs 5 wr IA i us ls := LentRows.nest (C := 0) (c := 0) HLENT.out hsi HLL.out
          obtain ⟨w2, rfl⟩ : ∃ w2 : World, w2 = wr := ⟨_, rfl⟩
          have n2 := New.trans (New.trans hw hw1) hw2
          have HNEST := Lib.hid hnest
          clear hnest
          go_wp2_with fail
          refine (linksPool_any IA i ic us ls _ HNEST.out hflat HQ.out).mono ?_
          rw [HR.out]
          rintro e w3 ⟨va, ea, rfl, hea, hva, hw3⟩
          have n3 := New.trans n2 hw3
          go_wp2_with fail
          refine (linksPool_any IA i ic us ls _ (HNEST.out.new_ hw3) hflat HQ.out).mono ?_
          rw [HR.out]
          rintro e w4 ⟨vb, eb, rfl, heb, hvb, hw4⟩
          rw [HPE.out] at hea heb hva hvb
          simp only at hea heb hva hvb
          have n4 := New.trans n3 hw4
          obtain ⟨AA, ac, rfl⟩ := own_shape hva
          obtain ⟨BA, bc, rfl⟩ := own_shape hvb
          have hrows : RowsOf w4 w2.heap.size 84 5 [.slice AA out.length ac, .slice BA out.length bc] [(out.length, cellsL encLegs out), (out.length, cellsL encLegs out)] := RowsOf.two (own_new hva hw4) hvb hw3.size (fun x hx hx2 => by
            have h1 := (hva.lt x hx).2
            have h2 := (hvb.lt x hx2).1
            omega)
          have hsa := own_sl (own_new hva hw4)
          have hsb := own_sl hvb
          have hol : out.length ≤ 4294967296 := by have := poolEnd_length R; rw [HPE.out] at this; simp only at this; omega
          have HLEN := Lib.hid hol
          have HROWS := Lib.hid hrows
          have hsw4 := hsw.new_ (New.trans (New.trans hw2 hw3) hw4)
          clear hva hvb hrows hol hsw
          go_wp2_with fail
          refine (plainIs_any hea _ (hg.new_ n4)).mono ?_
          rintro e w5 ⟨rfl, hw5⟩
          go_wp2_with fail
          refine (plainIs_any heb _ ((hg.new_ n4).new_ hw5)).mono ?_
          rintro e w6 ⟨rfl, hw6⟩
          have n46 := New.trans hw5 hw6
          go_wp2_with fail
          refine (sameLegs_any AA WA _ ac wc _ _ (hsa.new_ n46) (hsw4.new_ n46)).mono ?_
          rintro e w7 ⟨rfl, hw7⟩
          have n47 := New.trans n46 hw7
          go_wp2_with fail
          refine (sameLegs_any BA WA _ bc wc _ _ (hsb.new_ n47) (hsw4.new_ n47)).mono ?_
          rintro e w8 ⟨rfl, hw8⟩
          have n48 := New.trans n47 hw8
          go_wp2_with fail
          refine (works_any _).mono ?_
          rintro e w9 ⟨rfl, hw9⟩
          have n49 := New.trans n48 hw9
          go_wp2_with fail
          refine (apartLegs_any (some ⟨w9.heap.size, 0, none⟩) 2 2 w2.heap.size [.slice AA out.length ac, .slice BA out.length bc] _ _ (Sl.lit w9 43 _ 2 1 rfl (by omega)) (fun ad had hown => by
              injection had with had
              subst had
              have := (HROWS.out.owns hown).2.1
              have := n49.size
              simp only at *
              omega) (HROWS.out.new_ (New.trans n49 ((Mod.refl _ _).alloc _))) (fun x hx => by
              simp at hx
              rw [hx]; exact HLEN.out) (by omega) (by simp; have := n49.size; have := (New.trans hw3 hw4).size; omega)).mono ?_
          rintro e w10 ⟨rfl, hw10⟩
          have hq1 : Mod (OwnS [.slice AA out.length ac, .slice BA out.length bc]) w2 w10 := Mod.trans (Mod.mono (New.trans (New.trans (New.trans hw3 hw4) n49) ((Mod.refl _ _).alloc _)) (fun _ _ h => h.elim)) hw10 (fun _ _ h => h)
          have hlk : LentRows w10 w1.heap.size us ls := fun j v lj hv hlj => by
            obtain ⟨g, cap, e, hL⟩ := HLENT.out j v lj hv hlj
            exact ⟨g, cap, e, own_mod hL hq1 (fun x hx hown => by
              have h2 := (HROWS.out.owns hown).1
              have h3 := (hL.lt x hx).2
              omega)⟩
          have hsi10 : Sl w10 IA i 1 us := own_sl (own_mod hown hq1 (fun x hx hown' => by
              have h2 := (HROWS.out.owns hown').1
              have h3 := (hown.lt x hx).2
              omega))
          have n10 : New w w10 := Mod.trans n2 hq1 (fun x hx hown => by
            have h2 := (HROWS.out.owns hown).1
            have := n2.size
            omega)
          have HLK := Lib.hid hlk
          clear hlk hq1
          go_wp2
          go_loopw [14] (fun j wr => ∃ k' : Nat, k' ≤ i ∧ j = .int .i64 (k' : Int) ∧ New w10 wr) (fun j _ => i - (intOf j).toNat)
          case atStart => exact ⟨0, Nat.zero_le _, rfl, Mod.refl _ _⟩
          case round =>
            obtain ⟨j, hj, rfl, hwj⟩ := hrel
            by_cases hji : j < i
            · obtain ⟨b, off, RA, rc, l, rfl, hli, hci, hsl, hvv⟩ := ((hl.new_ n10).new_ hwj).at_ hji
              obtain ⟨b2, off2, v2, rfl, hv2, hcj⟩ := (hsi10.new_ hwj).at1 hji
              obtain ⟨g, cap, rfl, hL⟩ := HLK.out j v2 l hv2 hli
              have hl3 := HONE.out j l hli
              have hL2 := hL.new_ hwj
              obtain ⟨hc1, hc2⟩ := hL2.cap
              have KL : ∀ W, (W.cell? ⟨b, off + j, none⟩ = some (.slice RA l.length rc) ∧ W.cell? ⟨b2, off2 + j, none⟩ = some (.slice (some ⟨g, 0, none⟩) l.length cap)) ∧ New wr W →
                  Calls Tryd.prog 25 #[.slice (some ⟨g, 0, none⟩) l.length cap, .slice RA l.length rc] W fun e W' => e = .returned (.bool true) ∧ New W W' := fun W hW =>
                keptLegs_any g RA l.length cap rc _ l W (hL2.new_ hW.2) (hsl.new_ hW.2) (by omega)
              have HKL := Lib.hid KL
              clear KL hL hL2 hv2 hli hvv
              go_wp2
              go_region_held3 (fun w' => (w'.cell? ⟨b, off + j, none⟩ = some (.slice RA l.length rc) ∧ w'.cell? ⟨b2, off2 + j, none⟩ = some (.slice (some ⟨g, 0, none⟩) l.length cap)) ∧ New wr w') ((first | exact ⟨⟨‹_›, ‹_›⟩, (Mod.refl _ _).drew⟩ | (refine two_step ?_ hw11; assumption))) ((go_at_call 25; refine (HKL.out _ (by assumption)).mono ?_; rintro e w11 ⟨rfl, hw11⟩))
              all_goals
                go_wp2
                go_roundw
                case rel => exact ⟨j + 1, by omega, by go_num, New.trans hwj (by obtain ⟨_, hn⟩ := ‹_ ∧ New wr _›; exact hn)⟩
                case measure => simp [intOf]; omega
            · go_wp2
              go_ret
              exact ⟨rfl, New.trans n10 hwj⟩
end Go.Proofs.YtkkaejbdekdljaaDoor
