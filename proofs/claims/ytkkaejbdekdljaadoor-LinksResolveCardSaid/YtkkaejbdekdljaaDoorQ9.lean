/- Words and walks, part 9 of 19. -/
import Derived.Test.YtkkaejbdekdljaaDoorProg
import Derived.Laws.StructEq
import Derived.Deep.QuietTactic
import Derived.BigQuiet
import Derived.Test.YtkkaejbdekdljaaDoorQ2
import Derived.Test.YtkkaejbdekdljaaDoorQ6
import Derived.Test.YtkkaejbdekdljaaDoorQ8
/- Walks: the statements' kit at lists of the kind Links. (Printed by gen_kit.py.) -/
set_option linter.unusedVariables false
set_option linter.unusedSimpArgs false
namespace Go.Proofs.YtkkaejbdekdljaaDoor
open Go.RowKit

def encLinks : Int × ByteArray → List Value := fun (x0, x1) => [.int .i64 x0, .string x1]
theorem encLinks_len : ∀ p, (encLinks p).length = 2 := fun _ => rfl
theorem Tryd.sltLinks : SlT Tryd.prog 55 96 2 24 := ⟨Tryd.underlying55, ⟨.agg #[.int .i64 0, .string ⟨#[]⟩], by kernel_rfl, rfl⟩, by decide, by decide⟩
def markLinks (i : Int) : Int × ByteArray := (-100, mkText i)
def marksLinks (k : Nat) : List (Int × ByteArray) := (List.range k).map fun i : Nat => markLinks (i : Int)
theorem marksLinks_succ (k : Nat) : marksLinks (k + 1) = marksLinks k ++ [markLinks (k : Int)] := by simp [marksLinks, List.range_succ]
theorem marksLinks_length (k : Nat) : (marksLinks k).length = k := by simp [marksLinks]

theorem markLinks_any (i : Int) (w : World) (hi : -4294967312 ≤ i ∧ i ≤ 4294967312) :
    Calls Tryd.prog 71 #[.int .i64 90, .int .i64 i] w fun e w' => e = .returned (.agg #[.int .i64 (-100), .string (mkText i)]) ∧ New w w' := by
  obtain ⟨h1, h2⟩ := hi
  go_enter Tryd.func71, Tryd.ntmps71
  have hb0 := Blk.new w 96 [.int .i64 0, .string ⟨#[]⟩]
  go_wp2_with (go_at_call 78; refine (markText_any i _ ⟨h1, h2⟩).mono ?_; rintro e w1 ⟨rfl, hw1⟩; have hb := hb0.new_ hw1; have c0 := hb.cell 0; have c1 := hb.cell 1; have f0 := hb.frozen 0; have f1 := hb.frozen 1; simp only [List.getElem?_cons_zero, List.getElem?_cons_succ] at c0 c1; have hbl := hb.lt)
  exact bodyPost_ret (v := .agg #[.int .i64 (-100), .string (mkText i)]) (by simp [results, Tryd.results71, go_sem, *]) rfl ⟨rfl, Mod.trans (New.trans ((Mod.refl _ _).alloc _) hw1) ((mod_set _ _ _ _).trans (mod_set _ _ _ _) (fun _ _ h => h)) (fun x hx h => by omega)⟩

def FullLinksPost (w : World) (n : Nat) (l : List (Int × ByteArray)) (e : Ending) (w' : World) : Prop :=
  ∃ v, e = .returned v ∧ w'.ownsRow w.heap.size 96 2 v (n + 16) (cellsL encLinks (l ++ marksLinks 16)) ∧ New w w'
set_option maxHeartbeats 1000000 in
theorem fullLinks_any (A : Option Addr) (n c : Nat) (l : List (Int × ByteArray)) (w : World) (ha : Sl w A n 2 (cellsL encLinks l)) (hn : n ≤ 4294967296) :
    Calls Tryd.prog 57 #[.slice A n c] w (FullLinksPost w n l) := by
  have HL := Lib.hid (ha.length encLinks_len (by decide))
  go_enter Tryd.func57, Tryd.ntmps57
  go_wp2
  go_loopw [3, 4] (fun v i wr => ∃ k : Nat, k ≤ n ∧ i = .int .i64 (k : Int) ∧ wr.ownsRow w.heap.size 96 2 v k (cellsL encLinks (l.take k)) ∧ New w wr) (fun _ i _ => n - (intOf i).toNat)
  case atStart => exact ⟨0, Nat.zero_le _, rfl, own_nil _ _ _ _, Mod.refl _ _⟩
  case round =>
    obtain ⟨k, hk, rfl, hown, hw⟩ := hrel
    by_cases hlt : k < n
    · obtain ⟨b, off, ⟨x0, x1⟩, rfl, hp, hc⟩ := (ha.new_ hw).elem encLinks_len (by decide) hlt
      have c0 := hc 0 _ rfl
      have c1 := hc 1 _ rfl
      simp only [Nat.add_zero] at c0
      have HP := Lib.hid hp
      clear hp hc
      go_wp2_with (at_builtin; refine wpList_app Tryd.sltLinks rfl (.tmp 12) (.tmp 17) rfl w.heap.size _ k _ rfl (hown.alloc _) ⟨wr.heap.size, 0, none⟩ 1 1 [.int .i64 x0, .string x1] rfl rfl (cells_new _ _ _) ?c1 ?c2 ?c3 ?_)
      case c1 => simp [Value.oneCell']
      case c2 => omega
      case c3 => simp; have := hw.size; omega
      intro v' w1 hown1 hg1 _
      have hw1 : New w w1 := New.grown (hw.alloc _) (hown.alloc _) (Nat.le_refl _) hg1
      clear hg1
      go_wp2
      go_roundw
      case rel => exact ⟨k + 1, by omega, by go_num, by rw [take_next l k _ HP.out]; exact hown1, hw1⟩
      case measure => simp [intOf]; omega
    · obtain rfl : k = n := by omega
      obtain ⟨OA, oc, rfl⟩ := own_shape hown
      have hown0 : wr.ownsRow w.heap.size 96 2 (.slice OA k oc) (k + 0) (cellsL encLinks (l ++ marksLinks 0)) := by
        rw [List.take_of_length_le (by have := HL.out; omega)] at hown
        simpa [marksLinks] using hown
      have HO := Lib.hid hown0
      clear hown hown0
      go_wp2
      go_loopw [3, 5] (fun v i wr => ∃ j : Nat, j ≤ 16 ∧ i = .int .i64 (j : Int) ∧ wr.ownsRow w.heap.size 96 2 v (k + j) (cellsL encLinks (l ++ marksLinks j)) ∧ New w wr) (fun _ i _ => 16 - (intOf i).toNat)
      case atStart => exact ⟨0, by omega, rfl, HO.out, hw⟩
      case round =>
        obtain ⟨j, hj, rfl, hown, hw2⟩ := hrel
        by_cases hlt : j < 16
        · go_wp2_with fail
          refine (markLinks_any (j : Int) _ (by omega)).mono ?_
          rintro e w1 ⟨rfl, hw1⟩
          have hown1 := own_new hown hw1
          have hw3 := New.trans hw2 hw1
          go_wp2_with (at_builtin; refine wpList_app Tryd.sltLinks rfl (.tmp 23) (.tmp 26) rfl w.heap.size _ (k + j) _ rfl (hown1.alloc _) ⟨w1.heap.size, 0, none⟩ 1 1 [.int .i64 (-100), .string (mkText ((j : Int)))] rfl rfl (cells_new _ _ _) ?c1 ?c2 ?c3 ?_)
          case c1 => simp [Value.oneCell']
          case c2 => omega
          case c3 => simp; have := hw3.size; omega
          intro v' w4 hown4 hg4 _
          have hw4 : New w w4 := New.grown (hw3.alloc _) (hown1.alloc _) (Nat.le_refl _) hg4
          clear hg4
          go_wp2
          go_roundw
          case rel => exact ⟨j + 1, by omega, by go_num, by rw [marksLinks_succ, ← List.append_assoc, cellsL_append, cellsL_one]; exact hown4, hw4⟩
          case measure => simp [intOf]; omega
        · obtain rfl : j = 16 := by omega
          go_wp2
          go_ret
          exact ⟨_, rfl, hown, hw2⟩

def LentLinksPost (w : World) (n : Nat) (l : List (Int × ByteArray)) (e : Ending) (w' : World) : Prop :=
  ∃ g cap, e = .returned (.slice (some ⟨g, 0, none⟩) n cap) ∧ Lent w' w.heap.size 96 2 g n cap (cellsL encLinks (l ++ marksLinks 16)) ∧ New w w'
theorem lentLinks_any (A : Option Addr) (n c : Nat) (l : List (Int × ByteArray)) (w : World) (ha : Sl w A n 2 (cellsL encLinks l)) (hn : n ≤ 4294967296) :
    Calls Tryd.prog 27 #[.slice A n c] w (LentLinksPost w n l) := by
  go_enter Tryd.func27, Tryd.ntmps27
  go_wp2_with fail
  refine (fullLinks_any A n c l _ ha hn).mono ?_
  rintro e w1 ⟨v, rfl, hown, hw1⟩
  obtain ⟨B, cap, rfl⟩ := own_shape hown
  obtain ⟨g, rfl, hg1, hg2⟩ : ∃ g, B = some ⟨g, 0, none⟩ ∧ w.heap.size ≤ g ∧ g < w1.heap.size := by
    obtain ⟨g, cap, hv, h1, h2⟩ := hown.form (by omega)
    injection hv with hv
    exact ⟨g, hv, h1, h2⟩
  have hL : Lent w1 w.heap.size 96 2 g n cap (cellsL encLinks (l ++ marksLinks 16)) := hown
  obtain ⟨hc1, hc2⟩ := hL.cap
  have HLT := Lib.hid hL
  clear hown hL
  go_wp2
  go_ret
  exact ⟨g, cap, rfl, HLT.out, hw1⟩

theorem at_marksLinks (k i : Nat) (h : i < k) : (marksLinks k)[i]? = some (markLinks (i : Int)) := by simp [marksLinks, h]
set_option maxHeartbeats 1000000 in
theorem keptFullLinks_any (O A : Option Addr) (n oc c : Nat) (l : List (Int × ByteArray)) (w : World) (ho : Sl w O (n + 16) 2 (cellsL encLinks (l ++ marksLinks 16))) (ha : Sl w A n 2 (cellsL encLinks l)) (hn : n ≤ 4294967296) :
    Calls Tryd.prog 60 #[.slice O (n + 16) oc, .slice A n c] w fun e w' => e = .returned (.bool true) ∧ New w w' := by
  have HL := Lib.hid (ha.length encLinks_len (by decide))
  have hd : (((n + 16 : Nat) : Int) != ((n : Int) + 16)) = false := by simp
  go_enter Tryd.func60, Tryd.ntmps60
  go_wp2
  go_loopw [5] (fun i wr => ∃ k : Nat, k ≤ n + 16 ∧ i = .int .i64 (k : Int) ∧ New w wr) (fun i _ => n + 16 - (intOf i).toNat)
  case atStart => exact ⟨0, by omega, rfl, Mod.refl _ _⟩
  case round =>
    obtain ⟨k, hk, rfl, hw⟩ := hrel
    by_cases hlt : k < n + 16
    · go_wp2_with fail
      refine (markLinks_any ((k : Int) - (n : Int)) _ (by omega)).mono ?_
      rintro e w1 ⟨rfl, hw1⟩
      have hw2 := New.trans hw hw1
      obtain ⟨ob, oo, q, rfl, hpo, hco⟩ := (ho.new_ hw2).elem encLinks_len (by decide) hlt
      by_cases hkn : k < n
      · obtain ⟨b, off, ⟨x0, x1⟩, rfl, hp, hc⟩ := (ha.new_ hw2).elem encLinks_len (by decide) hkn
        have hpe : (l ++ marksLinks 16)[k]? = l[k]? := List.getElem?_append_left (by have := HL.out; omega)
        rw [hpe, hp] at hpo
        injection hpo with hpo
        subst hpo
        have c0 := hc 0 _ rfl
        have c1 := hc 1 _ rfl
        simp only [Nat.add_zero] at c0
        have o0 := hco 0 _ rfl
        have o1 := hco 1 _ rfl
        simp only [Nat.add_zero] at o0
        have hob := World.block_lt_of_cell? w1 _ o0
        have hbl := World.block_lt_of_cell? w1 _ c0
        clear hp hc hpe hco
        try clear hpo
        skip
        go_wp2
        go_quiet (fail)
        go_wp2
        go_roundw
        case rel => exact ⟨k + 1, by omega, by go_num, (hw2.alloc _).drewN _⟩
        case measure => simp [intOf]; omega
      · have hpe : (l ++ marksLinks 16)[k]? = some (markLinks ((k - n : Nat) : Int)) := by
          rw [List.getElem?_append_right (by have := HL.out; omega), at_marksLinks _ _ (by have := HL.out; omega)]
          have := HL.out
          rw [this]
        rw [hpe] at hpo
        injection hpo with hpo
        have hkk : ((k - n : Nat) : Int) = (k : Int) - (n : Int) := by omega
        rw [hkk] at hpo
        subst hpo
        have o0 := hco 0 _ rfl
        have o1 := hco 1 _ rfl
        simp only [Nat.add_zero] at o0
        have hob := World.block_lt_of_cell? w1 _ o0
        clear hpe hco hkk
        skip
        go_wp2
        go_quiet (fail)
        go_wp2
        go_roundw
        case rel => exact ⟨k + 1, by omega, by go_num, (hw2.alloc _).drewN _⟩
        case measure => simp [intOf]; omega
    · go_wp2
      go_ret
      exact ⟨rfl, hw⟩

theorem keptLinks_any (g : Nat) (A : Option Addr) (n cap c B : Nat) (l : List (Int × ByteArray)) (w : World) (hL : Lent w B 96 2 g n cap (cellsL encLinks (l ++ marksLinks 16))) (ha : Sl w A n 2 (cellsL encLinks l)) (hn : n ≤ 4294967296) :
    Calls Tryd.prog 30 #[.slice (some ⟨g, 0, none⟩) n cap, .slice A n c] w fun e w' => e = .returned (.bool true) ∧ New w w' := by
  obtain ⟨hc1, hc2⟩ := hL.cap
  have hd : ((n : Int) != (n : Int)) = false := by simp
  have HF := Lib.hid hL.full
  clear hL
  go_enter Tryd.func30, Tryd.ntmps30
  go_wp2_with fail
  refine (keptFullLinks_any _ A n cap c l _ HF.out ha hn).mono ?_
  rintro e w1 ⟨rfl, hw1⟩
  go_wp2
  go_ret
  exact ⟨rfl, hw1⟩
end Go.Proofs.YtkkaejbdekdljaaDoor
/- Words: notices: their cells; == of two codes that are one. -/
set_option linter.unusedVariables false
set_option linter.unusedSimpArgs false
namespace Go.Proofs.YtkkaejbdekdljaaDoor
open Go.RowKit

structure Code12 where
  (c0 c1 c2 c3 c4 c5 c6 c7 c8 c9 c10 c11 : Int)
def Code12.vals (c : Code12) : List Value := [.int .u8 c.c0, .int .u8 c.c1, .int .u8 c.c2, .int .u8 c.c3, .int .u8 c.c4, .int .u8 c.c5, .int .u8 c.c6, .int .u8 c.c7, .int .u8 c.c8, .int .u8 c.c9, .int .u8 c.c10, .int .u8 c.c11]
/-- A notice but for its links. -/
structure NoticeB where
  (ref prev : ByteArray) (cancel receive pay : Bool) (trade settle : Int) (code : Code12) (qty : Int) (account agent other : ByteArray) (amount : Int) (currency : ByteArray) (priority : Int)
/-- A notice: with where its links lie, and what they are. -/
structure NoticeV where
  b : NoticeB
  R : Option Addr
  cap : Nat
  links : List (Int × ByteArray)
def encNotice (v : NoticeV) : List Value :=
  [.string v.b.ref, .string v.b.prev, .bool v.b.cancel, .bool v.b.receive, .bool v.b.pay, .int .i64 v.b.trade, .int .i64 v.b.settle,
   .int .u8 v.b.code.c0, .int .u8 v.b.code.c1, .int .u8 v.b.code.c2, .int .u8 v.b.code.c3, .int .u8 v.b.code.c4, .int .u8 v.b.code.c5, .int .u8 v.b.code.c6, .int .u8 v.b.code.c7, .int .u8 v.b.code.c8, .int .u8 v.b.code.c9, .int .u8 v.b.code.c10, .int .u8 v.b.code.c11,
   .int .i64 v.b.qty, .string v.b.account, .string v.b.agent, .string v.b.other, .int .i64 v.b.amount, .string v.b.currency, .int .i64 v.b.priority, .slice v.R v.links.length v.cap]
theorem encNotice_len : ∀ v, (encNotice v).length = 27 := fun _ => rfl
/-- The links of a notice read as they are told. -/
def LinksOk (w : World) (v : NoticeV) : Prop := Sl w v.R v.links.length 2 (cellsL encLinks v.links)
theorem LinksOk.new_ {w w' : World} {v : NoticeV} (h : LinksOk w v) (hm : New w w') : LinksOk w' v := Sl.new_ h hm
/-- A list of notices. -/
structure Notices (w : World) (A : Option Addr) (n : Nat) (ls : List NoticeV) : Prop where
  sl : Sl w A n 27 (cellsL encNotice ls)
  ok : ∀ (i : Nat) (v : NoticeV), ls[i]? = some v → LinksOk w v
theorem Notices.new_ {w w' : World} {A : Option Addr} {n : Nat} {ls : List NoticeV} (h : Notices w A n ls) (hm : New w w') : Notices w' A n ls := ⟨h.sl.new_ hm, fun i v hv => (h.ok i v hv).new_ hm⟩
theorem Notices.len {w : World} {A : Option Addr} {n : Nat} {ls : List NoticeV} (h : Notices w A n ls) : ls.length = n := h.sl.length encNotice_len (by decide)
theorem Tryd.sltNotice : SlT Tryd.prog 52 57 27 184 := ⟨Tryd.underlying52, ⟨.agg (encNotice ⟨⟨⟨#[]⟩, ⟨#[]⟩, false, false, false, 0, 0, ⟨0, 0, 0, 0, 0, 0, 0, 0, 0, 0, 0, 0⟩, 0, ⟨#[]⟩, ⟨#[]⟩, ⟨#[]⟩, 0, ⟨#[]⟩, 0⟩, none, 0, []⟩).toArray, by kernel_rfl, rfl⟩, by decide, by decide⟩
end Go.Proofs.YtkkaejbdekdljaaDoor
/- Walks: custodyref23.find. -/
set_option linter.unusedVariables false
set_option linter.unusedSimpArgs false
namespace Go.Proofs.YtkkaejbdekdljaaDoor
open Go.RowKit

/-- The place of the first notice of this reference, counted from i. -/
def findFrom : List NoticeV → List UInt8 → Nat → Option Nat
  | [], _, _ => none
  | v :: l, r, i => if v.b.ref.toList == r then some i else findFrom l r (i + 1)
def findAt (ls : List NoticeV) (r : List UInt8) : Option Nat := findFrom ls r 0
theorem findFrom_hit {ls : List NoticeV} {r : List UInt8} {k : Nat} {v : NoticeV} (h : ls[k]? = some v) (he : (v.b.ref.toList == r) = true) : findFrom (ls.drop k) r k = some k := by
  have hi := (List.getElem?_eq_some_iff.1 h).1
  rw [List.drop_eq_getElem_cons hi, (List.getElem?_eq_some_iff.1 h).2, findFrom, if_pos he]
theorem findFrom_miss {ls : List NoticeV} {r : List UInt8} {k : Nat} {v : NoticeV} (h : ls[k]? = some v) (he : (v.b.ref.toList == r) = false) : findFrom (ls.drop k) r k = findFrom (ls.drop (k + 1)) r (k + 1) := by
  have hi := (List.getElem?_eq_some_iff.1 h).1
  rw [List.drop_eq_getElem_cons hi, (List.getElem?_eq_some_iff.1 h).2, findFrom, if_neg (by rw [he]; simp)]

theorem find_any (A : Option Addr) (n c : Nat) (ls : List NoticeV) (r : ByteArray) (w : World) (ha : Notices w A n ls) :
    Calls Tryd.prog 55 #[.slice A n c, .string r] w fun e w' => e = .returned (.int .i64 (idxInt (findAt ls r.toList))) ∧ New w w' := by
  have hn := ha.sl.le
  have HLEN := Lib.hid ha.len
  obtain ⟨res, hres⟩ : ∃ res, findAt ls r.toList = res := ⟨_, rfl⟩
  rw [hres]
  have HR := Lib.hid hres
  clear hres
  go_enter Tryd.func55, Tryd.ntmps55
  go_wp2
  go_loopw [5] (fun i wr => ∃ k : Nat, k ≤ n ∧ i = .int .i64 (k : Int) ∧ findFrom (ls.drop k) r.toList k = res ∧ New w wr) (fun i _ => n - (intOf i).toNat)
  case atStart => exact ⟨0, Nat.zero_le _, rfl, HR.out, Mod.refl _ _⟩
  case round =>
    obtain ⟨k, hk, rfl, hf, hw⟩ := hrel
    have HF := Lib.hid hf
    clear hf
    by_cases hlt : k < n
    · obtain ⟨b, off, v, rfl, hp, hc⟩ := (ha.sl.new_ hw).elem encNotice_len (by decide) hlt
      have c0 := hc 0 _ rfl
      simp only [Nat.add_zero] at c0
      cases he : (v.b.ref.toList == r.toList) with
      | true =>
        have HH := Lib.hid (show some k = res by rw [← HF.out, findFrom_hit hp he])
        clear hp hc
        go_wp2
        go_ret
        exact ⟨by rw [← HH.out]; rfl, hw⟩
      | false =>
        have HH := Lib.hid (show findFrom (ls.drop (k + 1)) r.toList (k + 1) = res by rw [← HF.out, findFrom_miss hp he])
        clear hp hc
        go_wp2
        go_roundw
        case rel => exact ⟨k + 1, by omega, by go_num, HH.out, hw⟩
        case measure => simp [intOf]; omega
    · have HH := Lib.hid (show none = res by rw [← HF.out, List.drop_of_length_le (by have := HLEN.out; omega)]; rfl)
      go_wp2
      go_ret
      exact ⟨by rw [← HH.out]; rfl, hw⟩
end Go.Proofs.YtkkaejbdekdljaaDoor
/- Plain: what is wrong in notices: the first fault, its number and place. -/
set_option linter.unusedVariables false
set_option linter.unusedSimpArgs false
namespace Go.Proofs.YtkkaejbdekdljaaDoor

/-- A link's fault: its kind's, or it names no notice. -/
def linkBad (ls : List NoticeV) (x : Int × ByteArray) : Int := if x.1 ≠ 1 ∧ x.1 ≠ 2 ∧ x.1 ≠ 3 then 24 else if findAt ls x.2.toList = none then 10 else 0
/-- The first faulty link, counted from k. -/
def linksBad (ls : List NoticeV) : List (Int × ByteArray) → Nat → Option (Int × Nat)
  | [], _ => none
  | x :: r, k => if linkBad ls x ≠ 0 then some (linkBad ls x, k) else linksBad ls r (k + 1)
/-- The first notice with a faulty link, counted from i. -/
def noticesBad (all : List NoticeV) : List NoticeV → Nat → Option (Int × Nat × Nat)
  | [], _ => none
  | v :: r, i => match linksBad all v.links 0 with
    | some (e, k) => some (e, i, k)
    | none => noticesBad all r (i + 1)
/-- The first notice whose reference stood before, counted from i. -/
def twiceFrom (all : List NoticeV) : List NoticeV → Nat → Option Nat
  | [], _ => none
  | v :: r, i => if findAt all v.b.ref.toList ≠ some i then some i else twiceFrom all r (i + 1)
/-- The number of the error of notices, its Line, its At. -/
def wrongOf (ls : List NoticeV) : Int × Nat × Nat :=
  if 4096 < ls.length then (5, 0, 0) else
  if ls.any (fun v => decide (16 < v.links.length)) then (5, 0, 0) else
  match twiceFrom ls ls 0 with
  | some i => (11, 0, i)
  | none => match noticesBad ls ls 0 with
    | some x => x
    | none => (0, 0, 0)
theorem left_inner' {α : Type} {l : List α} {k : Nat} {x : α} (h : l[k]? = some x) : l.drop k = x :: l.drop (k + 1) := by
  have hi := (List.getElem?_eq_some_iff.1 h).1
  rw [List.drop_eq_getElem_cons hi, (List.getElem?_eq_some_iff.1 h).2]
theorem linksBad_hit {ls : List NoticeV} {l : List (Int × ByteArray)} {k : Nat} {x : Int × ByteArray} (h : l[k]? = some x) (hb : linkBad ls x ≠ 0) : linksBad ls (l.drop k) k = some (linkBad ls x, k) := by
  have hi := (List.getElem?_eq_some_iff.1 h).1
  rw [List.drop_eq_getElem_cons hi, (List.getElem?_eq_some_iff.1 h).2, linksBad, if_pos hb]
theorem linksBad_miss {ls : List NoticeV} {l : List (Int × ByteArray)} {k : Nat} {x : Int × ByteArray} (h : l[k]? = some x) (hb : linkBad ls x = 0) : linksBad ls (l.drop k) k = linksBad ls (l.drop (k + 1)) (k + 1) := by
  have hi := (List.getElem?_eq_some_iff.1 h).1
  rw [List.drop_eq_getElem_cons hi, (List.getElem?_eq_some_iff.1 h).2, linksBad, if_neg (by simp [hb])]
theorem noticesBad_hit {all ls : List NoticeV} {i k : Nat} {e : Int} {v : NoticeV} (h : ls[i]? = some v) (hb : linksBad all v.links 0 = some (e, k)) : noticesBad all (ls.drop i) i = some (e, i, k) := by
  have hi := (List.getElem?_eq_some_iff.1 h).1
  rw [List.drop_eq_getElem_cons hi, (List.getElem?_eq_some_iff.1 h).2, noticesBad, hb]
theorem noticesBad_miss {all ls : List NoticeV} {i : Nat} {v : NoticeV} (h : ls[i]? = some v) (hb : linksBad all v.links 0 = none) : noticesBad all (ls.drop i) i = noticesBad all (ls.drop (i + 1)) (i + 1) := by
  have hi := (List.getElem?_eq_some_iff.1 h).1
  rw [List.drop_eq_getElem_cons hi, (List.getElem?_eq_some_iff.1 h).2, noticesBad, hb]
theorem twice_hit {all ls : List NoticeV} {i : Nat} {v : NoticeV} (h : ls[i]? = some v) (hb : findAt all v.b.ref.toList ≠ some i) : twiceFrom all (ls.drop i) i = some i := by
  have hi := (List.getElem?_eq_some_iff.1 h).1
  rw [List.drop_eq_getElem_cons hi, (List.getElem?_eq_some_iff.1 h).2, twiceFrom, if_pos hb]
theorem twice_miss {all ls : List NoticeV} {i : Nat} {v : NoticeV} (h : ls[i]? = some v) (hb : findAt all v.b.ref.toList = some i) : twiceFrom all (ls.drop i) i = twiceFrom all (ls.drop (i + 1)) (i + 1) := by
  have hi := (List.getElem?_eq_some_iff.1 h).1
  rw [List.drop_eq_getElem_cons hi, (List.getElem?_eq_some_iff.1 h).2, twiceFrom, if_neg (by simp [hb])]
end Go.Proofs.YtkkaejbdekdljaaDoor
/- Plain: the pairs that belong together, and the edges, of notices. -/
set_option linter.unusedVariables false
set_option linter.unusedSimpArgs false
namespace Go.Proofs.YtkkaejbdekdljaaDoor
open Go.RowKit

/-- A link's reference is no longer than a text can be. -/
def LinkOk (x : Int × ByteArray) : Prop := x.2.size ≤ maxLen
/-- A notice's references are no longer than a text can be. -/
def NoticeOk (v : NoticeV) : Prop := v.b.ref.size ≤ maxLen ∧ (∀ (k : Nat) (x : Int × ByteArray), v.links[k]? = some x → LinkOk x)
/-- The notice that a link names (the first, if it names none). -/
def other (all : List NoticeV) (x : Int × ByteArray) : Nat := (findAt all x.2.toList).getD 0
def linkWith (all : List NoticeV) (i : Nat) (x : Int × ByteArray) : List (Int × Int) := if x.1 = 1 then [((i : Int), (other all x : Int))] else []
def linkTie (all : List NoticeV) (i : Nat) (x : Int × ByteArray) : List (Int × Int) := if x.1 = 2 then [((i : Int), (other all x : Int))] else if x.1 = 3 then [((other all x : Int), (i : Int))] else []
/-- What links of kinds come to, over all notices from i on. -/
def pairs (f : Nat → Int × ByteArray → List (Int × Int)) : List NoticeV → Nat → List (Int × Int)
  | [], _ => []
  | v :: l, i => v.links.flatMap (f i) ++ pairs f l (i + 1)
theorem pairs_next {f : Nat → Int × ByteArray → List (Int × Int)} {ls : List NoticeV} {i : Nat} {v : NoticeV} (h : ls[i]? = some v) : pairs f (ls.drop i) i = (v.links.drop 0).flatMap (f i) ++ pairs f (ls.drop (i + 1)) (i + 1) := by
  rw [left_inner' h]; rfl
theorem pairs_end {f : Nat → Int × ByteArray → List (Int × Int)} {ls : List NoticeV} {i : Nat} (h : ls.length ≤ i) : pairs f (ls.drop i) i = [] := by
  rw [List.drop_of_length_le h]; rfl
theorem links_next {f : Int × ByteArray → List (Int × Int)} {l : List (Int × ByteArray)} {k : Nat} {x : Int × ByteArray} (h : l[k]? = some x) : (l.drop k).flatMap f = f x ++ (l.drop (k + 1)).flatMap f := by
  rw [left_inner' h]; rfl
/-- How many notices and links. -/
def totN (ls : List NoticeV) : Nat := (ls.map fun v => 1 + v.links.length).sum
theorem totN_next {ls : List NoticeV} {k : Nat} {v : NoticeV} (h : ls[k]? = some v) : totN (ls.take (k + 1)) = totN (ls.take k) + 1 + v.links.length := by
  rw [List.take_add_one, h]; simp [totN]; omega
theorem totN_length (ls : List NoticeV) : ls.length ≤ totN ls := by
  induction ls with
  | nil => simp
  | cons v l ih => simp only [totN, List.map_cons, List.sum_cons, List.length_cons] at ih ⊢; omega
theorem totN_one {ls : List NoticeV} {k : Nat} {v : NoticeV} (h : ls[k]? = some v) : v.links.length ≤ totN ls := by
  have h1 := totN_next h
  have h2 : totN (ls.take (k + 1)) + totN (ls.drop (k + 1)) = totN ls := by
    rw [totN, totN, totN, ← List.sum_append, ← List.map_append, List.take_append_drop]
  omega
theorem flat_le {f : Int × ByteArray → List (Int × Int)} (hf : ∀ x, (f x).length ≤ 1) (l : List (Int × ByteArray)) : (l.flatMap f).length ≤ l.length := by
  induction l with
  | nil => simp
  | cons x l ih => have := hf x; simp only [List.flatMap_cons, List.length_append, List.length_cons]; omega
theorem pairs_le {f : Nat → Int × ByteArray → List (Int × Int)} (hf : ∀ i x, (f i x).length ≤ 1) : ∀ (ls : List NoticeV) (i : Nat), (pairs f ls i).length ≤ totN ls
  | [], _ => by simp [pairs]
  | v :: l, i => by
    have h1 := flat_le (hf i) v.links
    have h2 := pairs_le hf l (i + 1)
    simp only [pairs, totN, List.length_append, List.map_cons, List.sum_cons] at h2 ⊢
    omega
theorem linkWith_le (all : List NoticeV) : ∀ i x, (linkWith all i x).length ≤ 1 := fun i x => by unfold linkWith; split <;> simp
theorem linkTie_le (all : List NoticeV) : ∀ i x, (linkTie all i x).length ≤ 1 := fun i x => by unfold linkTie; split; simp; split <;> simp
theorem findFrom_lt : ∀ {l : List NoticeV} {r : List UInt8} {i j : Nat}, findFrom l r i = some j → i ≤ j ∧ j < i + l.length
  | [], _, _, _, h => by simp [findFrom] at h
  | v :: l, r, i, j, h => by
    unfold findFrom at h
    split at h
    · injection h with h; subst h; simp
    · have := findFrom_lt h
      simp only [List.length_cons]; omega
theorem other_lt {all : List NoticeV} (h : 0 < all.length) (x : Int × ByteArray) : other all x < all.length := by
  unfold other
  cases e : findAt all x.2.toList with
  | none => simpa using h
  | some j => have := findFrom_lt e; simp; omega
theorem pairs_in {all : List NoticeV} {f : Nat → Int × ByteArray → List (Int × Int)} (hf : ∀ i x, i < all.length → ∀ p, p ∈ f i x → 0 ≤ p.1 ∧ p.1 < all.length ∧ 0 ≤ p.2 ∧ p.2 < all.length) :
    ∀ (ls : List NoticeV) (i : Nat), i + ls.length ≤ all.length → ∀ p, p ∈ pairs f ls i → 0 ≤ p.1 ∧ p.1 < all.length ∧ 0 ≤ p.2 ∧ p.2 < all.length
  | [], _, _, p, hp => by simp [pairs] at hp
  | v :: l, i, h, p, hp => by
    simp only [List.length_cons] at h
    rcases List.mem_append.1 hp with hp | hp
    · obtain ⟨x, _, hx⟩ := List.mem_flatMap.1 hp
      exact hf i x (by omega) p hx
    · exact pairs_in hf l (i + 1) (by omega) p hp
theorem linkWith_in (all : List NoticeV) : ∀ i x, i < all.length → ∀ p, p ∈ linkWith all i x → 0 ≤ p.1 ∧ p.1 < all.length ∧ 0 ≤ p.2 ∧ p.2 < all.length := fun i x hi p hp => by
  have := other_lt (all := all) (by omega) x
  unfold linkWith at hp
  split at hp
  · simp at hp; subst hp; simp; omega
  · simp at hp
theorem linkTie_in (all : List NoticeV) : ∀ i x, i < all.length → ∀ p, p ∈ linkTie all i x → 0 ≤ p.1 ∧ p.1 < all.length ∧ 0 ≤ p.2 ∧ p.2 < all.length := fun i x hi p hp => by
  have := other_lt (all := all) (by omega) x
  unfold linkTie at hp
  split at hp
  · simp at hp; subst hp; simp; omega
  · split at hp
    · simp at hp; subst hp; simp; omega
    · simp at hp
def withsOf (ls : List NoticeV) : List (Int × Int) := pairs (linkWith ls) ls 0
def tiesOf (ls : List NoticeV) : List (Int × Int) := pairs (linkTie ls) ls 0
theorem withsOf_in (ls : List NoticeV) : ∀ p, p ∈ withsOf ls → 0 ≤ p.1 ∧ p.1 < ls.length ∧ 0 ≤ p.2 ∧ p.2 < ls.length := pairs_in (linkWith_in ls) ls 0 (by omega)
theorem tiesOf_in (ls : List NoticeV) : ∀ p, p ∈ tiesOf ls → 0 ≤ p.1 ∧ p.1 < ls.length ∧ 0 ≤ p.2 ∧ p.2 < ls.length := pairs_in (linkTie_in ls) ls 0 (by omega)
theorem withsOf_le (ls : List NoticeV) : (withsOf ls).length ≤ totN ls := pairs_le (linkWith_le ls) ls 0
theorem tiesOf_le (ls : List NoticeV) : (tiesOf ls).length ≤ totN ls := pairs_le (linkTie_le ls) ls 0

/-- How the map of places stands behind k notices, if none was met twice. -/
theorem find_take {ls : List NoticeV} {r : List UInt8} : ∀ (k : Nat), findAt (ls.take k) r = match findAt ls r with | some j => if j < k then some j else none | none => none := by
  intro k
  suffices h : ∀ (ls : List NoticeV) (k i : Nat), findFrom (ls.take k) r i = match findFrom ls r i with | some j => if j < i + k then some j else none | none => none by
    have := h ls k 0
    simpa [findAt] using this
  intro ls
  induction ls with
  | nil => intro k i; simp [findFrom]
  | cons v l ih =>
    intro k i
    cases k with
    | zero =>
      simp only [List.take_zero, findFrom, Nat.add_zero]
      by_cases e : (v.b.ref.toList == r) = true
      · rw [if_pos e]; simp
      · rw [if_neg e]
        cases e2 : findFrom l r (i + 1) with
        | none => rfl
        | some j => have := findFrom_lt e2; simp; omega
    | succ k =>
      simp only [List.take_succ_cons, findFrom]
      by_cases e : (v.b.ref.toList == r) = true
      · rw [if_pos e, if_pos e]; simp
      · rw [if_neg e, if_neg e, ih k (i + 1)]
        cases e2 : findFrom l r (i + 1) with
        | none => rfl
        | some j => simp only; rw [show i + 1 + k = i + (k + 1) from by omega]
theorem find_snoc {ls : List NoticeV} {k : Nat} {v : NoticeV} (h : ls[k]? = some v) (hn : findAt (ls.take k) v.b.ref.toList = none) (r : List UInt8) : findAt (ls.take (k + 1)) r = if r = v.b.ref.toList then some k else findAt (ls.take k) r := by
  have h1 : ∀ (l : List NoticeV) (v : NoticeV) (r : List UInt8) (i : Nat), findFrom (l ++ [v]) r i = match findFrom l r i with | some j => some j | none => if v.b.ref.toList == r then some (i + l.length) else none := by
    intro l
    induction l with
    | nil => intro v r i; simp [findFrom]
    | cons u l ih =>
      intro v r i
      simp only [List.cons_append, findFrom, List.length_cons]
      split
      · rfl
      · rw [ih]
        cases findFrom l r (i + 1) with
        | some j => rfl
        | none => simp only; rw [show i + 1 + l.length = i + (l.length + 1) from by omega]
  have hk : (ls.take k).length = k := by
    have := (List.getElem?_eq_some_iff.1 h).1
    simp; omega
  have h2 : ls.take (k + 1) = ls.take k ++ [v] := by rw [List.take_add_one, h]; rfl
  rw [h2]
  unfold findAt at hn ⊢
  rw [h1, hk]
  by_cases e : r = v.b.ref.toList
  · rw [if_pos e, e, hn]; simp
  · rw [if_neg e]
    cases findFrom (ls.take k) r 0 with
    | some j => rfl
    | none => simp only; rw [if_neg (by simpa using Ne.symm e)]
end Go.Proofs.YtkkaejbdekdljaaDoor
/- Rows: notices among the arguments, opened. -/
set_option linter.unusedVariables false
set_option linter.unusedSimpArgs false
namespace Go.Proofs.YtkkaejbdekdljaaDoor
open Go.ChangeShapes Go.WideShapes Go.RowKit

theorem Tryd.cellsStr : Tryd.prog.cellsOf 9 = 1 := by kernel_rfl
theorem Tryd.cellsBool : Tryd.prog.cellsOf 4 = 1 := by kernel_rfl
theorem Tryd.cellsIsin : Tryd.prog.cellsOf 54 = 12 := by kernel_rfl
theorem Tryd.cellsLinksSl : Tryd.prog.cellsOf 55 = 1 := by kernel_rfl
theorem Tryd.cellsLink : Tryd.prog.cellsOf 96 = 2 := by kernel_rfl
theorem Tryd.cellsNotice : Tryd.prog.cellsOf 57 = 27 := by kernel_rfl
section
variable {H : Type} {enc : TypeId × Value → H} {W : World}
set_option maxRecDepth 100000 in
theorem hone_link : ∀ (fuel : Nat) (cs : List Value) (x : DataW H × List MemPlace), cs.length = 2 → DataW.trod enc Tryd.prog W 0 (fun _ => true) true fuel 96 cs = some x → ∃ q : Int × ByteArray, cs = encLinks q ∧ LinkOk q := fun fuel cs x hl h => by
  obtain ⟨xs, m, _, _, _, hxl, hi⟩ := DataW.trod_struct Tryd.underlying96 h
  match cs, hl with
  | [c0, c1], _ =>
    have hxl : xs.length = 2 := hxl
    have h0 : DataW.trod enc Tryd.prog W 0 (fun _ => true) true m 3 (([c0, c1].drop 0).take (Tryd.prog.cellsOf 3)) = xs[0]? := hi 0 _ rfl
    have h1 : DataW.trod enc Tryd.prog W 0 (fun _ => true) true m 9 (([c0, c1].drop 1).take (Tryd.prog.cellsOf 9)) = xs[1]? := hi 1 _ rfl
    rw [List.getElem?_eq_getElem (by omega)] at h0 h1
    rw [Tryd.cellsInt3] at h0
    rw [Tryd.cellsStr] at h1
    obtain ⟨a, ha, _, _⟩ := DataW.trod_int Tryd.underlying3 h0
    obtain ⟨b, hb, _, hb2⟩ := DataW.trod_string Tryd.underlying9 h1
    simp at ha hb
    subst ha hb
    exact ⟨(a, b), rfl, hb2⟩
set_option maxRecDepth 100000 in
theorem hone_code : ∀ (fuel : Nat) (cs : List Value) (x : DataW H × List MemPlace), cs.length = 12 → DataW.trod enc Tryd.prog W 0 (fun _ => true) true fuel 54 cs = some x → ∃ c : Code12, cs = c.vals := fun fuel cs x hl h => by
  obtain ⟨xs, m, _, _, _, hxl, hi⟩ := DataW.trod_array Tryd.underlying54 h
  have key : ∀ i, i < 12 → ∃ n, cs[i]? = some (.int .u8 n) := fun i hi' => by
    have h1 := hi i hi'
    rw [show Tryd.prog.cellsOf 5 = 1 from by kernel_rfl, List.getElem?_eq_getElem (by omega), Nat.mul_one] at h1
    obtain ⟨n, hn, _, _⟩ := DataW.trod_int Tryd.underlying5 h1
    refine ⟨n, ?_⟩
    have e : (cs.drop i).take 1 = [cs[i]] := by rw [List.drop_eq_getElem_cons (by omega)]; rfl
    rw [e] at hn
    injection hn with hn
    rw [List.getElem?_eq_getElem (by omega), hn]
  obtain ⟨n0, e0⟩ := key 0 (by omega)
  obtain ⟨n1, e1⟩ := key 1 (by omega)
  obtain ⟨n2, e2⟩ := key 2 (by omega)
  obtain ⟨n3, e3⟩ := key 3 (by omega)
  obtain ⟨n4, e4⟩ := key 4 (by omega)
  obtain ⟨n5, e5⟩ := key 5 (by omega)
  obtain ⟨n6, e6⟩ := key 6 (by omega)
  obtain ⟨n7, e7⟩ := key 7 (by omega)
  obtain ⟨n8, e8⟩ := key 8 (by omega)
  obtain ⟨n9, e9⟩ := key 9 (by omega)
  obtain ⟨n10, e10⟩ := key 10 (by omega)
  obtain ⟨n11, e11⟩ := key 11 (by omega)
  refine ⟨⟨n0, n1, n2, n3, n4, n5, n6, n7, n8, n9, n10, n11⟩, ?_⟩
  clear h hi key
  match cs, hl, e0, e1, e2, e3, e4, e5, e6, e7, e8, e9, e10, e11 with
  | [c0, c1, c2, c3, c4, c5, c6, c7, c8, c9, c10, c11], _, e0, e1, e2, e3, e4, e5, e6, e7, e8, e9, e10, e11 =>
    have f0 : c0 = .int .u8 n0 := by simpa using e0
    have f1 : c1 = .int .u8 n1 := by simpa using e1
    have f2 : c2 = .int .u8 n2 := by simpa using e2
    have f3 : c3 = .int .u8 n3 := by simpa using e3
    have f4 : c4 = .int .u8 n4 := by simpa using e4
    have f5 : c5 = .int .u8 n5 := by simpa using e5
    have f6 : c6 = .int .u8 n6 := by simpa using e6
    have f7 : c7 = .int .u8 n7 := by simpa using e7
    have f8 : c8 = .int .u8 n8 := by simpa using e8
    have f9 : c9 = .int .u8 n9 := by simpa using e9
    have f10 : c10 = .int .u8 n10 := by simpa using e10
    have f11 : c11 = .int .u8 n11 := by simpa using e11
    subst f0 f1 f2 f3 f4 f5 f6 f7 f8 f9 f10 f11
    rfl
set_option maxRecDepth 100000 in
set_option maxHeartbeats 1000000 in
theorem hone_notice : ∀ (fuel : Nat) (cs : List Value) (x : DataW H × List MemPlace), cs.length = 27 → DataW.trod enc Tryd.prog W 0 (fun _ => true) true fuel 57 cs = some x →
    ∃ v : NoticeV, cs = encNotice v ∧ LinksOk W v ∧ NoticeOk v ∧ (v.links.length = 0 ∨ ∃ ds es sp, x.1 = .agg ds ∧ ds[15]? = some (.slice es sp) ∧ es.length = v.links.length) := fun fuel cs x hl h => by
  obtain ⟨xs, m, _, hx, _, hxl, hi⟩ := DataW.trod_struct Tryd.underlying57 h
  match cs, hl with
  | [c0, c1, c2, c3, c4, c5, c6, c7, c8, c9, c10, c11, c12, c13, c14, c15, c16, c17, c18, c19, c20, c21, c22, c23, c24, c25, c26], _ =>
    have hxl : xs.length = 16 := hxl
    have h0 : DataW.trod enc Tryd.prog W 0 (fun _ => true) true m 9 (([c0, c1, c2, c3, c4, c5, c6, c7, c8, c9, c10, c11, c12, c13, c14, c15, c16, c17, c18, c19, c20, c21, c22, c23, c24, c25, c26].drop 0).take (Tryd.prog.cellsOf 9)) = xs[0]? := hi 0 _ rfl
    have h1 : DataW.trod enc Tryd.prog W 0 (fun _ => true) true m 9 (([c0, c1, c2, c3, c4, c5, c6, c7, c8, c9, c10, c11, c12, c13, c14, c15, c16, c17, c18, c19, c20, c21, c22, c23, c24, c25, c26].drop 1).take (Tryd.prog.cellsOf 9)) = xs[1]? := hi 1 _ rfl
    have h2 : DataW.trod enc Tryd.prog W 0 (fun _ => true) true m 4 (([c0, c1, c2, c3, c4, c5, c6, c7, c8, c9, c10, c11, c12, c13, c14, c15, c16, c17, c18, c19, c20, c21, c22, c23, c24, c25, c26].drop 2).take (Tryd.prog.cellsOf 4)) = xs[2]? := hi 2 _ rfl
    have h3 : DataW.trod enc Tryd.prog W 0 (fun _ => true) true m 4 (([c0, c1, c2, c3, c4, c5, c6, c7, c8, c9, c10, c11, c12, c13, c14, c15, c16, c17, c18, c19, c20, c21, c22, c23, c24, c25, c26].drop 3).take (Tryd.prog.cellsOf 4)) = xs[3]? := hi 3 _ rfl
    have h4 : DataW.trod enc Tryd.prog W 0 (fun _ => true) true m 4 (([c0, c1, c2, c3, c4, c5, c6, c7, c8, c9, c10, c11, c12, c13, c14, c15, c16, c17, c18, c19, c20, c21, c22, c23, c24, c25, c26].drop 4).take (Tryd.prog.cellsOf 4)) = xs[4]? := hi 4 _ rfl
    have h5 : DataW.trod enc Tryd.prog W 0 (fun _ => true) true m 3 (([c0, c1, c2, c3, c4, c5, c6, c7, c8, c9, c10, c11, c12, c13, c14, c15, c16, c17, c18, c19, c20, c21, c22, c23, c24, c25, c26].drop 5).take (Tryd.prog.cellsOf 3)) = xs[5]? := hi 5 _ rfl
    have h6 : DataW.trod enc Tryd.prog W 0 (fun _ => true) true m 3 (([c0, c1, c2, c3, c4, c5, c6, c7, c8, c9, c10, c11, c12, c13, c14, c15, c16, c17, c18, c19, c20, c21, c22, c23, c24, c25, c26].drop 6).take (Tryd.prog.cellsOf 3)) = xs[6]? := hi 6 _ rfl
    have h7 : DataW.trod enc Tryd.prog W 0 (fun _ => true) true m 54 (([c0, c1, c2, c3, c4, c5, c6, c7, c8, c9, c10, c11, c12, c13, c14, c15, c16, c17, c18, c19, c20, c21, c22, c23, c24, c25, c26].drop 7).take (Tryd.prog.cellsOf 54)) = xs[7]? := hi 7 _ rfl
    have h8 : DataW.trod enc Tryd.prog W 0 (fun _ => true) true m 2 (([c0, c1, c2, c3, c4, c5, c6, c7, c8, c9, c10, c11, c12, c13, c14, c15, c16, c17, c18, c19, c20, c21, c22, c23, c24, c25, c26].drop 19).take (Tryd.prog.cellsOf 2)) = xs[8]? := hi 8 _ rfl
    have h9 : DataW.trod enc Tryd.prog W 0 (fun _ => true) true m 9 (([c0, c1, c2, c3, c4, c5, c6, c7, c8, c9, c10, c11, c12, c13, c14, c15, c16, c17, c18, c19, c20, c21, c22, c23, c24, c25, c26].drop 20).take (Tryd.prog.cellsOf 9)) = xs[9]? := hi 9 _ rfl
    have h10 : DataW.trod enc Tryd.prog W 0 (fun _ => true) true m 9 (([c0, c1, c2, c3, c4, c5, c6, c7, c8, c9, c10, c11, c12, c13, c14, c15, c16, c17, c18, c19, c20, c21, c22, c23, c24, c25, c26].drop 21).take (Tryd.prog.cellsOf 9)) = xs[10]? := hi 10 _ rfl
    have h11 : DataW.trod enc Tryd.prog W 0 (fun _ => true) true m 9 (([c0, c1, c2, c3, c4, c5, c6, c7, c8, c9, c10, c11, c12, c13, c14, c15, c16, c17, c18, c19, c20, c21, c22, c23, c24, c25, c26].drop 22).take (Tryd.prog.cellsOf 9)) = xs[11]? := hi 11 _ rfl
    have h12 : DataW.trod enc Tryd.prog W 0 (fun _ => true) true m 2 (([c0, c1, c2, c3, c4, c5, c6, c7, c8, c9, c10, c11, c12, c13, c14, c15, c16, c17, c18, c19, c20, c21, c22, c23, c24, c25, c26].drop 23).take (Tryd.prog.cellsOf 2)) = xs[12]? := hi 12 _ rfl
    have h13 : DataW.trod enc Tryd.prog W 0 (fun _ => true) true m 9 (([c0, c1, c2, c3, c4, c5, c6, c7, c8, c9, c10, c11, c12, c13, c14, c15, c16, c17, c18, c19, c20, c21, c22, c23, c24, c25, c26].drop 24).take (Tryd.prog.cellsOf 9)) = xs[13]? := hi 13 _ rfl
    have h14 : DataW.trod enc Tryd.prog W 0 (fun _ => true) true m 3 (([c0, c1, c2, c3, c4, c5, c6, c7, c8, c9, c10, c11, c12, c13, c14, c15, c16, c17, c18, c19, c20, c21, c22, c23, c24, c25, c26].drop 25).take (Tryd.prog.cellsOf 3)) = xs[14]? := hi 14 _ rfl
    have h15 : DataW.trod enc Tryd.prog W 0 (fun _ => true) true m 55 (([c0, c1, c2, c3, c4, c5, c6, c7, c8, c9, c10, c11, c12, c13, c14, c15, c16, c17, c18, c19, c20, c21, c22, c23, c24, c25, c26].drop 26).take (Tryd.prog.cellsOf 55)) = xs[15]? := hi 15 _ rfl
    rw [List.getElem?_eq_getElem (by omega)] at h0 h1 h2 h3 h4 h5 h6 h7 h8 h9 h10 h11 h12 h13 h14 h15
    rw [Tryd.cellsStr] at h0
    rw [Tryd.cellsStr] at h1
    rw [Tryd.cellsBool] at h2
    rw [Tryd.cellsBool] at h3
    rw [Tryd.cellsBool] at h4
    rw [Tryd.cellsInt3] at h5
    rw [Tryd.cellsInt3] at h6
    rw [Tryd.cellsIsin] at h7
    rw [Tryd.cellsInt64] at h8
    rw [Tryd.cellsStr] at h9
    rw [Tryd.cellsStr] at h10
    rw [Tryd.cellsStr] at h11
    rw [Tryd.cellsInt64] at h12
    rw [Tryd.cellsStr] at h13
    rw [Tryd.cellsInt3] at h14
    rw [Tryd.cellsLinksSl] at h15
    obtain ⟨a0, b0, _, s0⟩ := DataW.trod_string Tryd.underlying9 h0
    obtain ⟨a1, b1, _, s1⟩ := DataW.trod_string Tryd.underlying9 h1
    obtain ⟨a2, b2, _⟩ := DataW.trod_bool Tryd.underlying4 h2
    obtain ⟨a3, b3, _⟩ := DataW.trod_bool Tryd.underlying4 h3
    obtain ⟨a4, b4, _⟩ := DataW.trod_bool Tryd.underlying4 h4
    obtain ⟨a5, b5, _, _⟩ := DataW.trod_int Tryd.underlying3 h5
    obtain ⟨a6, b6, _, _⟩ := DataW.trod_int Tryd.underlying3 h6
    obtain ⟨a7, b7⟩ := hone_code _ _ _ rfl h7
    obtain ⟨a8, b8, _, _⟩ := DataW.trod_int Tryd.underlying2 h8
    obtain ⟨a9, b9, _, s9⟩ := DataW.trod_string Tryd.underlying9 h9
    obtain ⟨a10, b10, _, s10⟩ := DataW.trod_string Tryd.underlying9 h10
    obtain ⟨a11, b11, _, s11⟩ := DataW.trod_string Tryd.underlying9 h11
    obtain ⟨a12, b12, _, _⟩ := DataW.trod_int Tryd.underlying2 h12
    obtain ⟨a13, b13, _, s13⟩ := DataW.trod_string Tryd.underlying9 h13
    obtain ⟨a14, b14, _, _⟩ := DataW.trod_int Tryd.underlying3 h14
    obtain ⟨R, n, c, l, b15, hln, hsl, hgood, hwt⟩ := open_slf (en := encLinks) (good := LinkOk) encLinks_len (by decide) Tryd.underlying55 Tryd.cellsLink hone_link h15
    subst hln
    simp only [Code12.vals, List.drop_succ_cons, List.drop_zero, List.take_succ_cons, List.take_zero, List.cons.injEq, and_true] at b0 b1 b2 b3 b4 b5 b6 b7 b8 b9 b10 b11 b12 b13 b14 b15
    obtain ⟨d0, d1, d2, d3, d4, d5, d6, d7, d8, d9, d10, d11⟩ := b7
    subst b0 b1 b2 b3 b4 b5 b6 b8 b9 b10 b11 b12 b13 b14 b15 d0 d1 d2 d3 d4 d5 d6 d7 d8 d9 d10 d11
    refine ⟨⟨⟨a0, a1, a2, a3, a4, a5, a6, a7, a8, a9, a10, a11, a12, a13, a14⟩, R, c, l⟩, rfl, hsl, ⟨s0, hgood⟩, ?_⟩
    rcases hwt with h0 | ⟨es, sp, hx15, hes⟩
    · exact .inl h0
    · refine .inr ⟨xs.map (·.1), es, sp, by rw [hx], ?_, hes⟩
      rw [List.getElem?_map, List.getElem?_eq_getElem (by omega)]
      simp only [Option.map_some, hx15]
/-- Notices among the arguments. -/
theorem open_notices {a0 : Option Addr} {len cap : Nat} {d : DataW H} {p : List MemPlace}
    (h : DataW.Trod enc Tryd.prog W 0 (fun _ => true) true 52 (.slice a0 len cap) d p) (hw : ∀ n ∈ d.weights Tryd.prog 52, n ≤ 140737488355328) :
    ∃ ls : List NoticeV, Notices W a0 len ls ∧ ∀ (i : Nat) (v : NoticeV), ls[i]? = some v → NoticeOk v ∧ v.links.length ≤ 140737488355328 := by
  obtain ⟨fuel, hf⟩ := h
  rcases Go.Deep.open_slice Tryd.underlying52 hf with ⟨hcs, hx⟩ | ⟨a, len', cap', m, n, D, Pl, hcs, _, hl, hm, hmm, hx, hi⟩
  · simp [Value.cells] at hcs
    obtain ⟨rfl, rfl, rfl⟩ := hcs
    exact ⟨[], ⟨by simpa [cellsL] using Sl.nil W none 27, fun i v h => by simp at h⟩, fun i v h => by simp at h⟩
  · simp [Value.cells] at hcs
    obtain ⟨rfl, rfl, rfl⟩ := hcs
    have hmm' : len ≤ m := by rw [hmm]; simp; exact hl
    have hlen : len ≤ 9223372036854775807 := by unfold maxLen at hm; omega
    injection hx with hx1 hx2
    obtain ⟨ls, hll, hq⟩ := list_of (fun i (v : NoticeV) => W.cells? 0 (a.add (i * 27)) 27 = some (encNotice v) ∧ LinksOk W v ∧ NoticeOk v ∧ v.links.length ≤ 140737488355328) len fun i hil => by
      obtain ⟨cs', hc, hti⟩ := hi i (by omega)
      rw [Tryd.cellsNotice] at hc
      obtain ⟨_, hcl, hat⟩ := World.cells?_some hc
      obtain ⟨v, rfl, hok, hgood, hsz⟩ := hone_notice _ _ _ hcl hti
      refine ⟨v, hc, hok, hgood, ?_⟩
      rcases hsz with h0 | ⟨ds, es, sp, hx0, hd15, hes⟩
      · omega
      · have hD : D i = .agg ds := hx0
        have hm0 : (es.length + sp.length) * 24 ∈ (DataW.slice es sp).weights Tryd.prog 55 := by
          simp [DataW.weights, Tryd.underlying55, show Tryd.prog.bytesOf 96 = 24 from by kernel_rfl]
        have hm1 : (es.length + sp.length) * 24 ∈ (D i).weights Tryd.prog 57 := by
          rw [hD]
          simp only [DataW.weights, Tryd.underlying57]
          exact DataW.weights_mem_each (j := 15) (t := 55) rfl hd15 _ hm0
        have hmem : D i ∈ (List.range len).map D := List.mem_map.2 ⟨i, List.mem_range.2 hil, rfl⟩
        have := hw _ (by rw [hx1]; simp only [DataW.weights, Tryd.underlying52]; exact List.mem_cons_of_mem _ (List.mem_append_left _ (weights_mem_all hmem _ hm1)))
        omega
    refine ⟨ls, ⟨sl_of_elems encNotice_len (by decide) hll hlen fun i q hil j v hv => ?_, fun i v hv => (hq i v hv).2.1⟩, fun i v hv => (hq i v hv).2.2⟩
    obtain ⟨_, hcl, hat⟩ := World.cells?_some (hq i q hil).1
    have hj : j < 27 := by have := (List.getElem?_eq_some_iff.1 hv).1; rwa [encNotice_len] at this
    rw [← add_of_add, hat j hj, hv]
end
end Go.Proofs.YtkkaejbdekdljaaDoor
