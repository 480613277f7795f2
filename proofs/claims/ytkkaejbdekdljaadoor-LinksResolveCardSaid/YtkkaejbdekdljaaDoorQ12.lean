/- Words and walks, part 12 of 19. -/
import Derived.StringKeys
import Derived.Test.YtkkaejbdekdljaaDoorQ4
import Derived.Test.YtkkaejbdekdljaaDoorQ6
import Derived.Test.YtkkaejbdekdljaaDoorQ8
import Derived.Test.YtkkaejbdekdljaaDoorQ9
import Derived.Test.YtkkaejbdekdljaaDoorQ11
/- Walks: slices.IndexFunc and slices.ContainsFunc at the notices with too many links. -/
set_option linter.unusedVariables false
set_option linter.unusedSimpArgs false
namespace Go.Proofs.YtkkaejbdekdljaaDoor
open Go.RowKit

/-- The place of the first notice with too many links, counted from i. -/
def manyFrom : List NoticeV → Nat → Option Nat
  | [], _ => none
  | v :: l, i => if 16 < v.links.length then some i else manyFrom l (i + 1)
theorem manyFrom_hit {ls : List NoticeV} {k : Nat} {v : NoticeV} (h : ls[k]? = some v) (he : 16 < v.links.length) : manyFrom (ls.drop k) k = some k := by
  have hi := (List.getElem?_eq_some_iff.1 h).1
  rw [List.drop_eq_getElem_cons hi, (List.getElem?_eq_some_iff.1 h).2, manyFrom, if_pos he]
theorem manyFrom_miss {ls : List NoticeV} {k : Nat} {v : NoticeV} (h : ls[k]? = some v) (he : ¬ 16 < v.links.length) : manyFrom (ls.drop k) k = manyFrom (ls.drop (k + 1)) (k + 1) := by
  have hi := (List.getElem?_eq_some_iff.1 h).1
  rw [List.drop_eq_getElem_cons hi, (List.getElem?_eq_some_iff.1 h).2, manyFrom, if_neg he]
theorem manyFrom_any : ∀ (ls : List NoticeV) (i : Nat), (manyFrom ls i).isSome = ls.any (fun v => decide (16 < v.links.length))
  | [], _ => rfl
  | v :: l, i => by
    by_cases h : 16 < v.links.length
    · simp [manyFrom, h]
    · simp only [manyFrom, if_neg h, List.any_cons, decide_eq_false h, Bool.false_or]; exact manyFrom_any l (i + 1)

theorem Tryd.sizeNotice : (Tryd.prog.info? 57).map (·.size) = some 27 := by kernel_rfl
set_option maxHeartbeats 1000000 in
theorem indexMany_any (A : Option Addr) (n c : Nat) (ls : List NoticeV) (w : World) (ha : Notices w A n ls) (hL : ∀ (i : Nat) (v : NoticeV), ls[i]? = some v → v.links.length ≤ 9223372036854775807) :
    Calls Tryd.prog 79 #[.slice A n c, .func (.func 73) #[] #[]] w fun e w' => e = .returned (.int .i64 (idxInt (manyFrom ls 0))) ∧ New w w' := by
  have hn := ha.sl.le
  have HLEN := Lib.hid ha.len
  have HL := Lib.hid hL
  obtain ⟨res, hres⟩ : ∃ res, manyFrom ls 0 = res := ⟨_, rfl⟩
  rw [hres]
  have HR := Lib.hid hres
  clear hres hL
  go_enter Tryd.func79, Tryd.ntmps79
  go_wp2
  go_loopw [8] (fun i wr => ∃ k : Nat, k ≤ n ∧ i = .int .i64 (k : Int) ∧ manyFrom (ls.drop k) k = res ∧ New w wr) (fun i _ => n - (intOf i).toNat)
  case atStart => exact ⟨0, Nat.zero_le _, rfl, HR.out, Mod.refl _ _⟩
  case round =>
    obtain ⟨k, hk, rfl, hf, hw⟩ := hrel
    have HF := Lib.hid hf
    clear hf
    by_cases hlt : k < n
    · obtain ⟨b, off, v, rfl, hp, hc⟩ := (ha.sl.new_ hw).elem encNotice_len (by decide) hlt
      have hll := HL.out k v hp
      have HC := Lib.hid hc
      have HT := Lib.hid (fun W => tooMany_any v W hll)
      by_cases he : 16 < v.links.length
      · have HH := Lib.hid (show some k = res by rw [← HF.out, manyFrom_hit hp he])
        have hd : decide (16 < v.links.length) = true := decide_eq_true he
        rw [hd] at HT
        clear hp hc he
        go_wp2_with (first | (refine wpList_load_cells rfl 57 _ rfl b (off + k * 27) rfl (encNotice v) HC.out _ Tryd.underlying57 rfl Tryd.sizeNotice ?_) | (go_at_call 73; refine (HT.out _).mono ?_; rintro e w3 ⟨rfl, hw3⟩))
        go_ret
        exact ⟨by rw [← HH.out]; rfl, New.trans hw hw3⟩
      · have HH := Lib.hid (show manyFrom (ls.drop (k + 1)) (k + 1) = res by rw [← HF.out, manyFrom_miss hp he])
        have hd : decide (16 < v.links.length) = false := decide_eq_false he
        rw [hd] at HT
        clear hp hc he
        go_wp2_with (first | (refine wpList_load_cells rfl 57 _ rfl b (off + k * 27) rfl (encNotice v) HC.out _ Tryd.underlying57 rfl Tryd.sizeNotice ?_) | (go_at_call 73; refine (HT.out _).mono ?_; rintro e w3 ⟨rfl, hw3⟩))
        go_roundw
        case rel => exact ⟨k + 1, by omega, by go_num, HH.out, New.trans hw hw3⟩
        case measure => simp [intOf]; omega
    · have HH := Lib.hid (show none = res by rw [← HF.out, List.drop_of_length_le (by have := HLEN.out; omega)]; rfl)
      go_wp2
      go_ret
      exact ⟨by rw [← HH.out]; rfl, hw⟩

theorem containsMany_any (A : Option Addr) (n c : Nat) (ls : List NoticeV) (w : World) (ha : Notices w A n ls) (hL : ∀ (i : Nat) (v : NoticeV), ls[i]? = some v → v.links.length ≤ 9223372036854775807) :
    Calls Tryd.prog 72 #[.slice A n c, .func (.func 73) #[] #[]] w fun e w' => e = .returned (.bool (ls.any fun v => decide (16 < v.links.length))) ∧ New w w' := by
  have hm := manyFrom_any ls 0
  have HI := Lib.hid (fun W hW => indexMany_any A n c ls W hW hL)
  rw [← hm]
  cases hr : manyFrom ls 0 with
  | none =>
    rw [hr] at HI
    go_enter Tryd.func72, Tryd.ntmps72
    go_wp2_with (go_at_call 79; refine (HI.out _ ha).mono ?_; rintro e w3 ⟨rfl, hw3⟩)
    go_ret
    exact ⟨rfl, hw3⟩
  | some k =>
    rw [hr] at HI
    have hd : decide (0 ≤ idxInt (some k)) = true := by simp [idxInt]
    go_enter Tryd.func72, Tryd.ntmps72
    go_wp2_with (go_at_call 79; refine (HI.out _ ha).mono ?_; rintro e w3 ⟨rfl, hw3⟩)
    go_ret
    exact ⟨ret_bool (by simp [idxInt]), hw3⟩
end Go.Proofs.YtkkaejbdekdljaaDoor
/- Walks: links.places. -/
set_option linter.unusedVariables false
set_option linter.unusedSimpArgs false
namespace Go.Proofs.YtkkaejbdekdljaaDoor
open Go.RowKit Go.Maps

def strVal (s : ByteArray) : Value := .string s
theorem strVal_inj (x y : ByteArray) (h : strVal x = strVal y) : x = y := by injection h
theorem Tryd.keyedStr : Keyed Tryd.prog 9 := string_keyed Tryd.underlying9
theorem Tryd.keyOfStr {s : ByteArray} (h : s.size ≤ maxLen) : keyOf Tryd.prog 9 (strVal s) = some (.string s.data.toList) := WideMaps.keyOf_string_mk Tryd.underlying9 h
theorem bytes_toList_inj {a b : ByteArray} (h : a.toList = b.toList) : a = b := by
  rw [ByteArray.toList_eq, ByteArray.toList_eq] at h
  cases a; cases b; simp at h; simpa using congrArg ByteArray.mk h
/-- How the map of places stands behind k notices. -/
def placesAt (ls : List NoticeV) (k : Nat) : ByteArray → Option Int := fun r => (findAt (ls.take k) r.toList).map fun j : Nat => (j : Int)
theorem placesAt_zero (ls : List NoticeV) : placesAt ls 0 = fun _ => none := by
  funext r; simp [placesAt, findAt, findFrom]
theorem placesAt_all (ls : List NoticeV) : placesAt ls ls.length = fun r => (findAt ls r.toList).map fun j : Nat => (j : Int) := by
  funext r; simp [placesAt]
theorem placesAt_succ {ls : List NoticeV} {k : Nat} {v : NoticeV} (h : ls[k]? = some v) (hn : findAt (ls.take k) v.b.ref.toList = none) : upd (placesAt ls k) v.b.ref (k : Int) = placesAt ls (k + 1) := by
  funext r
  simp only [upd, placesAt, find_snoc h hn]
  by_cases e : r = v.b.ref
  · subst e; simp
  · have e2 : ¬ r.toList = v.b.ref.toList := fun h => e (bytes_toList_inj h)
    rw [if_neg e, if_neg e2]
theorem enc_one (v : NoticeV) : ∀ u ∈ encNotice v, u.oneCell' = true := by
  unfold encNotice; simp [Value.oneCell']

theorem places_bad (A : Option Addr) (n c : Nat) (ls : List NoticeV) (w : World) (ha : Notices w A n ls) (hL : ∀ (i : Nat) (v : NoticeV), ls[i]? = some v → v.links.length ≤ 9223372036854775807)
    (hbad : 4096 < n ∨ (ls.any fun v => decide (16 < v.links.length)) = true) :
    Calls Tryd.prog 58 #[.slice A n c] w fun e w' => e = .returned (.tuple #[.map none, .iface 82 (.agg #[.int .i64 5])]) ∧ New w w' := by
  have hn := ha.sl.le
  by_cases h1 : 4096 < n
  · have hd : decide ((4096 : Int) < (n : Int)) = true := by simp; omega
    go_enter Tryd.func58, Tryd.ntmps58
    go_wp2
    go_ret2
    exact ⟨rfl, Mod.refl _ _⟩
  · have hb : (ls.any fun v => decide (16 < v.links.length)) = true := by
      rcases hbad with h | h
      · exact absurd h h1
      · exact h
    have HC := Lib.hid (fun W hW => containsMany_any A n c ls W hW hL)
    rw [hb] at HC
    have hd : decide ((4096 : Int) < (n : Int)) = false := by simp; omega
    go_enter Tryd.func58, Tryd.ntmps58
    go_wp2_with (go_at_call 72; refine (HC.out _ ha).mono ?_; rintro e w3 ⟨rfl, hw3⟩)
    go_ret2
    exact ⟨rfl, hw3⟩

/-- What links.places answers of notices that are not too many. -/
def PlacesPost (ls : List NoticeV) (tw : Option Nat) (w : World) (e : Ending) (w' : World) : Prop :=
  New w w' ∧ match tw with
  | some i => e = .returned (.tuple #[.map none, .iface 88 (.agg #[.int .i64 11, .int .i64 0, .int .i64 (i : Int)])])
  | none => ∃ b, e = .returned (.tuple #[.map (some b), .nilIface]) ∧ MapOf 9 strVal w' b ls.length (fun r => (findAt ls r.toList).map fun j : Nat => (j : Int))
set_option maxRecDepth 100000 in
set_option maxHeartbeats 1000000 in
theorem places_any (A : Option Addr) (n c : Nat) (ls : List NoticeV) (w : World) (ha : Notices w A n ls) (hL : ∀ (i : Nat) (v : NoticeV), ls[i]? = some v → v.links.length ≤ 9223372036854775807) (hK : ∀ (i : Nat) (v : NoticeV), ls[i]? = some v → NoticeOk v)
    (h1 : ¬ 4096 < n) (hb : (ls.any fun v => decide (16 < v.links.length)) = false) :
    Calls Tryd.prog 58 #[.slice A n c] w (PlacesPost ls (twiceFrom ls ls 0) w) := by
  have hn := ha.sl.le
  have HLEN := Lib.hid ha.len
  have HKEYS := Lib.hid hK
  have HC := Lib.hid (fun W hW => containsMany_any A n c ls W hW hL)
  rw [hb] at HC
  obtain ⟨tw, htw⟩ : ∃ tw, twiceFrom ls ls 0 = tw := ⟨_, rfl⟩
  rw [htw]
  have HTW := Lib.hid htw
  clear htw hb hK
  have hd : decide ((4096 : Int) < (n : Int)) = false := by simp; omega
  have hmm := @run_makeMap Tryd.prog
  go_enter Tryd.func58, Tryd.ntmps58
  go_wp2_with (go_at_call 72; refine (HC.out _ ha).mono ?_; rintro e w1 ⟨rfl, hw1⟩)
  clear hd
  go_loopw [21] (fun i wr => ∃ k : Nat, k ≤ n ∧ i = .int .i64 (k : Int) ∧ MapOf 9 strVal wr w1.heap.size k (placesAt ls k) ∧ twiceFrom ls (ls.drop k) k = tw ∧ New w wr) (fun i _ => n - (intOf i).toNat)
  case atStart => exact ⟨0, Nat.zero_le _, rfl, by rw [placesAt_zero]; exact MapOf.made w1 _ _, HTW.out, hw1.alloc _⟩
  case round =>
    obtain ⟨k, hk, rfl, hmap, ht, hw⟩ := hrel
    have HT := Lib.hid ht
    have HM := Lib.hid hmap
    clear ht hmap
    by_cases hlt : k < n
    · obtain ⟨b, off, v, rfl, hp, hc⟩ := (ha.sl.new_ hw).elem encNotice_len (by decide) hlt
      have hok := (HKEYS.out k v hp).1
      have HC2 := Lib.hid hc
      have HP := Lib.hid hp
      have HKEY := Lib.hid (Tryd.keyOfStr hok)
      clear hc hp
      cases hf : findAt (ls.take k) v.b.ref.toList with
      | some j =>
        have HF := Lib.hid (show placesAt ls k v.b.ref = some (j : Int) by simp [placesAt, hf])
        have HH := Lib.hid (show some k = tw by
          have h1 := find_take (ls := ls) (r := v.b.ref.toList) k
          rw [← HT.out, twice_hit HP.out (fun h2 => by rw [h2, hf] at h1; simp at h1)])
        clear hf
        go_wp2_with (first
          | (refine wpList_load_cells rfl 57 _ rfl b (off + k * 27) rfl (encNotice v) HC2.out _ Tryd.underlying57 rfl Tryd.sizeNotice ?_)
          | (refine wpList_store_fresh rfl _ _ rfl (encNotice v) rfl rfl Tryd.sizeNotice rfl (enc_one v) ?_; intro w2 hb2 hn2 hs2; have e0 : w2.cell? ⟨wr.heap.size, 0, none⟩ = some (.string v.b.ref) := hb2.cell 0; have HN2 := Lib.hid hn2; have hm2 := HM.out.new_ hn2; have HM2 := Lib.hid hm2; clear hm2 hn2 hb2)
          | (at_lookup; refine wpList_mapOf_some rfl _ _ 99 rfl Tryd.keyedStr Tryd.underlying99 rfl HM2.out v.b.ref rfl HKEY.out HF.out ?_))
        go_ret2
        exact ⟨New.trans hw HN2.out, by rw [← HH.out]; rfl⟩
      | none =>
        have HF := Lib.hid (show placesAt ls k v.b.ref = none by simp [placesAt, hf])
        have HPS := Lib.hid (placesAt_succ HP.out hf)
        have HH := Lib.hid (show twiceFrom ls (ls.drop (k + 1)) (k + 1) = tw by
          have h1 := find_snoc HP.out hf v.b.ref.toList
          rw [if_pos rfl, find_take (k + 1)] at h1
          rw [← HT.out, twice_miss HP.out]
          cases hq : findAt ls v.b.ref.toList with
          | none => rw [hq] at h1; simp at h1
          | some j =>
            rw [hq] at h1
            simp only at h1
            split at h1
            · exact h1
            · cases h1)
        clear hf
        go_wp2_with (first
          | (refine wpList_load_cells rfl 57 _ rfl b (off + k * 27) rfl (encNotice v) HC2.out _ Tryd.underlying57 rfl Tryd.sizeNotice ?_)
          | (refine wpList_store_fresh rfl _ _ rfl (encNotice v) rfl rfl Tryd.sizeNotice rfl (enc_one v) ?_; intro w2 hb2 hn2 hs2; have e0 : w2.cell? ⟨wr.heap.size, 0, none⟩ = some (.string v.b.ref) := hb2.cell 0; have HN2 := Lib.hid hn2; have hm2 := HM.out.new_ hn2; have HM2 := Lib.hid hm2; clear hm2 hn2 hb2)
          | (at_lookup; refine wpList_mapOf_none rfl _ _ 99 rfl Tryd.keyedStr Tryd.underlying99 rfl HM2.out v.b.ref rfl HKEY.out HF.out ?_)
          | (at_mapUpdate; refine wpList_mapOf_put strVal_inj rfl _ _ _ 99 rfl Tryd.keyedStr Tryd.underlying99 rfl HM2.out (by unfold maxLen; omega) v.b.ref rfl HKEY.out (k : Int) rfl (WalkArith.wf_i64 (by omega)) ?_; intro w3 hmap3 hgr3; have HM3 := Lib.hid hmap3; have HG3 := Lib.hid hgr3; clear hmap3 hgr3))
        go_roundw
        case rel => exact ⟨k + 1, by omega, by go_num, by rw [← HPS.out]; exact HM3.out, HH.out, Mod.trans (New.trans hw HN2.out) (Mod.of_grown (S := (· = w1.heap.size)) HG3.out (fun _ h => by injection h with h; exact h.symm)) (fun x hx h => by have := hw1.size; omega)⟩
        case measure => simp [intOf]; omega
    · obtain rfl : k = n := by omega
      have htn : tw = none := by rw [← HT.out, List.drop_of_length_le (by have := HLEN.out; omega)]; rfl
      subst htn
      go_wp2
      go_ret2
      exact ⟨hw, _, rfl, by
        have := HM.out
        rw [← HLEN.out, placesAt_all] at this
        rw [HLEN.out] at this ⊢
        exact this⟩
end Go.Proofs.YtkkaejbdekdljaaDoor
/- Walks: links.tied. -/
set_option linter.unusedVariables false
set_option linter.unusedSimpArgs false
namespace Go.Proofs.YtkkaejbdekdljaaDoor
open Go.RowKit Go.Maps

/-- What links.tied answers. -/
def TiedPost (nb : Option (Int × Nat × Nat)) (WW TT : List (Int × Int)) (w : World) (e : Ending) (w' : World) : Prop :=
  New w w' ∧ match nb with
  | some (no, i, k) => e = .returned (.tuple #[.slice none 0 0, .slice none 0 0, .iface 88 (.agg #[.int .i64 no, .int .i64 (i : Int), .int .i64 (k : Int)])])
  | none => ∃ va vb, e = .returned (.tuple #[va, vb, .nilIface]) ∧ RowsOf w' w.heap.size 67 2 [va, vb] [(WW.length, cellsL encTwos WW), (TT.length, cellsL encTwos TT)]
theorem tied_bad {nb : Option (Int × Nat × Nat)} {WW TT : List (Int × Int)} {w : World} {no : Int} {i k : Nat} (h : nb = some (no, i, k)) : ∀ w', New w w' → TiedPost nb WW TT w (.returned (.tuple #[.slice none 0 0, .slice none 0 0, .iface 88 (.agg #[.int .i64 no, .int .i64 (i : Int), .int .i64 (k : Int)])])) w' :=
  fun w' hw => ⟨hw, by rw [h]⟩
section
variable {w w1 w4 : World} {B : Nat} {e : TypeId} {va vb v' : Value} {n m : Nat} {xs ys news : List Value}
theorem RowsOf.left2 (h : RowsOf w1 B e 2 [va, vb] [(n, xs), (m, ys)]) (hg : w1.grownBy w4 va.ownBlock) (hown : w4.ownsRow B e 2 v' (n + 1) (xs ++ news)) (hb : v'.ownBlock = va.ownBlock ∨ v'.ownBlock = some w1.heap.size) : RowsOf w4 B e 2 [v', vb] [(n + 1, xs ++ news), (m, ys)] :=
  h.upd (i := 0) (x := (n + 1, xs ++ news)) rfl hg hown hb
theorem RowsOf.right2 (h : RowsOf w1 B e 2 [va, vb] [(n, xs), (m, ys)]) (hg : w1.grownBy w4 vb.ownBlock) (hown : w4.ownsRow B e 2 v' (m + 1) (ys ++ news)) (hb : v'.ownBlock = vb.ownBlock ∨ v'.ownBlock = some w1.heap.size) : RowsOf w4 B e 2 [va, v'] [(n, xs), (m + 1, ys ++ news)] :=
  h.upd (i := 1) (x := (m + 1, ys ++ news)) rfl hg hown hb
end
theorem pairs_grow {l : List (Int × Int)} {p : Int × Int} : cellsL encTwos (l ++ [p]) = cellsL encTwos l ++ [.int .i64 p.1, .int .i64 p.2] := by rw [cellsL_append, cellsL_one]; rfl

theorem Tryd.sizeLink : (Tryd.prog.info? 96).map (·.size) = some 2 := by kernel_rfl
theorem encLinks_one (x : Int × ByteArray) : ∀ u ∈ encLinks x, u.oneCell' = true := by obtain ⟨a, b⟩ := x; simp [encLinks, Value.oneCell']

set_option maxRecDepth 100000 in
set_option maxHeartbeats 4000000 in
theorem tied_any (A : Option Addr) (n c b0 nn : Nat) (ls : List NoticeV) (w : World) (ha : Notices w A n ls) (hm : MapOf 9 strVal w b0 nn (fun r => (findAt ls r.toList).map fun j : Nat => (j : Int))) (hK : ∀ (i : Nat) (v : NoticeV), ls[i]? = some v → NoticeOk v) (hT : totN ls ≤ 3000) :
    Calls Tryd.prog 59 #[.slice A n c, .map (some b0)] w (TiedPost (noticesBad ls ls 0) (withsOf ls) (tiesOf ls) w) := by
  have hn := ha.sl.le
  have HLEN := Lib.hid ha.len
  have HK := Lib.hid hK
  have hwl := Nat.le_trans (withsOf_le ls) hT
  have htl := Nat.le_trans (tiesOf_le ls) hT
  obtain ⟨nb, hnb⟩ : ∃ nb, noticesBad ls ls 0 = nb := ⟨_, rfl⟩
  obtain ⟨WW, hWW⟩ : ∃ WW, withsOf ls = WW := ⟨_, rfl⟩
  obtain ⟨TT, hTT⟩ : ∃ TT, tiesOf ls = TT := ⟨_, rfl⟩
  rw [hnb, hWW, hTT]
  rw [hWW] at hwl
  rw [hTT] at htl
  have HNB := Lib.hid hnb
  have HWW := Lib.hid hWW
  have HTT := Lib.hid hTT
  have HM := Lib.hid hm
  clear hK hT hnb hWW hTT hm
  go_enter Tryd.func59, Tryd.ntmps59
  go_wp2
  go_loopw [4, 5, 15] (fun va vb i wr => ∃ (k : Nat) (W T : List (Int × Int)), k ≤ n ∧ i = .int .i64 (k : Int) ∧ RowsOf wr w.heap.size 67 2 [va, vb] [(W.length, cellsL encTwos W), (T.length, cellsL encTwos T)] ∧
    W ++ pairs (linkWith ls) (ls.drop k) k = WW ∧ T ++ pairs (linkTie ls) (ls.drop k) k = TT ∧ noticesBad ls (ls.drop k) k = nb ∧ New w wr) (fun _ _ i _ => n - (intOf i).toNat)
  case atStart => exact ⟨0, [], [], Nat.zero_le _, rfl, RowsOf.nil w _ _ _ 2, HWW.out, HTT.out, HNB.out, Mod.refl _ _⟩
  case round =>
    obtain ⟨i, W, T, hi, rfl, hrows, hWr, hTr, hbad, hw⟩ := hrel
    have HR := Lib.hid hrows
    have HW := Lib.hid hWr
    have HT := Lib.hid hTr
    have HB := Lib.hid hbad
    clear hrows hWr hTr hbad
    by_cases hlt : i < n
    · obtain ⟨b, off, ⟨vB, vR, vC, vL⟩, rfl, hp, hc⟩ := (ha.sl.new_ hw).elem encNotice_len (by decide) hlt
      have HC2 := Lib.hid hc
      have HP := Lib.hid hp
      have hok : ∀ (k : Nat) (x : Int × ByteArray), vL[k]? = some x → LinkOk x := (HK.out i _ hp).2
      have HOK := Lib.hid hok
      have hll : vL.length ≤ 9223372036854775807 := (ha.ok i _ hp).le
      obtain ⟨lb, hlb⟩ : ∃ t, linksBad ls vL 0 = t := ⟨_, rfl⟩
      have HLB := Lib.hid hlb
      have hW1 : W ++ ((vL.drop 0).flatMap (linkWith ls i) ++ pairs (linkWith ls) (ls.drop (i + 1)) (i + 1)) = WW := by have := HW.out; rw [pairs_next hp] at this; exact this
      have hT1 : T ++ ((vL.drop 0).flatMap (linkTie ls i) ++ pairs (linkTie ls) (ls.drop (i + 1)) (i + 1)) = TT := by have := HT.out; rw [pairs_next hp] at this; exact this
      have HW1 := Lib.hid hW1
      have HT1 := Lib.hid hT1
      have HSL := Lib.hid (show Sl w vR vL.length 2 (cellsL encLinks vL) from ha.ok i _ hp)
      clear hc hp hok hlb hW1 hT1
      go_wp2_with (first
        | (refine wpList_load_cells rfl 57 _ rfl b (off + i * 27) rfl (encNotice ⟨vB, vR, vC, vL⟩) HC2.out _ Tryd.underlying57 rfl Tryd.sizeNotice ?_)
        | (refine wpList_store_fresh rfl _ _ rfl (encNotice ⟨vB, vR, vC, vL⟩) rfl rfl Tryd.sizeNotice rfl (enc_one _) ?_; intro w2 hb2 hn2 hs2; have e26 : w2.cell? ⟨wr.heap.size, 26, none⟩ = some (.slice vR vL.length vC) := hb2.cell 26; have HN2 := Lib.hid hn2; clear hn2 hb2 hs2))
      clear e26
      have hw2 := New.trans hw HN2.out
      have hr2 := HR.out.new_ HN2.out
      obtain ⟨wo, rfl⟩ : ∃ wo : World, wo = w2 := ⟨_, rfl⟩
      go_loopw [4, 5, 23] (fun va vb j wr => ∃ (k : Nat) (W T : List (Int × Int)), k ≤ vL.length ∧ j = .int .i64 (k : Int) ∧ RowsOf wr w.heap.size 67 2 [va, vb] [(W.length, cellsL encTwos W), (T.length, cellsL encTwos T)] ∧
        W ++ ((vL.drop k).flatMap (linkWith ls i) ++ pairs (linkWith ls) (ls.drop (i + 1)) (i + 1)) = WW ∧ T ++ ((vL.drop k).flatMap (linkTie ls i) ++ pairs (linkTie ls) (ls.drop (i + 1)) (i + 1)) = TT ∧ linksBad ls (vL.drop k) k = lb ∧ New w wr) (fun _ _ j _ => vL.length - (intOf j).toNat)
      case atStart => exact ⟨0, W, T, Nat.zero_le _, rfl, hr2, HW1.out, HT1.out, HLB.out, hw2⟩
      case round =>
        clear hr2 hw2
        obtain ⟨k, W, T, hk, rfl, hrows, hWr, hTr, hbad, hw3⟩ := hrel
        have HR := Lib.hid hrows
        have HW := Lib.hid hWr
        have HT := Lib.hid hTr
        have HB2 := Lib.hid hbad
        clear hrows hWr hTr hbad
        by_cases hkl : k < vL.length
        · obtain ⟨lb3, lo3, ⟨x0, x1⟩, hRR, hx, hxc⟩ := Sl.elem (sz := 2) encLinks_len (by decide) (HSL.out.new_ hw3) hkl
          subst hRR
          have d0 := hxc 0 _ rfl
          have d1 := hxc 1 _ rfl
          simp only [Nat.add_zero] at d0
          have HKEY := Lib.hid (Tryd.keyOfStr (HOK.out k _ hx))
          have HX := Lib.hid hx
          clear hxc hx
          have hwlen : W.length ≤ 3000 := by have := congrArg List.length HW.out; simp only [List.length_append] at this; omega
          have htlen : T.length ≤ 3000 := by have := congrArg List.length HT.out; simp only [List.length_append] at this; omega
          have hW1 := HW.out
          rw [links_next HX.out, List.append_assoc, ← List.append_assoc] at hW1
          have hT1 := HT.out
          rw [links_next HX.out, List.append_assoc, ← List.append_assoc] at hT1
          cases hf : findAt ls x1.toList with
          | none =>
            have HF := Lib.hid (show ((findAt ls x1.toList).map fun j : Nat => (j : Int)) = none by rw [hf]; rfl)
            have hoth : other ls (x0, x1) = 0 := by simp [other, hf]
            by_cases hkind : x0 ≠ 1 ∧ x0 ≠ 2 ∧ x0 ≠ 3
            · have HH := Lib.hid (tied_bad (WW := WW) (TT := TT) (w := w) (show nb = some (24, i, k) by
                  have hb : linkBad ls (x0, x1) = 24 := by unfold linkBad; rw [if_pos hkind]
                  have h1 : lb = some (24, k) := by rw [← HB2.out, linksBad_hit HX.out (by rw [hb]; decide), hb]
                  rw [← HB.out, noticesBad_hit HP.out (HLB.out.trans h1)]))
              have g1 : (x0 == 1) = false := by simpa using hkind.1
              have g2 : (x0 == 2) = false := by simpa using hkind.2.1
              have g3 : (x0 == 3) = false := by simpa using hkind.2.2
              clear hkind hoth hf hW1 hT1
              go_wp2_with (first | (refine wpList_store_fresh rfl _ _ rfl (encLinks (x0, x1)) rfl rfl Tryd.sizeLink rfl (encLinks_one (x0, x1)) ?_; intro w3 hb3 hn3 hs3; have e0 : w3.cell? ⟨wr.heap.size, 0, none⟩ = some (.int .i64 x0) := hb3.cell 0; have e1 : w3.cell? ⟨wr.heap.size, 1, none⟩ = some (.string x1) := hb3.cell 1; have HN3 := Lib.hid hn3; have hm3 := HM.out.new_ (New.trans hw3 hn3); have HM3 := Lib.hid hm3; have hr3 := HR.out.new_ hn3; have HR3 := Lib.hid hr3; have hz3 := New.trans hw3 hn3; clear hm3 hn3 hb3 hr3 hs3) | (at_lookup; refine wpList_mapOf_none rfl _ _ 99 rfl Tryd.keyedStr Tryd.underlying99 rfl HM3.out x1 rfl HKEY.out HF.out ?_))
              go_ret3
              exact HH.out _ hz3
            · have hk3 : x0 = 1 ∨ x0 = 2 ∨ x0 = 3 := by omega
              have HH := Lib.hid (tied_bad (WW := WW) (TT := TT) (w := w) (show nb = some (10, i, k) by
                  have hb : linkBad ls (x0, x1) = 10 := by unfold linkBad; rw [if_neg hkind, if_pos hf]
                  have h1 : lb = some (10, k) := by rw [← HB2.out, linksBad_hit HX.out (by rw [hb]; decide), hb]
                  rw [← HB.out, noticesBad_hit HP.out (HLB.out.trans h1)]))
              rcases hk3 with rfl | rfl | rfl
              · clear hkind hoth hf hW1 hT1
                go_wp2_with (first | (refine wpList_store_fresh rfl _ _ rfl (encLinks (1, x1)) rfl rfl Tryd.sizeLink rfl (encLinks_one (1, x1)) ?_; intro w3 hb3 hn3 hs3; have e0 : w3.cell? ⟨wr.heap.size, 0, none⟩ = some (.int .i64 1) := hb3.cell 0; have e1 : w3.cell? ⟨wr.heap.size, 1, none⟩ = some (.string x1) := hb3.cell 1; have HN3 := Lib.hid hn3; have hm3 := HM.out.new_ (New.trans hw3 hn3); have HM3 := Lib.hid hm3; have hr3 := HR.out.new_ hn3; have HR3 := Lib.hid hr3; have hz3 := New.trans hw3 hn3; clear hm3 hn3 hb3 hr3 hs3) | (at_lookup; refine wpList_mapOf_none rfl _ _ 99 rfl Tryd.keyedStr Tryd.underlying99 rfl HM3.out x1 rfl HKEY.out HF.out ?_) | (at_builtin; refine wpList_app Tryd.sltTwos rfl (.tmp 43) (.tmp 47) rfl w.heap.size _ W.length _ rfl ((HR3.out.own 0 _ _ rfl rfl).alloc _) ⟨w3.heap.size, 0, none⟩ 1 1 [.int .i64 (i : Int), .int .i64 0] rfl rfl (cells_new _ _ _) ?c1 ?c2 ?c3 ?_))
                case c1 => simp [Value.oneCell']
                case c2 => omega
                case c3 => have := hz3.size; first | omega | (simp; omega)
                intro v4 w4 hown4 hg4 hbl4
                have hz4 : New w w4 := New.grown (hz3.alloc _) ((HR3.out.own 0 _ _ rfl rfl).alloc _) (Nat.le_refl _) hg4
                clear hown4 hg4 hbl4
                go_wp2
                go_ret3
                exact HH.out _ hz4
              · clear hkind hoth hf hW1 hT1
                go_wp2_with (first | (refine wpList_store_fresh rfl _ _ rfl (encLinks (2, x1)) rfl rfl Tryd.sizeLink rfl (encLinks_one (2, x1)) ?_; intro w3 hb3 hn3 hs3; have e0 : w3.cell? ⟨wr.heap.size, 0, none⟩ = some (.int .i64 2) := hb3.cell 0; have e1 : w3.cell? ⟨wr.heap.size, 1, none⟩ = some (.string x1) := hb3.cell 1; have HN3 := Lib.hid hn3; have hm3 := HM.out.new_ (New.trans hw3 hn3); have HM3 := Lib.hid hm3; have hr3 := HR.out.new_ hn3; have HR3 := Lib.hid hr3; have hz3 := New.trans hw3 hn3; clear hm3 hn3 hb3 hr3 hs3) | (at_lookup; refine wpList_mapOf_none rfl _ _ 99 rfl Tryd.keyedStr Tryd.underlying99 rfl HM3.out x1 rfl HKEY.out HF.out ?_) | (at_builtin; refine wpList_app Tryd.sltTwos rfl (.tmp 51) (.tmp 55) rfl w.heap.size _ T.length _ rfl ((HR3.out.own 1 _ _ rfl rfl).alloc _) ⟨w3.heap.size, 0, none⟩ 1 1 [.int .i64 (i : Int), .int .i64 0] rfl rfl (cells_new _ _ _) ?c1 ?c2 ?c3 ?_))
                case c1 => simp [Value.oneCell']
                case c2 => omega
                case c3 => have := hz3.size; first | omega | (simp; omega)
                intro v4 w4 hown4 hg4 hbl4
                have hz4 : New w w4 := New.grown (hz3.alloc _) ((HR3.out.own 1 _ _ rfl rfl).alloc _) (Nat.le_refl _) hg4
                clear hown4 hg4 hbl4
                go_wp2
                go_ret3
                exact HH.out _ hz4
              · clear hkind hoth hf hW1 hT1
                go_wp2_with (first | (refine wpList_store_fresh rfl _ _ rfl (encLinks (3, x1)) rfl rfl Tryd.sizeLink rfl (encLinks_one (3, x1)) ?_; intro w3 hb3 hn3 hs3; have e0 : w3.cell? ⟨wr.heap.size, 0, none⟩ = some (.int .i64 3) := hb3.cell 0; have e1 : w3.cell? ⟨wr.heap.size, 1, none⟩ = some (.string x1) := hb3.cell 1; have HN3 := Lib.hid hn3; have hm3 := HM.out.new_ (New.trans hw3 hn3); have HM3 := Lib.hid hm3; have hr3 := HR.out.new_ hn3; have HR3 := Lib.hid hr3; have hz3 := New.trans hw3 hn3; clear hm3 hn3 hb3 hr3 hs3) | (at_lookup; refine wpList_mapOf_none rfl _ _ 99 rfl Tryd.keyedStr Tryd.underlying99 rfl HM3.out x1 rfl HKEY.out HF.out ?_) | (at_builtin; refine wpList_app Tryd.sltTwos rfl (.tmp 59) (.tmp 63) rfl w.heap.size _ T.length _ rfl ((HR3.out.own 1 _ _ rfl rfl).alloc _) ⟨w3.heap.size, 0, none⟩ 1 1 [.int .i64 0, .int .i64 (i : Int)] rfl rfl (cells_new _ _ _) ?c1 ?c2 ?c3 ?_))
                case c1 => simp [Value.oneCell']
                case c2 => omega
                case c3 => have := hz3.size; first | omega | (simp; omega)
                intro v4 w4 hown4 hg4 hbl4
                have hz4 : New w w4 := New.grown (hz3.alloc _) ((HR3.out.own 1 _ _ rfl rfl).alloc _) (Nat.le_refl _) hg4
                clear hown4 hg4 hbl4
                go_wp2
                go_ret3
                exact HH.out _ hz4
          | some z =>
            have HF := Lib.hid (show ((findAt ls x1.toList).map fun j : Nat => (j : Int)) = some (z : Int) by rw [hf]; rfl)
            have hoth : other ls (x0, x1) = z := by simp [other, hf]
            by_cases hkind : x0 ≠ 1 ∧ x0 ≠ 2 ∧ x0 ≠ 3
            · have HH := Lib.hid (tied_bad (WW := WW) (TT := TT) (w := w) (show nb = some (24, i, k) by
                  have hb : linkBad ls (x0, x1) = 24 := by unfold linkBad; rw [if_pos hkind]
                  have h1 : lb = some (24, k) := by rw [← HB2.out, linksBad_hit HX.out (by rw [hb]; decide), hb]
                  rw [← HB.out, noticesBad_hit HP.out (HLB.out.trans h1)]))
              have g1 : (x0 == 1) = false := by simpa using hkind.1
              have g2 : (x0 == 2) = false := by simpa using hkind.2.1
              have g3 : (x0 == 3) = false := by simpa using hkind.2.2
              clear hkind hoth hf hW1 hT1
              go_wp2_with (first | (refine wpList_store_fresh rfl _ _ rfl (encLinks (x0, x1)) rfl rfl Tryd.sizeLink rfl (encLinks_one (x0, x1)) ?_; intro w3 hb3 hn3 hs3; have e0 : w3.cell? ⟨wr.heap.size, 0, none⟩ = some (.int .i64 x0) := hb3.cell 0; have e1 : w3.cell? ⟨wr.heap.size, 1, none⟩ = some (.string x1) := hb3.cell 1; have HN3 := Lib.hid hn3; have hm3 := HM.out.new_ (New.trans hw3 hn3); have HM3 := Lib.hid hm3; have hr3 := HR.out.new_ hn3; have HR3 := Lib.hid hr3; have hz3 := New.trans hw3 hn3; clear hm3 hn3 hb3 hr3 hs3) | (at_lookup; refine wpList_mapOf_some rfl _ _ 99 rfl Tryd.keyedStr Tryd.underlying99 rfl HM3.out x1 rfl HKEY.out HF.out ?_))
              go_ret3
              exact HH.out _ hz3
            · have hk3 : x0 = 1 ∨ x0 = 2 ∨ x0 = 3 := by omega
              have HH := Lib.hid (show linksBad ls (vL.drop (k + 1)) (k + 1) = lb by
                  have hb : linkBad ls (x0, x1) = 0 := by unfold linkBad; rw [if_neg hkind, if_neg (by rw [hf]; simp)]
                  rw [← HB2.out, linksBad_miss HX.out hb])
              rcases hk3 with rfl | rfl | rfl
              · have HW2 := Lib.hid (show (W ++ [((i : Int), (z : Int))]) ++ ((vL.drop (k + 1)).flatMap (linkWith ls i) ++ pairs (linkWith ls) (ls.drop (i + 1)) (i + 1)) = WW by rw [← hW1]; simp [linkWith, hoth])
                have HT2 := Lib.hid (show (T) ++ ((vL.drop (k + 1)).flatMap (linkTie ls i) ++ pairs (linkTie ls) (ls.drop (i + 1)) (i + 1)) = TT by rw [← hT1]; simp [linkTie, hoth])
                clear hkind hoth hf hW1 hT1
                go_wp2_with (first | (refine wpList_store_fresh rfl _ _ rfl (encLinks (1, x1)) rfl rfl Tryd.sizeLink rfl (encLinks_one (1, x1)) ?_; intro w3 hb3 hn3 hs3; have e0 : w3.cell? ⟨wr.heap.size, 0, none⟩ = some (.int .i64 1) := hb3.cell 0; have e1 : w3.cell? ⟨wr.heap.size, 1, none⟩ = some (.string x1) := hb3.cell 1; have HN3 := Lib.hid hn3; have hm3 := HM.out.new_ (New.trans hw3 hn3); have HM3 := Lib.hid hm3; have hr3 := HR.out.new_ hn3; have HR3 := Lib.hid hr3; have hz3 := New.trans hw3 hn3; clear hm3 hn3 hb3 hr3 hs3) | (at_lookup; refine wpList_mapOf_some rfl _ _ 99 rfl Tryd.keyedStr Tryd.underlying99 rfl HM3.out x1 rfl HKEY.out HF.out ?_) | (at_builtin; refine wpList_app Tryd.sltTwos rfl (.tmp 43) (.tmp 47) rfl w.heap.size _ W.length _ rfl ((HR3.out.own 0 _ _ rfl rfl).alloc _) ⟨w3.heap.size, 0, none⟩ 1 1 [.int .i64 (i : Int), .int .i64 (z : Int)] rfl rfl (cells_new _ _ _) ?c1 ?c2 ?c3 ?_))
                case c1 => simp [Value.oneCell']
                case c2 => omega
                case c3 => have := hz3.size; first | omega | (simp; omega)
                intro v4 w4 hown4 hg4 hbl4
                have hz4 : New w w4 := New.grown (hz3.alloc _) ((HR3.out.own 0 _ _ rfl rfl).alloc _) (Nat.le_refl _) hg4
                have hr4 := (HR3.out.new_ ((Mod.refl (fun _ => False) w3).alloc _)).left2 hg4 hown4 (by simpa using hbl4)
                have HR4 := Lib.hid hr4
                clear hown4 hg4 hbl4 hr4
                go_wp2
                go_roundw
                case rel => exact ⟨k + 1, W ++ [((i : Int), (z : Int))], T, by omega, by go_num, by have := HR4.out; rw [pairs_grow, List.length_append]; exact this, HW2.out, HT2.out, HH.out, hz4⟩
                case measure => simp [intOf]; omega
              · have HW2 := Lib.hid (show (W) ++ ((vL.drop (k + 1)).flatMap (linkWith ls i) ++ pairs (linkWith ls) (ls.drop (i + 1)) (i + 1)) = WW by rw [← hW1]; simp [linkWith, hoth])
                have HT2 := Lib.hid (show (T ++ [((i : Int), (z : Int))]) ++ ((vL.drop (k + 1)).flatMap (linkTie ls i) ++ pairs (linkTie ls) (ls.drop (i + 1)) (i + 1)) = TT by rw [← hT1]; simp [linkTie, hoth])
                clear hkind hoth hf hW1 hT1
                go_wp2_with (first | (refine wpList_store_fresh rfl _ _ rfl (encLinks (2, x1)) rfl rfl Tryd.sizeLink rfl (encLinks_one (2, x1)) ?_; intro w3 hb3 hn3 hs3; have e0 : w3.cell? ⟨wr.heap.size, 0, none⟩ = some (.int .i64 2) := hb3.cell 0; have e1 : w3.cell? ⟨wr.heap.size, 1, none⟩ = some (.string x1) := hb3.cell 1; have HN3 := Lib.hid hn3; have hm3 := HM.out.new_ (New.trans hw3 hn3); have HM3 := Lib.hid hm3; have hr3 := HR.out.new_ hn3; have HR3 := Lib.hid hr3; have hz3 := New.trans hw3 hn3; clear hm3 hn3 hb3 hr3 hs3) | (at_lookup; refine wpList_mapOf_some rfl _ _ 99 rfl Tryd.keyedStr Tryd.underlying99 rfl HM3.out x1 rfl HKEY.out HF.out ?_) | (at_builtin; refine wpList_app Tryd.sltTwos rfl (.tmp 51) (.tmp 55) rfl w.heap.size _ T.length _ rfl ((HR3.out.own 1 _ _ rfl rfl).alloc _) ⟨w3.heap.size, 0, none⟩ 1 1 [.int .i64 (i : Int), .int .i64 (z : Int)] rfl rfl (cells_new _ _ _) ?c1 ?c2 ?c3 ?_))
                case c1 => simp [Value.oneCell']
                case c2 => omega
                case c3 => have := hz3.size; first | omega | (simp; omega)
                intro v4 w4 hown4 hg4 hbl4
                have hz4 : New w w4 := New.grown (hz3.alloc _) ((HR3.out.own 1 _ _ rfl rfl).alloc _) (Nat.le_refl _) hg4
                have hr4 := (HR3.out.new_ ((Mod.refl (fun _ => False) w3).alloc _)).right2 hg4 hown4 (by simpa using hbl4)
                have HR4 := Lib.hid hr4
                clear hown4 hg4 hbl4 hr4
                go_wp2
                go_roundw
                case rel => exact ⟨k + 1, W, T ++ [((i : Int), (z : Int))], by omega, by go_num, by have := HR4.out; rw [pairs_grow, List.length_append]; exact this, HW2.out, HT2.out, HH.out, hz4⟩
                case measure => simp [intOf]; omega
              · have HW2 := Lib.hid (show (W) ++ ((vL.drop (k + 1)).flatMap (linkWith ls i) ++ pairs (linkWith ls) (ls.drop (i + 1)) (i + 1)) = WW by rw [← hW1]; simp [linkWith, hoth])
                have HT2 := Lib.hid (show (T ++ [((z : Int), (i : Int))]) ++ ((vL.drop (k + 1)).flatMap (linkTie ls i) ++ pairs (linkTie ls) (ls.drop (i + 1)) (i + 1)) = TT by rw [← hT1]; simp [linkTie, hoth])
                clear hkind hoth hf hW1 hT1
                go_wp2_with (first | (refine wpList_store_fresh rfl _ _ rfl (encLinks (3, x1)) rfl rfl Tryd.sizeLink rfl (encLinks_one (3, x1)) ?_; intro w3 hb3 hn3 hs3; have e0 : w3.cell? ⟨wr.heap.size, 0, none⟩ = some (.int .i64 3) := hb3.cell 0; have e1 : w3.cell? ⟨wr.heap.size, 1, none⟩ = some (.string x1) := hb3.cell 1; have HN3 := Lib.hid hn3; have hm3 := HM.out.new_ (New.trans hw3 hn3); have HM3 := Lib.hid hm3; have hr3 := HR.out.new_ hn3; have HR3 := Lib.hid hr3; have hz3 := New.trans hw3 hn3; clear hm3 hn3 hb3 hr3 hs3) | (at_lookup; refine wpList_mapOf_some rfl _ _ 99 rfl Tryd.keyedStr Tryd.underlying99 rfl HM3.out x1 rfl HKEY.out HF.out ?_) | (at_builtin; refine wpList_app Tryd.sltTwos rfl (.tmp 59) (.tmp 63) rfl w.heap.size _ T.length _ rfl ((HR3.out.own 1 _ _ rfl rfl).alloc _) ⟨w3.heap.size, 0, none⟩ 1 1 [.int .i64 (z : Int), .int .i64 (i : Int)] rfl rfl (cells_new _ _ _) ?c1 ?c2 ?c3 ?_))
                case c1 => simp [Value.oneCell']
                case c2 => omega
                case c3 => have := hz3.size; first | omega | (simp; omega)
                intro v4 w4 hown4 hg4 hbl4
                have hz4 : New w w4 := New.grown (hz3.alloc _) ((HR3.out.own 1 _ _ rfl rfl).alloc _) (Nat.le_refl _) hg4
                have hr4 := (HR3.out.new_ ((Mod.refl (fun _ => False) w3).alloc _)).right2 hg4 hown4 (by simpa using hbl4)
                have HR4 := Lib.hid hr4
                clear hown4 hg4 hbl4 hr4
                go_wp2
                go_roundw
                case rel => exact ⟨k + 1, W, T ++ [((z : Int), (i : Int))], by omega, by go_num, by have := HR4.out; rw [pairs_grow, List.length_append]; exact this, HW2.out, HT2.out, HH.out, hz4⟩
                case measure => simp [intOf]; omega
        · obtain rfl : k = vL.length := by omega
          have HH := Lib.hid (show noticesBad ls (ls.drop (i + 1)) (i + 1) = nb by
            have h1 : lb = none := by rw [← HB2.out, List.drop_length]; rfl
            rw [← HB.out, noticesBad_miss HP.out (HLB.out.trans h1)])
          have hW2 : W ++ pairs (linkWith ls) (ls.drop (i + 1)) (i + 1) = WW := by have := HW.out; rwa [List.drop_length, List.flatMap_nil, List.nil_append] at this
          have hT2 : T ++ pairs (linkTie ls) (ls.drop (i + 1)) (i + 1) = TT := by have := HT.out; rwa [List.drop_length, List.flatMap_nil, List.nil_append] at this
          have HW2 := Lib.hid hW2
          have HT2 := Lib.hid hT2
          clear hW2 hT2
          go_wp2
          go_roundw
          case rel => exact ⟨i + 1, W, T, by omega, by go_num, HR.out, HW2.out, HT2.out, HH.out, hw3⟩
          case measure => simp [intOf]; omega
    · obtain rfl : i = n := by omega
      have hnn : nb = none := by rw [← HB.out, List.drop_of_length_le (by have := HLEN.out; omega)]; rfl
      have hW2 : W = WW := by have := HW.out; rwa [pairs_end (by have := HLEN.out; omega), List.append_nil] at this
      have hT2 : T = TT := by have := HT.out; rwa [pairs_end (by have := HLEN.out; omega), List.append_nil] at this
      subst hnn hW2 hT2
      go_wp2
      go_ret3
      exact ⟨hw, _, _, rfl, HR.out⟩
end Go.Proofs.YtkkaejbdekdljaaDoor
