/- Words and walks, part 18 of 19. -/
import Derived.Deep.RegionHeld3
import Derived.Test.YtkkaejbdekdljaaDoorQ5
import Derived.Test.YtkkaejbdekdljaaDoorQ7
import Derived.Test.YtkkaejbdekdljaaDoorQ11
import Derived.Test.YtkkaejbdekdljaaDoorQ16
import Derived.Test.YtkkaejbdekdljaaDoorQ17
/- Walks: SameLists at two lists of lists that are one. -/
set_option linter.unusedVariables false
set_option linter.unusedSimpArgs false
namespace Go.Proofs.YtkkaejbdekdljaaDoor
open Go.RowKit

theorem two_cells {w0 w w' : World} {p q : Addr} {x y : Value} (h : (w.cell? p = some x ∧ w.cell? q = some y) ∧ New w0 w) (hm : New w w') : (w'.cell? p = some x ∧ w'.cell? q = some y) ∧ New w0 w' :=
  ⟨⟨hm.cell h.1.1 (fun h => h), hm.cell h.1.2 (fun h => h)⟩, New.trans h.2 hm⟩
set_option maxHeartbeats 1000000 in
theorem sameLists_any (A B : Option Addr) (n c d : Nat) (us vs : List Value) (ls : List (List Int)) (w : World) (ha : Nest encInts 1 w A n us ls) (hb : Nest encInts 1 w B n vs ls) :
    Calls Tryd.prog 29 #[.slice A n c, .slice B n d] w fun e w' => e = .returned (.bool true) ∧ New w w' := by
  have hn := ha.outer.le
  have hd : ((n : Int) != (n : Int)) = false := by simp
  go_enter Tryd.func29, Tryd.ntmps29
  go_wp2
  go_loopw [5] (fun i wr => ∃ k : Nat, k ≤ n ∧ i = .int .i64 k ∧ New w wr) (fun i _ => n - (intOf i).toNat)
  case atStart => exact ⟨0, Nat.zero_le _, rfl, Mod.refl _ _⟩
  case round =>
    obtain ⟨k, hk, rfl, hw⟩ := hrel
    by_cases hlt : k < n
    · obtain ⟨b1, o1, R1, c1, l, rfl, hl1, hc1, hs1, _⟩ := (ha.new_ hw).at_ hlt
      obtain ⟨b2, o2, R2, c2, l2, rfl, hl2, hc2, hs2, _⟩ := (hb.new_ hw).at_ hlt
      rw [hl1] at hl2
      injection hl2 with hl2
      subst hl2
      have KL : ∀ W, (W.cell? ⟨b1, o1 + k, none⟩ = some (.slice R1 l.length c1) ∧ W.cell? ⟨b2, o2 + k, none⟩ = some (.slice R2 l.length c2)) ∧ New wr W →
          Calls Tryd.prog 12 #[.slice R1 l.length c1, .slice R2 l.length c2] W fun e W' => e = .returned (.bool true) ∧ New W W' := fun W hW => by
        have h1 := hs1.new_ hW.2
        have h2 := hs2.new_ hW.2
        rw [← nums_eq] at h1 h2
        exact (sameInts_any R1 R2 _ _ c1 c2 l l W h1 h2).mono fun e w' h => ⟨by rw [h.1]; simp, h.2⟩
      have HKL := Lib.hid KL
      clear KL hl1 hs1 hs2
      go_wp2
      go_region_held3 (fun w' => (w'.cell? ⟨b1, o1 + k, none⟩ = some (.slice R1 l.length c1) ∧ w'.cell? ⟨b2, o2 + k, none⟩ = some (.slice R2 l.length c2)) ∧ New wr w') ((first | exact ⟨⟨‹_›, ‹_›⟩, (Mod.refl _ _).drew⟩ | (refine two_cells ?_ hw11; assumption))) ((go_at_call 12; refine (HKL.out _ (by assumption)).mono ?_; rintro e w11 ⟨rfl, hw11⟩))
      all_goals
        go_wp2
        go_roundw
        case rel => exact ⟨k + 1, by omega, by go_num, New.trans hw (by obtain ⟨_, hn⟩ := ‹_ ∧ New wr _›; exact hn)⟩
        case measure => simp [intOf]; omega
    · go_wp2
      go_ret
      exact ⟨rfl, hw⟩
end Go.Proofs.YtkkaejbdekdljaaDoor
/- Walks: the law LinksResolve. -/
set_option linter.unusedVariables false
set_option linter.unusedSimpArgs false
namespace Go.Proofs.YtkkaejbdekdljaaDoor
open Go.RowKit

/-- Notices that were lent: all but the links is as it was; the links lie each in a block of the call's own. -/
def LentN (w : World) (B : Nat) (es ls : List NoticeV) : Prop :=
  ∀ (i : Nat) (e v : NoticeV), es[i]? = some e → ls[i]? = some v → ∃ g cap, e = ⟨v.b, some ⟨g, 0, none⟩, cap, v.links⟩ ∧ Lent w B 96 2 g v.links.length cap (cellsL encLinks (v.links ++ marksLinks 16))
theorem LentN.new_ {w w' : World} {B : Nat} {es ls : List NoticeV} (h : LentN w B es ls) (hm : New w w') : LentN w' B es ls := fun i e v he hv => by
  obtain ⟨g, cap, h1, hL⟩ := h i e v he hv
  exact ⟨g, cap, h1, hL.new_ hm⟩
theorem LentN.grown {w w' : World} {B C m : Nat} {es ls : List NoticeV} {o : Value} {xs : List Value} (h : LentN w B es ls) (ho : w.ownsRow C 57 27 o m xs) (hg : w.grownBy w' o.ownBlock) : LentN w' B es ls := fun i e v he hv => by
  obtain ⟨g, cap, h1, hL⟩ := h i e v he hv
  exact ⟨g, cap, h1, World.ownsRow.kept hL hg (own_type_ne hL ho (by decide))⟩
theorem LentN.snoc {w : World} {B : Nat} {es ls : List NoticeV} {v : NoticeV} {g cap : Nat} (h : LentN w B es ls) (hv : ls[es.length]? = some v) (hL : Lent w B 96 2 g v.links.length cap (cellsL encLinks (v.links ++ marksLinks 16))) : LentN w B (es ++ [⟨v.b, some ⟨g, 0, none⟩, cap, v.links⟩]) ls := fun i e u he hu => by
  by_cases hi : i < es.length
  · rw [List.getElem?_append_left hi] at he
    exact h i e u he hu
  · have hi2 : i = es.length := by have := (List.getElem?_eq_some_iff.1 he).1; simp at this; omega
    subst hi2
    rw [List.getElem?_append_right (Nat.le_refl _), Nat.sub_self] at he
    simp at he
    rw [hv] at hu
    injection hu with hu
    subst hu
    exact ⟨g, cap, he.symm, hL⟩
/-- The lent notices read as notices. -/
theorem LentN.notices {w : World} {B n : Nat} {A : Option Addr} {es ls : List NoticeV} (h : LentN w B es ls) (ho : Sl w A n 27 (cellsL encNotice es)) (hl : es.length = ls.length) : Notices w A n es :=
  ⟨ho, fun i e he => by
    have hi := (List.getElem?_eq_some_iff.1 he).1
    obtain ⟨g, cap, rfl, hL⟩ := h i e (ls[i]'(by omega)) he (List.getElem?_eq_getElem _)
    rw [cellsL_append] at hL
    exact hL.sl (cellsL_length encLinks_len _)⟩
theorem LentN.same {w : World} {B : Nat} {es ls : List NoticeV} (h : LentN w B es ls) (hl : es.length = ls.length) : SameN es ls := by
  refine List.ext_getElem (by simp [hl]) fun i h1 h2 => ?_
  simp only [List.length_map] at h1 h2
  obtain ⟨g, cap, e, _⟩ := h i _ _ (List.getElem?_eq_getElem h1) (List.getElem?_eq_getElem h2)
  simp only [List.getElem_map, e]

theorem two_step' {w0 w w' : World} {p q : Addr} {x y : Value} (h : (w.cell? p = some x ∧ w.cell? q = some y) ∧ New w0 w) (hm : New w w') : (w'.cell? p = some x ∧ w'.cell? q = some y) ∧ New w0 w' :=
  ⟨⟨hm.cell h.1.1 (fun h => h), hm.cell h.1.2 (fun h => h)⟩, New.trans h.2 hm⟩
theorem LentN.at_ {w : World} {B : Nat} {es ls : List NoticeV} (h : LentN w B es ls) (hl : es.length = ls.length) {i : Nat} {e : NoticeV} (he : es[i]? = some e) : ∃ v, ls[i]? = some v ∧ e.b = v.b ∧ e.links = v.links := by
  have hi := (List.getElem?_eq_some_iff.1 he).1
  obtain ⟨g, cap, e1, _⟩ := h i e (ls[i]'(by omega)) he (List.getElem?_eq_getElem _)
  exact ⟨_, List.getElem?_eq_getElem (by omega), by rw [e1], by rw [e1]⟩
theorem RowsOf.read {w : World} {B : Nat} {vs : List Value} {L : List (List Nat)} (h : RowsOf w B 3 1 vs (rowsN L)) : ReadRows w B vs L :=
  ⟨by have := h.len; simpa [rowsN] using this, fun i v l hv hl => h.own i v (l.length, nats l) hv (by simp [rowsN, hl])⟩
theorem RowsOf.base {w : World} {B B' sz : Nat} {e : TypeId} {vs : List Value} {ls : List (Nat × List Value)} (h : RowsOf w B e sz vs ls) (hb : B' ≤ B) : RowsOf w B' e sz vs ls :=
  ⟨h.len, fun i v x hv hx => own_mono (h.own i v x hv hx) hb, h.ne⟩
theorem RowsOf.lt_ {w : World} {B sz : Nat} {e : TypeId} {vs : List Value} {ls : List (Nat × List Value)} (h : RowsOf w B e sz vs ls) {i : Nat} {v : Value} {blk : Nat} (hv : vs[i]? = some v) (hb : v.ownBlock = some blk) : B ≤ blk ∧ blk < w.heap.size := by
  have hi : i < ls.length := by rw [← h.len]; exact (List.getElem?_eq_some_iff.1 hv).1
  exact (h.own i v _ hv (List.getElem?_eq_getElem hi)).lt blk hb
theorem resLists_length (ls : List NoticeV) (r : List Nat) : (resLists ls r).length ≤ ls.length := by
  unfold resLists
  split
  · unfold outN resOut
    rw [List.length_map]
    have h1 := List.length_filter_le (isHead (at_ r)) (resOrd (at_ r) (tiesOf ls) (prioN ls) ls.length)
    have h2 := stand_length (ordered_stand (headEdges (at_ r) (tiesOf ls)) (prioH (at_ r) ls.length (prioN ls)) ls.length)
    unfold resOrd at h1 ⊢
    omega
  · simp
theorem resLists_each (ls : List NoticeV) (r : List Nat) : ∀ x, x ∈ rowsN (resLists ls r) → x.1 ≤ ls.length := fun x hx => by
  obtain ⟨l, hl, rfl⟩ := List.mem_map.1 hx
  unfold resLists at hl
  split at hl
  · unfold outN resOut at hl
    obtain ⟨y, _, rfl⟩ := List.mem_map.1 hl
    exact mem_length_le _ _ _
  · simp at hl
/-- links.Resolve of lent notices, in the words of the notices themselves. -/
theorem res_lent {es ls : List NoticeV} {r : List Nat} {w : World} {e : Ending} {w' : World} (h : ResPost es w e w') (hs : SameN es ls) (hr : (wrongOf ls).1 = 0 → HeadsOf ls r) :
    ∃ A c ev vs, e = .returned (.tuple #[.slice A (resLists ls r).length c, ev]) ∧ ErrIs ev (resErr ls r).1 ((resErr ls r).2.1 : Int) ((resErr ls r).2.2 : Int) ∧
      w'.ownsRow w.heap.size 24 1 (.slice A (resLists ls r).length c) (resLists ls r).length vs ∧ RowsOf w' w.heap.size 3 1 vs (rowsN (resLists ls r)) ∧ New w w' := by
  obtain ⟨hn, r', v, ev, vs, hr', he, hev, hv, hvs⟩ := h
  obtain ⟨e1, e2, e3⟩ := hs.res r'
  obtain ⟨u1, u2⟩ := res_unique (ls := ls) (r := r') (r' := r) (fun h0 => e3 (hr' (by rw [hs.wrong]; exact h0))) hr
  rw [e1, u1] at hev
  rw [e2, u2] at hv hvs
  obtain ⟨A, c, rfl⟩ := own_shape hv
  exact ⟨A, c, ev, vs, he, hev, hv, hvs, hn⟩

set_option maxRecDepth 100000 in
set_option maxHeartbeats 4000000 in
theorem linksResolveLaw_any (A : Option Addr) (n c : Nat) (ls : List NoticeV) (w : World) (ha : Notices w A n ls) (hok : ∀ (i : Nat) (v : NoticeV), ls[i]? = some v → NoticeOk v ∧ v.links.length ≤ 140737488355328) (hg : ErrVar w) :
    Calls Tryd.prog 6 #[.slice A n c] w fun e w' => e = .returned (.bool true) ∧ New w w' := by
  have hn := ha.sl.le
  have HOK := Lib.hid hok
  have HLL := Lib.hid ha.len
  clear hok
  go_enter Tryd.func6, Tryd.ntmps6
  go_wp2
  go_loopw [3, 4] (fun all i wr => ∃ (k : Nat) (q : Nat), k ≤ n ∧ i = .int .i64 (k : Int) ∧ all = .int .i64 (q : Int) ∧ q = totN (ls.take k) ∧ New w wr) (fun _ i _ => n - (intOf i).toNat)
  case atStart => exact ⟨0, 0, Nat.zero_le _, rfl, rfl, rfl, Mod.refl _ _⟩
  case round =>
    obtain ⟨k, q, hk, rfl, rfl, hq, hw⟩ := hrel
    have HK := Lib.hid hq
    clear hq
    by_cases hbig : 3000 < q
    · by_cases hlt : k < n
      all_goals
        go_wp2_with (go_at_call 7; refine (works_any _).mono ?_; rintro e w1 ⟨rfl, hw1⟩)
        go_ret
        exact ⟨rfl, New.trans hw hw1⟩
    by_cases hlt : k < n
    · obtain ⟨b, off, v, rfl, hv, hc⟩ := (ha.sl.new_ hw).elem encNotice_len (by decide) hlt
      have c26 := hc 26 _ rfl
      have hlb := (HOK.out k v hv).2
      have HT := Lib.hid (totN_next hv)
      clear hc hv
      go_wp2
      go_roundw
      case rel => exact ⟨k + 1, q + 1 + v.links.length, by omega, by go_num, by push_cast; rfl, by rw [HT.out, HK.out], hw⟩
      case measure => simp [intOf]; omega
    · obtain rfl : n = k := by omega
      have htot : totN ls ≤ 3000 := by have := HK.out; rw [List.take_of_length_le (by have := HLL.out; omega)] at this; omega
      have hn3 : n ≤ 3000 := by have := totN_length ls; have := HLL.out; omega
      have HTOT := Lib.hid htot
      have HAW := Lib.hid (ha.new_ hw)
      have hgw := hg.new_ hw
      have HGW := Lib.hid hgw
      have HW := Lib.hid hw
      obtain ⟨wo, rfl⟩ : ∃ wo : World, wo = wr := ⟨_, rfl⟩
      have HRR := Lib.hid (refResolve_any A n c ls wo (ha.new_ hw) htot)
      clear htot hgw ha hg HK
      go_wp2_with (go_at_call 26; refine HRR.out.mono ?_; rintro e w1 ⟨hw1, r, WA, wc, wus, hr, rfl, hwn⟩)
      have HA1 := Lib.hid (HAW.out.new_ hw1)
      have HR := Lib.hid hr
      have HWN := Lib.hid hwn
      have HW1 := Lib.hid hw1
      clear hr hwn HRR HAW hw1 hw
      obtain ⟨RE, hRE⟩ : ∃ RE, resErr ls r = RE := ⟨_, rfl⟩
      obtain ⟨RL, hRL⟩ : ∃ RL, resLists ls r = RL := ⟨_, rfl⟩
      rw [hRL] at HWN
      rw [hRE, hRL]
      have HRE := Lib.hid hRE
      have HRL := Lib.hid hRL
      clear hRE hRL
      obtain ⟨no, line, at'⟩ := RE
      go_loopw [9, 10] (fun v i wr => ∃ (k : Nat) (es : List NoticeV), k ≤ n ∧ i = .int .i64 (k : Int) ∧ es.length = k ∧ wr.ownsRow w1.heap.size 57 27 v k (cellsL encNotice es) ∧ LentN wr w1.heap.size es ls ∧ New w1 wr) (fun _ i _ => n - (intOf i).toNat)
      case atStart => exact ⟨0, [], Nat.zero_le _, rfl, rfl, own_nil _ _ _ _, fun i e v h => by simp at h, Mod.refl _ _⟩
      case round =>
        obtain ⟨k, es, hk, rfl, hel, hown, hlent, hw⟩ := hrel
        have HEL := Lib.hid hel
        have HLT := Lib.hid hlent
        clear hel hlent
        by_cases hlt : k < n
        · obtain ⟨b, off, v, rfl, hv, hc⟩ := (HA1.out.sl.new_ hw).elem encNotice_len (by decide) hlt
          have HC := Lib.hid hc
          have HV := Lib.hid hv
          have HSL := Lib.hid ((HA1.out.ok k v hv).new_ hw)
          have hlb : v.links.length ≤ 3000 := Nat.le_trans (totN_one hv) HTOT.out
          clear hc hv
          go_wp2_with (first
            | (refine wpList_load_cells rfl 57 _ rfl b (off + k * 27) rfl (encNotice v) HC.out _ Tryd.underlying57 rfl Tryd.sizeNotice ?_)
            | (refine wpList_store_new rfl _ _ rfl rfl (encNotice v) rfl rfl Tryd.sizeNotice rfl (enc_one v) ?_; intro w2 hb2 hn2 hs2; have HB2 := Lib.hid hb2; have HN2 := Lib.hid hn2; have HS2 := Lib.hid hs2; have c26 : w2.cell? ⟨b, off + k * 27 + 26, none⟩ = some (.slice v.R v.links.length v.cap) := hn2.cell (HC.out 26 _ rfl) (fun h => h); clear hb2 hn2 hs2)
            | (go_at_call 27; refine (lentLinks_any v.R v.links.length v.cap v.links _ (Sl.new_ HSL.out HN2.out) (by omega)).mono ?_; rintro e w3 ⟨g, cap, rfl, hL, hw3⟩; have HL := Lib.hid hL; have HN3 := Lib.hid (New.trans HN2.out hw3); have HB3 := Lib.hid (HB2.out.new_ hw3); have e26 : w3.cell? ⟨wr.heap.size, 26, none⟩ = some (.slice v.R v.links.length v.cap) := HB3.out.cell 26; have f26 := HB3.out.frozen 26; have HS3 := Lib.hid (show wr.heap.size + 1 ≤ w3.heap.size by have := hw3.size; have := HS2.out; omega); have HG := Lib.hid (show w2.heap.size ≤ g from ((hL.lt g rfl).1)); have HB4 := Lib.hid (show Blk (w3.setCell ⟨wr.heap.size, 26, none⟩ (.slice (some ⟨g, 0, none⟩) v.links.length cap)) wr.heap.size 57 (encNotice ⟨v.b, some ⟨g, 0, none⟩, cap, v.links⟩) from HB3.out.set_ 26 _); have HN4 := Lib.hid (show New wr (w3.setCell ⟨wr.heap.size, 26, none⟩ (.slice (some ⟨g, 0, none⟩) v.links.length cap)) from HN3.out.set_ (fun h => by simp only at h; omega) _); clear hL hw3)
            | (refine wpList_load_cells rfl 57 _ rfl wr.heap.size 0 rfl (encNotice ⟨v.b, some ⟨g, 0, none⟩, cap, v.links⟩) (fun j u hj => by rw [Nat.zero_add, HB4.out.cell]; exact hj) _ Tryd.underlying57 rfl Tryd.sizeNotice ?_)
            | (refine wpList_buildOne Tryd.sltNotice rfl _ rfl (by decide) (encNotice ⟨v.b, some ⟨g, 0, none⟩, cap, v.links⟩) rfl rfl ?_)
            | (at_builtin; refine wpList_app Tryd.sltNotice rfl (.tmp 65) (.tmp 67) rfl w1.heap.size _ k _ rfl ((own_new hown HN4.out).alloc _) _ 1 1 (encNotice ⟨v.b, some ⟨g, 0, none⟩, cap, v.links⟩) rfl rfl (cells_new _ _ _) ?c1 ?c2 ?c3 ?_))
          case c1 => exact enc_one _
          case c2 => omega
          case c3 => have := hw.size; have := HS3.out; simp [World.setCell]; omega
          intro v8 w8 hown8 hg8 hbl8
          have hz8 : New w1 w8 := New.grown ((New.trans hw HN4.out).alloc _) ((own_new hown HN4.out).alloc _) (Nat.le_refl _) hg8
          have hlt8 : LentN w8 w1.heap.size (es ++ [⟨v.b, some ⟨g, 0, none⟩, cap, v.links⟩]) ls := by
            have h1 : LentN ((w3.setCell ⟨wr.heap.size, 26, none⟩ (.slice (some ⟨g, 0, none⟩) v.links.length cap)).alloc (.cells (encNotice ⟨v.b, some ⟨g, 0, none⟩, cap, v.links⟩).toArray 57)) w1.heap.size es ls := (HLT.out.new_ HN4.out).new_ ((Mod.refl _ _).alloc _)
            have h2 : Lent (w3.setCell ⟨wr.heap.size, 26, none⟩ (.slice (some ⟨g, 0, none⟩) v.links.length cap)) w1.heap.size 96 2 g v.links.length cap (cellsL encLinks (v.links ++ marksLinks 16)) :=
              own_mono (own_mod HL.out (mod_set w3 wr.heap.size 26 _) (fun blk hb h => by
                have h3 : blk = g := by have : some g = some blk := hb; injection this with this; exact this.symm
                have := HG.out; have := HS2.out; omega)) (by have := HS2.out; have := hw.size; omega)
            exact (h1.snoc (by rw [HEL.out]; exact HV.out) (h2.alloc _)).grown ((own_new hown HN4.out).alloc _) hg8
          have HLT8 := Lib.hid hlt8
          clear hg8 hbl8 hlt8
          go_wp2
          go_roundw
          case rel => exact ⟨k + 1, es ++ [⟨v.b, some ⟨g, 0, none⟩, cap, v.links⟩], by omega, by go_num, by simp; exact HEL.out, by rw [cellsL_append, cellsL_one]; exact hown8, HLT8.out, hz8⟩
          case measure => simp [intOf]; omega
        · obtain rfl : n = k := by omega
          obtain ⟨IA, ic, rfl⟩ := own_shape hown
          obtain ⟨w2, rfl⟩ : ∃ w2 : World, w2 = wr := ⟨_, rfl⟩
          have hg' := (HGW.out.new_ HW1.out).new_ hw
          have hell : es.length = ls.length := by rw [HEL.out, HLL.out]
          have hni : Notices w2 IA n es := HLT.out.notices (own_sl hown) hell
          have hsame := HLT.out.same hell
          have hLe : ∀ (i : Nat) (v : NoticeV), es[i]? = some v → v.links.length ≤ 9223372036854775807 := fun i e he => by
            obtain ⟨v, hv, h1, h2⟩ := HLT.out.at_ hell he
            rw [h2]; have := (HOK.out i v hv).2; omega
          have hKe : ∀ (i : Nat) (v : NoticeV), es[i]? = some v → NoticeOk v := fun i e he => by
            obtain ⟨v, hv, h1, h2⟩ := HLT.out.at_ hell he
            have := (HOK.out i v hv).1
            unfold NoticeOk at this ⊢
            rw [h1, h2]; exact this
          have HCALL := Lib.hid (fun W hW => (linksResolve_any IA n ic es W hW hLe hKe (by rw [totN_same hsame]; exact HTOT.out)).mono (fun e w' h => res_lent h hsame HR.out))
          rw [HRE.out, HRL.out] at HCALL
          have HNI := Lib.hid hni
          have HOWN := Lib.hid hown
          have hrlen : RL.length ≤ 3000 := by have := resLists_length ls r; rw [HRL.out] at this; have := HLL.out; omega
          have HEACH := Lib.hid (show ∀ x, x ∈ rowsN RL → x.1 ≤ 4294967296 from fun x hx => by
            have h1 := resLists_each ls r
            rw [HRL.out] at h1
            have := h1 x hx; have := HLL.out; omega)
          have n2 := New.trans HW.out (New.trans HW1.out hw)
          have HN2 := Lib.hid n2
          clear hni hsame hLe hKe hown n2
          go_wp2_with fail
          refine (HCALL.out _ HNI.out).mono ?_
          rintro e w3 ⟨AA, ac, ea, vsa, rfl, hea, hva, hra, hw3⟩
          have HVA := Lib.hid hva
          have HRA := Lib.hid hra
          clear hva hra
          go_wp2_with fail
          refine (HCALL.out _ (HNI.out.new_ hw3)).mono ?_
          rintro e w4 ⟨BA, bc, eb, vsb, rfl, heb, hvb, hrb, hw4⟩
          have HVB := Lib.hid hvb
          have HRB := Lib.hid hrb
          have n4 := New.trans hw3 hw4
          have hg4 := hg'.new_ n4
          have HWN4 := Lib.hid (HWN.out.new_ (New.trans hw n4))
          have HNA := Lib.hid ((HRA.out.new_ hw4).read.nest (own_sl (own_new HVA.out hw4)))
          have HNB := Lib.hid (HRB.out.read.nest (own_sl HVB.out))
          clear hvb hrb
          go_wp2_with fail
          refine (told_any hea _ hg4).mono ?_
          rintro e w5 ⟨rfl, hw5⟩
          go_wp2_with fail
          refine (told_any heb _ (hg4.new_ hw5)).mono ?_
          rintro e w6 ⟨rfl, hw6⟩
          have n46 := New.trans hw5 hw6
          go_wp2_with fail
          refine (sameLists_any AA WA RL.length ac wc vsa wus _ _ (HNA.out.new_ n46) (HWN4.out.new_ n46)).mono ?_
          rintro e w7 ⟨rfl, hw7⟩
          have n47 := New.trans n46 hw7
          go_wp2_with fail
          refine (sameLists_any BA WA RL.length bc wc vsb wus _ _ (HNB.out.new_ n47) (HWN4.out.new_ n47)).mono ?_
          rintro e w8 ⟨rfl, hw8⟩
          have n48 := New.trans n47 hw8
          go_wp2_with fail
          refine (works_any _).mono ?_
          rintro e w9 ⟨rfl, hw9⟩
          have n49 := New.trans n48 hw9
          have n29 := New.trans n4 n49
          have HN29 := Lib.hid n29
          have HN49 := Lib.hid n49
          have HN4 := Lib.hid n4
          have hs3 := hw3.size
          have hs4 := hw4.size
          have HW4 := Lib.hid hw4
          clear hea heb hg4 hw3 hw4 hw5 hw6 hw7 hw8 hw9 n4 n46 n47 n48 n49 n29 HNA HNB HWN4 HCALL
          obtain ⟨wk, rfl⟩ : ∃ wk : World, wk = w9 := ⟨_, rfl⟩
          go_wp2
          go_loopw [16] (fun j wr => ∃ k' : Nat, k' ≤ n ∧ j = .int .i64 (k' : Int) ∧ New wk wr) (fun j _ => n - (intOf j).toNat)
          case atStart => exact ⟨0, Nat.zero_le _, rfl, Mod.refl _ _⟩
          case round =>
            obtain ⟨j, hj, rfl, hwj⟩ := hrel
            by_cases hlt : j < n
            · have hz := New.trans HN29.out hwj
              obtain ⟨b, off, v, rfl, hv, hc⟩ := ((HA1.out.new_ hw).new_ hz).sl.elem encNotice_len (by decide) hlt
              obtain ⟨b2, off2, e0, rfl, he, hc2⟩ := (HNI.out.new_ hz).sl.elem encNotice_len (by decide) hlt
              obtain ⟨g, cap, he0, hL⟩ := (HLT.out.new_ hz) j e0 v he hv
              subst he0
              have hlv : v.links.length ≤ 3000 := Nat.le_trans (totN_one hv) HTOT.out
              have hsl : Sl wr v.R v.links.length 2 (cellsL encLinks v.links) := ((HA1.out.ok j v hv).new_ hw).new_ hz
              have hsl2 : Sl wr (some ⟨g, 0, none⟩) v.links.length 2 (cellsL encLinks v.links) := by
                have h0 := hL
                rw [cellsL_append] at h0
                exact h0.sl (cellsL_length encLinks_len _)
              obtain ⟨hc1, hcc2⟩ := hL.cap
              have HC := Lib.hid hc
              have HC2 := Lib.hid hc2
              have KL : ∀ W, (W.cell? ⟨b, off + j * 27 + 26, none⟩ = some (.slice v.R v.links.length v.cap) ∧ W.cell? ⟨b2, off2 + j * 27 + 26, none⟩ = some (.slice (some ⟨g, 0, none⟩) v.links.length cap)) ∧ New wr W →
                  Calls Tryd.prog 30 #[.slice (some ⟨g, 0, none⟩) v.links.length cap, .slice v.R v.links.length v.cap] W fun e W' => e = .returned (.bool true) ∧ New W W' := fun W hW =>
                keptLinks_any g v.R v.links.length cap v.cap _ v.links W (hL.new_ hW.2) (hsl.new_ hW.2) (by omega)
              have KS : ∀ W, (W.cell? ⟨b, off + j * 27 + 26, none⟩ = some (.slice v.R v.links.length v.cap) ∧ W.cell? ⟨b2, off2 + j * 27 + 26, none⟩ = some (.slice (some ⟨g, 0, none⟩) v.links.length cap)) ∧ New wr W →
                  Calls Tryd.prog 31 #[.agg (encNotice ⟨v.b, some ⟨g, 0, none⟩, cap, v.links⟩).toArray, .agg (encNotice v).toArray] W fun e W' => e = .returned (.bool true) ∧ New W W' := fun W hW =>
                sameNotice_any v.b (some ⟨g, 0, none⟩) v.R cap v.cap v.links W (Sl.new_ hsl2 hW.2) (Sl.new_ hsl hW.2)
              have HKL := Lib.hid KL
              have HKS := Lib.hid KS
              have d1 : wr.cell? ⟨b, off + j * 27 + 26, none⟩ = some (.slice v.R v.links.length v.cap) := hc 26 _ rfl
              have d2 : wr.cell? ⟨b2, off2 + j * 27 + 26, none⟩ = some (.slice (some ⟨g, 0, none⟩) v.links.length cap) := hc2 26 _ rfl
              clear KL KS hL hsl hsl2 hc hc2 hv he hz
              go_wp2
              refine wp_region_held_drew (S := (fun w' => (w'.cell? ⟨b, off + j * 27 + 26, none⟩ = some (.slice v.R v.links.length v.cap) ∧ w'.cell? ⟨b2, off2 + j * 27 + 26, none⟩ = some (.slice (some ⟨g, 0, none⟩) v.links.length cap)) ∧ New wr w')) (by kernel_rfl) ⟨⟨d1, d2⟩, (Mod.refl _ _).drew⟩ (fun hHeld => ?_)
              refine wpAnyH_take (i := 0) (v := ?_) rfl (by kernel_rfl) (by kernel_rfl) (by kernel_rfl) (fun _ _ _ h => h) (Or.inl ⟨by rfl, ?_⟩) (by assumption) ?_
              rotate_left
              · intro w0 hSw; (try dsimp only at hSw); (try simp only [List.getElem_toArray, List.getElem_cons_zero, List.getElem_cons_succ]); go_simp; (try with_reducible rfl)
              (try simp only [List.getElem_toArray, List.getElem_cons_zero, List.getElem_cons_succ, Act.put, List.setIfInBounds_toArray, List.set_cons_zero, List.set_cons_succ])
              refine wpAnyH_take (i := 1) (v := ?_) rfl (by kernel_rfl) (by kernel_rfl) (by kernel_rfl) (fun _ _ _ h => h) (Or.inl ⟨by rfl, ?_⟩) (by assumption) ?_
              rotate_left
              · intro w0 hSw; (try dsimp only at hSw); (try simp only [List.getElem_toArray, List.getElem_cons_zero, List.getElem_cons_succ]); go_simp; (try with_reducible rfl)
              (try simp only [List.getElem_toArray, List.getElem_cons_zero, List.getElem_cons_succ, Act.put, List.setIfInBounds_toArray, List.set_cons_zero, List.set_cons_succ])
              refine wpAnyH_take (i := 2) (v := ?_) rfl (by kernel_rfl) (by kernel_rfl) (by kernel_rfl) (fun _ _ _ h => h) (Or.inl ⟨by rfl, ?_⟩) (by assumption) ?_
              rotate_left
              · intro w0 hSw; (try dsimp only at hSw); (try simp only [List.getElem_toArray, List.getElem_cons_zero, List.getElem_cons_succ]); go_simp; (try with_reducible rfl)
              (try simp only [List.getElem_toArray, List.getElem_cons_zero, List.getElem_cons_succ, Act.put, List.setIfInBounds_toArray, List.set_cons_zero, List.set_cons_succ])
              refine wpAnyH_take (i := 3) (v := ?_) rfl (by kernel_rfl) (by kernel_rfl) (by kernel_rfl) (fun _ _ _ h => h) (Or.inl ⟨by rfl, ?_⟩) (by assumption) ?_
              rotate_left
              · intro w0 hSw; (try dsimp only at hSw); (try simp only [List.getElem_toArray, List.getElem_cons_zero, List.getElem_cons_succ]); go_simp; (try with_reducible rfl)
              (try simp only [List.getElem_toArray, List.getElem_cons_zero, List.getElem_cons_succ, Act.put, List.setIfInBounds_toArray, List.set_cons_zero, List.set_cons_succ])
              refine wpAnyH_take (i := 4) (v := ?_) rfl (by kernel_rfl) (by kernel_rfl) (by kernel_rfl) (fun _ _ _ h => h) (Or.inl ⟨by rfl, ?_⟩) (by assumption) ?_
              rotate_left
              · intro w0 hSw; (try dsimp only at hSw); (try simp only [List.getElem_toArray, List.getElem_cons_zero, List.getElem_cons_succ]); go_simp; (try with_reducible rfl)
              (try simp only [List.getElem_toArray, List.getElem_cons_zero, List.getElem_cons_succ, Act.put, List.setIfInBounds_toArray, List.set_cons_zero, List.set_cons_succ])
              refine wpAnyH_take (i := 5) (v := ?_) rfl (by kernel_rfl) (by kernel_rfl) (by kernel_rfl) (fun _ _ _ h => h) (Or.inl ⟨by rfl, ?_⟩) (by assumption) ?_
              rotate_left
              · intro w0 hSw; (try dsimp only at hSw); (try simp only [List.getElem_toArray, List.getElem_cons_zero, List.getElem_cons_succ]); go_simp; (try with_reducible rfl)
              (try simp only [List.getElem_toArray, List.getElem_cons_zero, List.getElem_cons_succ, Act.put, List.setIfInBounds_toArray, List.set_cons_zero, List.set_cons_succ])
              refine wpAnyH_take (i := 6) (v := ?_) rfl (by kernel_rfl) (by kernel_rfl) (by kernel_rfl) (fun _ _ _ h => h) (Or.inl ⟨by rfl, ?_⟩) (by assumption) ?_
              rotate_left
              · intro w0 hSw; (try dsimp only at hSw); (try simp only [List.getElem_toArray, List.getElem_cons_zero, List.getElem_cons_succ]); go_simp; (try with_reducible rfl)
              (try simp only [List.getElem_toArray, List.getElem_cons_zero, List.getElem_cons_succ, Act.put, List.setIfInBounds_toArray, List.set_cons_zero, List.set_cons_succ])
              refine wpAnyH_take (i := 7) (v := ?_) rfl (by kernel_rfl) (by kernel_rfl) (by kernel_rfl) (fun _ _ _ h => h) (Or.inl ⟨by rfl, ?_⟩) (by assumption) ?_
              rotate_left
              · intro w0 hSw; (try dsimp only at hSw); (try simp only [List.getElem_toArray, List.getElem_cons_zero, List.getElem_cons_succ]); go_simp; (try with_reducible rfl)
              (try simp only [List.getElem_toArray, List.getElem_cons_zero, List.getElem_cons_succ, Act.put, List.setIfInBounds_toArray, List.set_cons_zero, List.set_cons_succ])
              refine wpAnyH_take (i := 8) (v := ?_) rfl (by kernel_rfl) (by kernel_rfl) (by kernel_rfl) (fun _ _ _ h => h) (Or.inl ⟨by rfl, ?_⟩) (by assumption) ?_
              rotate_left
              · intro w0 hSw; (try dsimp only at hSw); (try simp only [List.getElem_toArray, List.getElem_cons_zero, List.getElem_cons_succ]); go_simp; (try with_reducible rfl)
              (try simp only [List.getElem_toArray, List.getElem_cons_zero, List.getElem_cons_succ, Act.put, List.setIfInBounds_toArray, List.set_cons_zero, List.set_cons_succ])
              refine wpAnyH_take (i := 9) (v := ?_) rfl (by kernel_rfl) (by kernel_rfl) (by kernel_rfl) (fun _ _ _ h => h) (Or.inl ⟨by rfl, ?_⟩) (by assumption) ?_
              rotate_left
              · intro w0 hSw; (try dsimp only at hSw); (try simp only [List.getElem_toArray, List.getElem_cons_zero, List.getElem_cons_succ]); go_simp; (try with_reducible rfl)
              (try simp only [List.getElem_toArray, List.getElem_cons_zero, List.getElem_cons_succ, Act.put, List.setIfInBounds_toArray, List.set_cons_zero, List.set_cons_succ])
              refine wpAnyH_ready (rs := [10]) (by kernel_rfl) (by simp) ?_
              refine AllReadyH.cons rfl (fun K hK => ?_) AllReadyH.nil
              (try simp only [List.getElem_toArray, List.getElem_cons_zero, List.getElem_cons_succ])
              go_simp
              go_at_call 30; refine (HKL.out _ (by assumption)).mono ?_; rintro e w11 ⟨rfl, hw11⟩
              go_wp2_with fail
              refine hK.out _ _ (two_step' (by assumption) hw11) (fun hHeld2 => ?_)
              clear hK K
              (try simp only [List.getElem_toArray, List.getElem_cons_zero, List.getElem_cons_succ, Act.put, List.setIfInBounds_toArray, List.set_cons_zero, List.set_cons_succ])
              refine wpAnyH_take (i := 11) (v := ?_) rfl (by kernel_rfl) (by kernel_rfl) (by kernel_rfl) (fun _ _ _ h => h) (Or.inl ⟨by rfl, ?_⟩) (by assumption) ?_
              rotate_left
              · intro w0 hSw; (try dsimp only at hSw); (try simp only [List.getElem_toArray, List.getElem_cons_zero, List.getElem_cons_succ]); go_simp; (try with_reducible rfl)
              (try simp only [List.getElem_toArray, List.getElem_cons_zero, List.getElem_cons_succ, Act.put, List.setIfInBounds_toArray, List.set_cons_zero, List.set_cons_succ])
              refine wpAnyH_take (i := 12) (v := ?_) rfl (by kernel_rfl) (by kernel_rfl) (by kernel_rfl) (fun _ _ _ h => h) (Or.inl ⟨by rfl, ?_⟩) (by assumption) ?_
              rotate_left
              · intro w0 hSw; (try dsimp only at hSw); (try simp only [List.getElem_toArray, List.getElem_cons_zero, List.getElem_cons_succ]); go_simp; (try with_reducible rfl)
              (try simp only [List.getElem_toArray, List.getElem_cons_zero, List.getElem_cons_succ, Act.put, List.setIfInBounds_toArray, List.set_cons_zero, List.set_cons_succ])
              refine wpAnyH_take (i := 13) (v := ?_) rfl (by kernel_rfl) (by kernel_rfl) (by kernel_rfl) (fun _ _ _ h => h) (Or.inl ⟨by rfl, ?_⟩) (by assumption) ?_
              rotate_left
              · intro w0 hSw; (try dsimp only at hSw); (try simp only [List.getElem_toArray, List.getElem_cons_zero, List.getElem_cons_succ]); go_simp; (try with_reducible rfl)
              (try simp only [List.getElem_toArray, List.getElem_cons_zero, List.getElem_cons_succ, Act.put, List.setIfInBounds_toArray, List.set_cons_zero, List.set_cons_succ])
              refine wpAnyH_take (i := 14) (v := ?_) rfl (by kernel_rfl) (by kernel_rfl) (by kernel_rfl) (fun _ _ _ h => h) (Or.inl ⟨by rfl, ?_⟩) (by assumption) ?_
              rotate_left
              · intro w0 hSw; (try dsimp only at hSw); (try simp only [List.getElem_toArray, List.getElem_cons_zero, List.getElem_cons_succ]); go_simp; (try with_reducible rfl)
              (try simp only [List.getElem_toArray, List.getElem_cons_zero, List.getElem_cons_succ, Act.put, List.setIfInBounds_toArray, List.set_cons_zero, List.set_cons_succ])
              refine wpAnyH_take (i := 15) (v := ?_) rfl (by kernel_rfl) (by kernel_rfl) (by kernel_rfl) (fun _ _ _ h => h) (Or.inl ⟨by rfl, ?_⟩) (by assumption) ?_
              rotate_left
              · intro w0 hSw; (try dsimp only at hSw); (try simp only [List.getElem_toArray, List.getElem_cons_zero, List.getElem_cons_succ]); go_simp; (try with_reducible rfl)
              (try simp only [List.getElem_toArray, List.getElem_cons_zero, List.getElem_cons_succ, Act.put, List.setIfInBounds_toArray, List.set_cons_zero, List.set_cons_succ])
              refine wpAnyH_take (i := 16) rfl (by kernel_rfl) (by kernel_rfl) (by kernel_rfl) (fun _ _ _ h => h) (yieldsIf_load_mid (by rfl) _ _ rfl b2 (off2 + j * 27) rfl (encNotice ⟨v.b, some ⟨g, 0, none⟩, cap, v.links⟩) _ (fun w0 hSw i u hi => hSw.2.cell (HC2.out i u hi) (fun h => h)) Tryd.underlying57 rfl Tryd.sizeNotice) (by assumption) ?_
              (try simp only [List.getElem_toArray, List.getElem_cons_zero, List.getElem_cons_succ, Act.put, List.setIfInBounds_toArray, List.set_cons_zero, List.set_cons_succ])
              refine wpAnyH_take (i := 17) (v := ?_) rfl (by kernel_rfl) (by kernel_rfl) (by kernel_rfl) (fun _ _ _ h => h) (Or.inl ⟨by rfl, ?_⟩) (by assumption) ?_
              rotate_left
              · intro w0 hSw; (try dsimp only at hSw); (try simp only [List.getElem_toArray, List.getElem_cons_zero, List.getElem_cons_succ]); go_simp; (try with_reducible rfl)
              (try simp only [List.getElem_toArray, List.getElem_cons_zero, List.getElem_cons_succ, Act.put, List.setIfInBounds_toArray, List.set_cons_zero, List.set_cons_succ])
              refine wpAnyH_take (i := 18) (v := ?_) rfl (by kernel_rfl) (by kernel_rfl) (by kernel_rfl) (fun _ _ _ h => h) (Or.inl ⟨by rfl, ?_⟩) (by assumption) ?_
              rotate_left
              · intro w0 hSw; (try dsimp only at hSw); (try simp only [List.getElem_toArray, List.getElem_cons_zero, List.getElem_cons_succ]); go_simp; (try with_reducible rfl)
              (try simp only [List.getElem_toArray, List.getElem_cons_zero, List.getElem_cons_succ, Act.put, List.setIfInBounds_toArray, List.set_cons_zero, List.set_cons_succ])
              refine wpAnyH_take (i := 19) (v := ?_) rfl (by kernel_rfl) (by kernel_rfl) (by kernel_rfl) (fun _ _ _ h => h) (Or.inl ⟨by rfl, ?_⟩) (by assumption) ?_
              rotate_left
              · intro w0 hSw; (try dsimp only at hSw); (try simp only [List.getElem_toArray, List.getElem_cons_zero, List.getElem_cons_succ]); go_simp; (try with_reducible rfl)
              (try simp only [List.getElem_toArray, List.getElem_cons_zero, List.getElem_cons_succ, Act.put, List.setIfInBounds_toArray, List.set_cons_zero, List.set_cons_succ])
              refine wpAnyH_take (i := 20) rfl (by kernel_rfl) (by kernel_rfl) (by kernel_rfl) (fun _ _ _ h => h) (yieldsIf_load_mid (by rfl) _ _ rfl b (off + j * 27) rfl (encNotice v) _ (fun w0 hSw i u hi => hSw.2.cell (HC.out i u hi) (fun h => h)) Tryd.underlying57 rfl Tryd.sizeNotice) (by assumption) ?_
              (try simp only [List.getElem_toArray, List.getElem_cons_zero, List.getElem_cons_succ, Act.put, List.setIfInBounds_toArray, List.set_cons_zero, List.set_cons_succ])
              refine wpAnyH_ready (rs := [21]) (by kernel_rfl) (by simp) ?_
              refine AllReadyH.cons rfl (fun K hK => ?_) AllReadyH.nil
              (try simp only [List.getElem_toArray, List.getElem_cons_zero, List.getElem_cons_succ])
              go_simp
              go_at_call 31; refine (HKS.out _ (by assumption)).mono ?_; rintro e w12 ⟨rfl, hw12⟩
              go_wp2_with fail
              refine hK.out _ _ (two_step' (by assumption) hw12) (fun hHeld2 => ?_)
              clear hK K
              (try simp only [List.getElem_toArray, List.getElem_cons_zero, List.getElem_cons_succ, Act.put, List.setIfInBounds_toArray, List.set_cons_zero, List.set_cons_succ])
              refine wpAnyH_take (i := 22) (v := ?_) rfl (by kernel_rfl) (by kernel_rfl) (by kernel_rfl) (fun _ _ _ h => h) (Or.inl ⟨by rfl, ?_⟩) (by assumption) ?_
              rotate_left
              · intro w0 hSw; (try dsimp only at hSw); (try simp only [List.getElem_toArray, List.getElem_cons_zero, List.getElem_cons_succ]); go_simp; (try with_reducible rfl)
              (try simp only [List.getElem_toArray, List.getElem_cons_zero, List.getElem_cons_succ, Act.put, List.setIfInBounds_toArray, List.set_cons_zero, List.set_cons_succ])
              refine wpAnyH_take (i := 23) (v := ?_) rfl (by kernel_rfl) (by kernel_rfl) (by kernel_rfl) (fun _ _ _ h => h) (Or.inl ⟨by rfl, ?_⟩) (by assumption) ?_
              rotate_left
              · intro w0 hSw; (try dsimp only at hSw); (try simp only [List.getElem_toArray, List.getElem_cons_zero, List.getElem_cons_succ]); go_simp; (try with_reducible rfl)
              (try simp only [List.getElem_toArray, List.getElem_cons_zero, List.getElem_cons_succ, Act.put, List.setIfInBounds_toArray, List.set_cons_zero, List.set_cons_succ])
              refine wpAnyH_done (by kernel_rfl) ?_ _
              all_goals
                go_wp2
                go_roundw
                case rel => exact ⟨j + 1, by omega, by go_num, New.trans hwj (by obtain ⟨_, hn⟩ := ‹_ ∧ New wr _›; exact hn)⟩
                case measure => simp [intOf]; omega
            · obtain rfl : n = j := by omega
              --F
              obtain ⟨wy, rfl⟩ : ∃ wy : World, wy = wr := ⟨_, rfl⟩
              have hla : vsa.length = RL.length := by have := HRA.out.len; simpa [rowsN] using this
              have hlb : vsb.length = RL.length := by have := HRB.out.len; simpa [rowsN] using this
              have HVA9 := Lib.hid (own_new (own_new (own_new HVA.out HW4.out) HN49.out) hwj)
              have HVB9 := Lib.hid (own_new (own_new HVB.out HN49.out) hwj)
              have HRA9 := Lib.hid (((HRA.out.new_ HW4.out).new_ HN49.out).new_ hwj)
              have HRB9 := Lib.hid ((HRB.out.new_ HN49.out).new_ hwj)
              have HRBL := Lib.hid HRB.out
              have HRAL := Lib.hid HRA.out
              have HWY := Lib.hid (New.trans HN2.out (New.trans HN29.out hwj))
              have hs9 : w4.heap.size ≤ wy.heap.size := (New.trans HN49.out hwj).size
              have HAL := Lib.hid hla
              have HBL := Lib.hid hlb
              clear hwj hla hlb
              go_wp2
              go_loopw [17, 18] (fun v i wx => ∃ k : Nat, k ≤ RL.length ∧ i = .int .i64 (k : Int) ∧ wx.ownsRow wy.heap.size 24 1 v (2 * k) (inter (vsa.take k) (vsb.take k)) ∧ New wy wx) (fun _ i _ => RL.length - (intOf i).toNat)
              case atStart => exact ⟨0, Nat.zero_le _, rfl, own_nil _ _ _ _, Mod.refl _ _⟩
              case round =>
                obtain ⟨k, hk, rfl, hown, hwx⟩ := hrel
                by_cases hlt : k < RL.length
                · have hoa := own_new HVA9.out hwx
                  have hob := own_new HVB9.out hwx
                  obtain ⟨gA, rfl, hgA, hgA2⟩ := own_form hoa (by omega)
                  obtain ⟨gB, rfl, hgB, hgB2⟩ := own_form hob (by omega)
                  obtain ⟨va, hva, hca⟩ := own_elem hoa hlt
                  obtain ⟨vb, hvb, hcb⟩ := own_elem hob hlt
                  obtain ⟨l, hl⟩ : ∃ l, RL[k]? = some l := ⟨_, List.getElem?_eq_getElem hlt⟩
                  obtain ⟨RA, rac, e1⟩ := own_shape (HRA9.out.own k va (l.length, nats l) hva (by simp [rowsN, hl]))
                  obtain ⟨RB, rbc, e2⟩ := own_shape (HRB9.out.own k vb (l.length, nats l) hvb (by simp [rowsN, hl]))
                  subst e1 e2
                  have HIN := Lib.hid (show inter (vsa.take (k + 1)) (vsb.take (k + 1)) = inter (vsa.take k) (vsb.take k) ++ [.slice RA l.length rac, .slice RB l.length rbc] by
                    rw [List.take_add_one, List.take_add_one, hva, hvb]
                    exact inter_snoc _ _ _ _ (by simp [HAL.out, HBL.out]))
                  clear hoa hob hva hvb hl
                  go_wp2
                  go_region_law ((
                      refine step_app Tryd.slt35 rfl (.tmp 145) (.tmp 154) rfl wy.heap.size _ (2 * k) _ rfl (own_new hown ?hm) ⟨wr.heap.size, 0, none⟩ 2 2 [.slice RA l.length rac, .slice RB l.length rbc] rfl rfl ?hn ?h1 ?hb ?hB ?_
                      case hm => exact ((Mod.refl _ _).alloc _).drew
                      case hn => exact cells_new wr _ _
                      case h1 => simp [Value.oneCell']
                      case hb => omega
                      case hB => have := hwx.size; simp; omega
                      intro v' w8 hown8 hg8 hat8
                      have hz8 : New wy w8 := New.grown (hwx.alloc _).drew (own_new hown ((Mod.refl _ _).alloc _).drew) (Nat.le_refl _) hg8
                      have HO8 := Lib.hid hown8
                      clear hown8 hg8 hat8))
                  all_goals
                    go_wp2
                    go_roundw
                    case rel => exact ⟨k + 1, by omega, by go_num, by rw [HIN.out, show 2 * (k + 1) = 2 * k + 2 from by omega]; exact HO8.out, hz8⟩
                    case measure => simp [intOf]; omega
                · obtain rfl : k = RL.length := by omega
                  obtain ⟨LA, lc, rfl⟩ := own_shape hown
                  rw [List.take_of_length_le (by rw [HAL.out]; exact Nat.le_refl _), List.take_of_length_le (by rw [HBL.out]; exact Nat.le_refl _)] at hown
                  have hrows : RowsOf wr w2.heap.size 3 1 (inter vsa vsb) (inter (rowsN RL) (rowsN RL)) :=
                    RowsOf.inter (HRA9.out.new_ hwx) ((HRB9.out.new_ hwx).base hs3) (HAL.out.trans HBL.out.symm) (fun i j v u blk hv hu hvb hub => by
                      have h1 := (HRAL.out.lt_ hv hvb).2
                      have h2 := (HRBL.out.lt_ hu hub).1
                      omega)
                  have HROWS := Lib.hid hrows
                  have hapA : ∀ ad, LA = some ad → ¬ OwnS (inter vsa vsb) ad.block := fun ad had ho => by
                    obtain ⟨_, _, cs, hcs⟩ := HROWS.out.owns ho
                    rcases hown.2 with ⟨h1, _⟩ | ⟨g', cap', cur, h1, _, hh, _⟩
                    · rw [had] at h1; cases h1
                    · injection h1 with h1
                      rw [had] at h1
                      injection h1 with h1
                      rw [h1] at hcs
                      rw [hh] at hcs
                      injection hcs with hcs
                      injection hcs with _ hcs
                      exact absurd hcs (by decide)
                  have hsl := own_sl hown
                  have hap := apartInts_any LA (2 * RL.length) lc w2.heap.size (inter vsa vsb) _ wr hsl hapA HROWS.out (fun x hx => by
                    obtain ⟨i, hi⟩ := List.getElem?_of_mem hx
                    rcases inter_at _ _ i x rfl hi with ⟨_, h⟩ | ⟨_, h⟩ <;> exact HEACH.out x (List.mem_of_getElem? h)) (by omega) (by have := hwx.size; omega)
                  have HAP := Lib.hid hap
                  have hzx := New.trans HWY.out hwx
                  have HZX := Lib.hid hzx
                  have hoa := own_new HVA9.out hwx
                  have hob := own_new HVB9.out hwx
                  have HOA := Lib.hid hoa
                  have HOB := Lib.hid hob
                  have hne2 : ∀ blk, (Value.slice AA RL.length ac).ownBlock = some blk → (Value.slice BA RL.length bc).ownBlock ≠ some blk := fun blk h1 h2 => by
                    have h3 := (HVA.out.lt blk h1).2
                    have h4 := (HVB.out.lt blk h2).1
                    omega
                  have HNE2 := Lib.hid hne2
                  have hwwy := HN2.out.size
                  have hwx9 := hwx.size
                  clear hap hsl hapA hrows hoa hob hne2 hzx
                  go_wp2_with (first
                    | (go_at_call 13; refine HAP.out.mono ?_; rintro e w10 ⟨rfl, hw10⟩)
                    | (go_at_call 32; refine (outer_any AA BA RL.length ac bc w2.heap.size vsa vsb _ (by omega) (by have := hw10.size; omega) (own_mod HOA.out hw10 (fun blk hb ho => by obtain ⟨_, _, cs, hcs⟩ := HROWS.out.owns ho; exact own_not_int HOA.out blk _ hcs hb)) (own_mono (own_mod HOB.out hw10 (fun blk hb ho => by obtain ⟨_, _, cs, hcs⟩ := HROWS.out.owns ho; exact own_not_int HOB.out blk _ hcs hb)) hs3) HNE2.out).mono ?_; rintro e w12 ⟨rfl, hw12⟩))
                  go_ret
                  refine ⟨rfl, ?_⟩
                  have h1 : New w w10 := Mod.trans HZX.out hw10 (fun i hi ho => by
                    have := (HROWS.out.owns ho).1
                    omega)
                  exact Mod.trans h1 hw12 (fun i hi ho => by omega)
              --G
end Go.Proofs.YtkkaejbdekdljaaDoor
