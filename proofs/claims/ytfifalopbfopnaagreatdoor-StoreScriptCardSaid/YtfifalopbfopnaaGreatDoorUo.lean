/- The law: StoreScript. -/
import Derived.Test.YtfifalopbfopnaaGreatDoorUn
import Derived.Deep.RegionHeld3
import Derived.IntWalk
set_option linter.unusedVariables false
set_option linter.unusedSimpArgs false
namespace Go.Proofs.YtfifalopbfopnaaGreatDoor
open Go.RowKit

section
variable {E : SysEnv} {s r : Nat → StS} {NS NR : Nat} {tv : Value} {vs : List Value} {ls : List (Nat × List Value)} {W : World}
theorem Sys.ask_call (h : Sys E s r NS NR tv vs ls W) {k : Nat} (hk : k < 2) {c : CallV} (hc : CallOk c) (hN : NS + 1 ≤ 1048576) (hg : ErrVar E.w0) :
    Calls Tryz.prog 10 #[.pointer (some ⟨E.p k, 0, none⟩), .agg (encCall c).toArray] W fun e w' => e = .returned (saidVal (answer (E.m k) (s k) c)) ∧ Sys E (upd s k (after (s k) c)) r (NS + 1) NR tv vs ls w' := by
  obtain ⟨X, R, own, h⟩ := h
  have h1 := ask_any (X k) NS (s k) c W (h.st k hk) hc hN (hg.new_ h.new) (fun hf => by have := (h.ox k hk _ hf).2; have := hg.lt; omega)
  rw [(h.xp k hk).1] at h1
  refine h1.mono fun e w' ⟨he, hs⟩ => ⟨by rw [he, (h.xp k hk).2], h.ask hk (by omega) hN hs⟩
theorem Sys.tell_call (h : Sys E s r NS NR tv vs ls W) {k : Nat} (hk : k < 2) {c : CallV} (hc : CallOk c) (hN : NR + 1 ≤ 1048576) :
    Calls Tryz.prog 11 #[.pointer (some ⟨E.q k, 0, none⟩), .agg (encCall c).toArray] W fun e w' => e = .returned (saidVal (answer (E.m k) (r k) c)) ∧ Sys E s (upd r k (after (r k) c)) NS (NR + 1) tv vs ls w' := by
  obtain ⟨X, R, own, h⟩ := h
  have h1 := tell_any (R k) NR (E.m k) (r k) c W (h.rf k hk) hc hN
  rw [h.rp k hk] at h1
  refine h1.mono fun e w' ⟨he, hs⟩ => ⟨he, h.tell hk (by omega) hN hs⟩
theorem Sys.keys_call (h : Sys E s r NS NR tv vs ls W) {k : Nat} (hk : k < 2) : Calls Tryz.prog 12 #[.pointer (some ⟨E.p k, 0, none⟩)] W (KeysPost W (keysOf (s k).rows)) := by
  obtain ⟨X, R, own, h⟩ := h
  have h1 := storeKeys_any (X k) NS (s k) W (h.st k hk)
  rwa [(h.xp k hk).1] at h1
theorem Sys.rkeys_call (h : Sys E s r NS NR tv vs ls W) {k : Nat} (hk : k < 2) : Calls Tryz.prog 14 #[.pointer (some ⟨E.q k, 0, none⟩)] W (KeysPost W (keysOf (r k).rows)) := by
  obtain ⟨X, R, own, h⟩ := h
  have h1 := refKeys_any (R k) NR (E.m k) (r k) W (h.rf k hk)
  rwa [h.rp k hk] at h1
theorem Sys.cell7 (h : Sys E s r NS NR tv vs ls W) {k : Nat} (hk : k < 2) : W.cell? ⟨E.b7, k, none⟩ = some (.pointer (some ⟨E.p k, 0, none⟩)) := by
  obtain ⟨X, R, own, h⟩ := h
  rw [h.blk7.cell]
  rcases (show k = 0 ∨ k = 1 by omega) with rfl | rfl <;> rfl
theorem Sys.cell8 (h : Sys E s r NS NR tv vs ls W) {k : Nat} (hk : k < 2) : W.cell? ⟨E.b8, k, none⟩ = some (.pointer (some ⟨E.q k, 0, none⟩)) := by
  obtain ⟨X, R, own, h⟩ := h
  rw [h.blk8.cell]
  rcases (show k = 0 ∨ k = 1 by omega) with rfl | rfl <;> rfl
theorem Sys.new0 (h : Sys E s r NS NR tv vs ls W) : New E.w0 W := by
  obtain ⟨X, R, own, h⟩ := h; exact h.new
end

/-- Between two calls: has the program's store been asked, has the document's been told? -/
structure Ph (E : SysEnv) (s : Nat → StS) (k : Nat) (st' : StS) (N : Nat) (tv : Value) (vs : List Value) (ls : List (Nat × List Value)) (a t : Bool) (W : World) : Prop where
  out : Sys E (if a then upd s k st' else s) (if t then upd s k st' else s) (if a then N + 1 else N) (if t then N + 1 else N) tv vs ls W
theorem three_step' {w0 w w' : World} {p q r : Addr} {x y z : Value} (h : (w.cell? p = some x ∧ w.cell? q = some y ∧ w.cell? r = some z) ∧ New w0 w) (hm : New w w') : (w'.cell? p = some x ∧ w'.cell? q = some y ∧ w'.cell? r = some z) ∧ New w0 w' :=
  ⟨⟨hm.cell h.1.1 (fun h => h), hm.cell h.1.2.1 (fun h => h), hm.cell h.1.2.2 (fun h => h)⟩, New.trans h.2 hm⟩
set_option maxRecDepth 100000 in
set_option maxHeartbeats 4000000 in
theorem storeScriptLaw_any (a b : Int) (A : Option Addr) (n cap : Nat) (cs : List CallV) (w : World) (hs : Sl w A n 6 (cellsL encCall cs)) (hok : ∀ c ∈ cs, CallOk c) (hg : ErrVar w) :
    Calls Tryz.prog 3 #[.int .i64 a, .int .i64 b, .slice A n cap] w fun e w' => e = .returned (.bool true) ∧ New w w' := by
  have hn := hs.le
  have HSL := Lib.hid hs
  have HOK := Lib.hid hok
  have HG := Lib.hid hg
  have HLEN := Lib.hid (hs.length encCall_len (by decide))
  clear hs hok hg
  by_cases hbig : 500 < n
  · go_enter Tryz.func3, Tryz.ntmps3
    go_wp2_with (go_at_call 6; refine (works_any _ HG.out).mono ?_; rintro e w1 ⟨rfl, hw1⟩)
    go_ret
    exact ⟨rfl, hw1⟩
  have hbg : decide (500 < (n : Int)) = false := by simp; omega
  go_enter Tryz.func3, Tryz.ntmps3
  go_wp2_with fail
  refine (storeNew_any a _).mono ?_
  rintro e w1 ⟨L0, rfl, hb0, hst0, hw1, hf0⟩
  go_wp2_with fail
  refine (storeNew_any b _).mono ?_
  rintro e w2 ⟨L1, rfl, hb1, hst1, hw2, hf1⟩
  go_wp2_with fail
  refine (refNew_any a _).mono ?_
  rintro e w3 ⟨R0, rfl, hrf0, hw3, hg0⟩
  go_wp2_with fail
  refine (refNew_any b _).mono ?_
  rintro e w4 ⟨R1, rfl, hrf1, hw4, hg1⟩
  simp only [World.size_alloc] at hg0
  have hsys := Sys.start hst0 hw1 hf0 hb0 hst1 hw2 hf1 hb1 hrf0 hw3 hg0 hrf1 hw4 hg1
  have hnew0 := hsys.new0
  have HN0 := Lib.hid hnew0
  have q70 := hsys.cell7 (k := 0) (by omega)
  have q71 := hsys.cell7 (k := 1) (by omega)
  obtain ⟨E, hE⟩ : ∃ E : SysEnv, E = ⟨w, w2.heap.size, w4.heap.size, two (countedN a) (countedN b), two L0.s L1.s, two R0.s R1.s⟩ := ⟨_, rfl⟩
  have HE := Lib.hid hE
  rw [← hE] at hsys
  have he0 : E.w0 = w := by rw [hE]
  have he7 : w2.heap.size = E.b7 := by rw [hE]
  have he8 : w4.heap.size = E.b8 := by rw [hE]
  have HE0 := Lib.hid he0
  have HSYS := Lib.hid hsys
  have HWK := Lib.hid (fun W (hW : New w W) => works_any W (HG.out.new_ hW))
  simp [two] at q70 q71
  obtain ⟨wx, hwx⟩ : ∃ wx, w4.alloc (.cells #[.pointer (some ⟨R0.s, 0, none⟩), .pointer (some ⟨R1.s, 0, none⟩)] 29) = wx := ⟨_, rfl⟩
  have HWX := Lib.hid hwx
  rw [hwx] at HSYS HN0
  rw [he7] at q70 q71
  clear hE hsys hnew0 hst0 hw1 hf0 hb0 hst1 hw2 hf1 hb1 hrf0 hw3 hg0 hrf1 hw4 hg1 he0 hwx
  go_wp2_with fail
  rw [HWX.out] at q70 q71 ⊢
  refine (HWK.out _ HN0.out).mono ?_
  rintro e w5 ⟨rfl, hw5⟩
  have hsys5 := HSYS.out.new_ hw5
  have HSYS5 := Lib.hid hsys5
  clear hsys5 HSYS q70 q71 HN0
  go_wp2
  go_loopw [9, 10] (fun v i wr => ∃ (i' : Nat) (s : Nat → StS) (vs : List Value) (ls : List (Nat × List Value)), i' ≤ n ∧ i = .int .i64 (i' : Int) ∧ vs.length ≤ 2 * i' ∧ Sys E s s i' i' v vs ls wr) (fun _ i _ => n - (intOf i).toNat)
  case atStart => exact ⟨0, fun _ => stNew, [], [], Nat.zero_le _, rfl, Nat.le_refl _, HSYS5.out⟩
  case round =>
    obtain ⟨i, s, vs, ls, hi, rfl, hvl, hsys⟩ := hrel
    obtain ⟨TA, tc, rfl⟩ := own_shape (show wr.ownsRow E.w0.heap.size 40 1 _ vs.length vs from by obtain ⟨_, _, _, hp⟩ := hsys; exact hp.tvo)
    have HVL := Lib.hid hvl
    have HSYS := Lib.hid hsys
    have hnr : New w wr := by have := hsys.new0; rwa [HE0.out] at this
    clear hvl hsys
    by_cases hlt : i < n
    · obtain ⟨cb, off, c, rfl, hc, hcc⟩ := (HSL.out.new_ hnr).elem encCall_len (by decide) hlt
      have hcok := HOK.out c (List.mem_of_getElem? hc)
      have HCOK := Lib.hid hcok
      have k0 := hcc 0 _ rfl
      have k1 := hcc 1 _ rfl
      have k2 := hcc 2 _ rfl
      have k3 := hcc 3 _ rfl
      have k4 := hcc 4 _ rfl
      have k5 := hcc 5 _ rfl
      simp only [Nat.add_zero] at k0
      obtain ⟨k, hk⟩ : ∃ k : Nat, c.on % 2 = (k : Int) := ⟨(c.on % 2).toNat, by omega⟩
      have hk2 : k < 2 := by omega
      have HPK := Lib.hid (fun W => pick2_any c.on W)
      rw [hk] at HPK
      have HCC := Lib.hid (fun W (hW : New wr W) (j : Nat) u (hu : (encCall c)[j]? = some u) => hW.cell (hcc j u hu) (fun h => h))
      have HCI := Lib.hid hc
      clear hc hcok hcc hk
      go_wp2_with fail
      refine (HPK.out _).mono ?_
      rintro e w6 ⟨rfl, hw6⟩
      by_cases hkind : c.kind = 3
      · have hne : ((c.kind : Int) != 3) = false := by simpa using hkind
        have m1 := HCC.out w6 hw6 1 _ rfl
        have hsys6 := HSYS.out.new_ hw6
        have q6 := hsys6.cell7 hk2
        have z1 : (0 : Int) ≤ (k : Int) := by omega
        have z2 : (k : Int) < 2 := by omega
        have hnk : (keysOf (s k).rows).length ≤ 1048576 := by
          obtain ⟨X, R, own, hp⟩ := hsys6
          have h1 := hp.st k hk2
          rw [(keysOf_up (rs := (s k).rows) h1.ok.nodup).2.2]
          exact Nat.le_trans h1.rowsN h1.bigN
        obtain ⟨ks, hks⟩ : ∃ ks, keysOf (s k).rows = ks := ⟨_, rfl⟩
        rw [hks] at hnk
        have HKC := Lib.hid (show ∀ W, Sys E s s i i (.slice TA vs.length tc) vs ls W → Calls Tryz.prog 12 #[.pointer (some ⟨E.p k, 0, none⟩)] W (KeysPost W ks) from fun W hW => by rw [← hks]; exact hW.keys_call hk2)
        have HRC := Lib.hid (show ∀ W, Sys E s s i i (.slice TA vs.length tc) vs ls W → Calls Tryz.prog 14 #[.pointer (some ⟨E.q k, 0, none⟩)] W (KeysPost W ks) from fun W hW => by rw [← hks]; exact hW.rkeys_call hk2)
        obtain ⟨nk, hnk2⟩ : ∃ nk, ks.length = nk := ⟨_, rfl⟩
        have HNK := Lib.hid hnk2
        unfold KeysPost at HKC HRC
        rw [hnk2] at HKC HRC hnk
        have HSYS6 := Lib.hid hsys6
        clear hkind hsys6 hks hnk2
        go_wp2_with fail
        refine (HKC.out _ HSYS6.out).mono ?_
        rintro e w7 ⟨v1, rfl, ho1, hw7⟩
        obtain ⟨A1, c1, rfl⟩ := own_shape ho1
        have hsys7 := HSYS6.out.new_ hw7
        have q7 := hsys7.cell7 hk2
        have HSYS7 := Lib.hid hsys7
        have HO1 := Lib.hid ho1
        clear hsys7 ho1 q6 m1 k0 k1 k2 k3 k4 k5
        go_wp2_with fail
        refine (HKC.out _ HSYS7.out).mono ?_
        rintro e w8 ⟨v2, rfl, ho2, hw8⟩
        obtain ⟨A2, c2, rfl⟩ := own_shape ho2
        have hsys8 := HSYS7.out.new_ hw8
        have q8 := hsys8.cell8 hk2
        have HSYS8 := Lib.hid hsys8
        have HO2 := Lib.hid ho2
        clear hsys8 ho2 q7
        go_wp2_with fail
        refine (HRC.out _ HSYS8.out).mono ?_
        rintro e w9 ⟨v3, rfl, ho3, hw9⟩
        obtain ⟨A3, c3, rfl⟩ := own_shape ho3
        have HO3 := Lib.hid ho3
        have n79 := New.trans hw8 hw9
        clear ho3 q8
        go_wp2_with fail
        refine (sameKeys_any A1 A3 nk c1 c3 ks _ (own_sl (own_new HO1.out n79)) (own_sl HO3.out)).mono ?_
        rintro e w10 ⟨rfl, hw10⟩
        have n810 := New.trans hw9 hw10
        have hsys10 := HSYS8.out.new_ n810
        have q10 := hsys10.cell8 hk2
        have HSYS10 := Lib.hid hsys10
        clear hsys10
        go_wp2_with fail
        refine (HRC.out _ HSYS10.out).mono ?_
        rintro e w11 ⟨v4, rfl, ho4, hw11⟩
        obtain ⟨A4, c4, rfl⟩ := own_shape ho4
        have HO4 := Lib.hid ho4
        have n811 := New.trans n810 hw11
        clear ho4 q10
        go_wp2_with fail
        refine (sameKeys_any A2 A4 nk c2 c4 ks _ (own_sl (own_new HO2.out n811)) (own_sl HO4.out)).mono ?_
        rintro e w12 ⟨rfl, hw12⟩
        have n812 := New.trans n811 hw12
        have n712 := New.trans hw8 n812
        have n612 := New.trans hw7 n712
        have HP6 := Lib.hid HSYS6.out
        obtain ⟨X, R, own, hp6⟩ := HSYS6.out
        have HPT := Lib.hid hp6
        have hvs : vs.length ≤ 1000 := by have := HVL.out; omega
        have hw0 := (Parts.new_ hp6 n612).new.size
        clear hp6
        go_wp2_with (at_builtin; go_must (refine wpList_app Tryz.sltOutKeys rfl (.tmp 100) (.tmp 103) rfl E.w0.heap.size _ vs.length vs rfl ((own_new HPT.out.tvo n612).alloc _) ⟨w12.heap.size, 0, none⟩ 2 2 [.slice A1 nk c1, .slice A2 nk c2] rfl rfl (cells_new _ _ _) ?c1 ?c2 ?c3 ?_))
        case c1 => simp [Value.oneCell']
        case c2 => omega
        case c3 => first | omega | (simp; omega)
        intro v13 w13 hown13 hg13 hat13
        have hfin := HPT.out.told (W3 := w12.alloc (.cells #[.slice A1 nk c1, .slice A2 nk c2] 40)) (n612.alloc _) (own_new HO1.out (n712.alloc _)) (own_mono (own_new HO2.out (n812.alloc _)) hw7.size) (fun b hb1 hb2 => by
          have h1 := (HO1.out.lt b hb1).2
          have h2 := (HO2.out.lt b hb2).1
          omega) hnk hnk hg13 hown13 (by
          rcases hat13 with e | e
          · exact .inl e
          · exact .inr (by rw [e]; simp))
        have HFIN := Lib.hid (hfin.mono (NS' := i + 1) (NR' := i + 1) (by omega) (by omega) (by omega) (by omega))
        clear hfin hown13 hg13 hat13
        go_wp2
        go_roundw
        case rel => exact ⟨i + 1, s, _, _, by omega, by go_num, by have := HVL.out; simp; omega, HFIN.out⟩
        case measure => simp [intOf]; omega
      · have hne : ((c.kind : Int) != 3) = true := by simpa using hkind
        have m1 := HCC.out w6 hw6 1 _ rfl
        have hsys6 := HSYS.out.new_ hw6
        have HCELLS := Lib.hid (show ∀ (s' r' : Nat → StS) (a1 b1 : Nat) W, Sys E s' r' a1 b1 (.slice TA vs.length tc) vs ls W → (W.cell? ⟨E.b7, k, none⟩ = some (.pointer (some ⟨E.p k, 0, none⟩)) ∧ W.cell? ⟨E.b8, k, none⟩ = some (.pointer (some ⟨E.q k, 0, none⟩)) ∧ W.cell? ⟨cb, off + i * 6, none⟩ = some (.int .i64 c.on) ∧ W.cell? ⟨cb, off + i * 6 + 1, none⟩ = some (.int .i64 c.kind) ∧ W.cell? ⟨cb, off + i * 6 + 2, none⟩ = some (.int .i64 c.key.1) ∧ W.cell? ⟨cb, off + i * 6 + 3, none⟩ = some (.int .i64 c.key.2) ∧ W.cell? ⟨cb, off + i * 6 + 4, none⟩ = some (.int .i64 c.n) ∧ W.cell? ⟨cb, off + i * 6 + 5, none⟩ = some (.string c.v)) from fun s' r' a1 b1 W hW => by
          have hn0 := hW.new0
          rw [HE0.out] at hn0
          have hsl := HSL.out.new_ hn0
          obtain ⟨b', o', c', e, hc', hcc'⟩ := hsl.elem encCall_len (by decide) hlt
          injection e with e
          injection e with e1 e2
          subst e1 e2
          rw [HCI.out] at hc'
          injection hc' with hc'
          subst hc'
          exact ⟨hW.cell7 hk2, hW.cell8 hk2, by have := hcc' 0 _ rfl; rwa [Nat.add_zero] at this, hcc' 1 _ rfl, hcc' 2 _ rfl, hcc' 3 _ rfl, hcc' 4 _ rfl, hcc' 5 _ rfl⟩)
        have hNN : i + 1 ≤ 1048576 := by omega
        obtain ⟨⟨av, an, aok⟩, hans⟩ : ∃ a, answer (E.m k) (s k) c = a := ⟨_, rfl⟩
        have HASK0 := Lib.hid (show ∀ W, Ph E s k (after (s k) c) i (.slice TA vs.length tc) vs ls false false W → Calls Tryz.prog 10 #[.pointer (some ⟨E.p k, 0, none⟩), .agg #[.int .i64 c.on, .int .i64 c.kind, .int .i64 c.key.1, .int .i64 c.key.2, .int .i64 c.n, .string c.v]] W fun e w' => e = .returned (.agg #[.string av, .int .i64 an, .bool aok]) ∧ Ph E s k (after (s k) c) i (.slice TA vs.length tc) vs ls true false w' ∧ (w'.cell? ⟨E.b7, k, none⟩ = some (.pointer (some ⟨E.p k, 0, none⟩)) ∧ w'.cell? ⟨E.b8, k, none⟩ = some (.pointer (some ⟨E.q k, 0, none⟩)) ∧ w'.cell? ⟨cb, off + i * 6, none⟩ = some (.int .i64 c.on) ∧ w'.cell? ⟨cb, off + i * 6 + 1, none⟩ = some (.int .i64 c.kind) ∧ w'.cell? ⟨cb, off + i * 6 + 2, none⟩ = some (.int .i64 c.key.1) ∧ w'.cell? ⟨cb, off + i * 6 + 3, none⟩ = some (.int .i64 c.key.2) ∧ w'.cell? ⟨cb, off + i * 6 + 4, none⟩ = some (.int .i64 c.n) ∧ w'.cell? ⟨cb, off + i * 6 + 5, none⟩ = some (.string c.v)) from fun W hW =>
          (Sys.ask_call (show Sys E s s i i (.slice TA vs.length tc) vs ls W from hW.out) hk2 HCOK.out hNN (by rw [HE0.out]; exact HG.out)).mono fun e w' ⟨he, hs'⟩ => ⟨by rw [he, hans]; rfl, ⟨hs'⟩, HCELLS.out _ _ _ _ _ hs'⟩)
        have HASK2 := Lib.hid (show ∀ W, Ph E s k (after (s k) c) i (.slice TA vs.length tc) vs ls false true W → Calls Tryz.prog 10 #[.pointer (some ⟨E.p k, 0, none⟩), .agg #[.int .i64 c.on, .int .i64 c.kind, .int .i64 c.key.1, .int .i64 c.key.2, .int .i64 c.n, .string c.v]] W fun e w' => e = .returned (.agg #[.string av, .int .i64 an, .bool aok]) ∧ Ph E s k (after (s k) c) i (.slice TA vs.length tc) vs ls true true w' ∧ (w'.cell? ⟨E.b7, k, none⟩ = some (.pointer (some ⟨E.p k, 0, none⟩)) ∧ w'.cell? ⟨E.b8, k, none⟩ = some (.pointer (some ⟨E.q k, 0, none⟩)) ∧ w'.cell? ⟨cb, off + i * 6, none⟩ = some (.int .i64 c.on) ∧ w'.cell? ⟨cb, off + i * 6 + 1, none⟩ = some (.int .i64 c.kind) ∧ w'.cell? ⟨cb, off + i * 6 + 2, none⟩ = some (.int .i64 c.key.1) ∧ w'.cell? ⟨cb, off + i * 6 + 3, none⟩ = some (.int .i64 c.key.2) ∧ w'.cell? ⟨cb, off + i * 6 + 4, none⟩ = some (.int .i64 c.n) ∧ w'.cell? ⟨cb, off + i * 6 + 5, none⟩ = some (.string c.v)) from fun W hW =>
          (Sys.ask_call (show Sys E s (upd s k (after (s k) c)) i (i + 1) (.slice TA vs.length tc) vs ls W from hW.out) hk2 HCOK.out hNN (by rw [HE0.out]; exact HG.out)).mono fun e w' ⟨he, hs'⟩ => ⟨by rw [he, hans]; rfl, ⟨hs'⟩, HCELLS.out _ _ _ _ _ hs'⟩)
        have HTELL0 := Lib.hid (show ∀ W, Ph E s k (after (s k) c) i (.slice TA vs.length tc) vs ls false false W → Calls Tryz.prog 11 #[.pointer (some ⟨E.q k, 0, none⟩), .agg #[.int .i64 c.on, .int .i64 c.kind, .int .i64 c.key.1, .int .i64 c.key.2, .int .i64 c.n, .string c.v]] W fun e w' => e = .returned (.agg #[.string av, .int .i64 an, .bool aok]) ∧ Ph E s k (after (s k) c) i (.slice TA vs.length tc) vs ls false true w' ∧ (w'.cell? ⟨E.b7, k, none⟩ = some (.pointer (some ⟨E.p k, 0, none⟩)) ∧ w'.cell? ⟨E.b8, k, none⟩ = some (.pointer (some ⟨E.q k, 0, none⟩)) ∧ w'.cell? ⟨cb, off + i * 6, none⟩ = some (.int .i64 c.on) ∧ w'.cell? ⟨cb, off + i * 6 + 1, none⟩ = some (.int .i64 c.kind) ∧ w'.cell? ⟨cb, off + i * 6 + 2, none⟩ = some (.int .i64 c.key.1) ∧ w'.cell? ⟨cb, off + i * 6 + 3, none⟩ = some (.int .i64 c.key.2) ∧ w'.cell? ⟨cb, off + i * 6 + 4, none⟩ = some (.int .i64 c.n) ∧ w'.cell? ⟨cb, off + i * 6 + 5, none⟩ = some (.string c.v)) from fun W hW =>
          (Sys.tell_call (show Sys E s s i i (.slice TA vs.length tc) vs ls W from hW.out) hk2 HCOK.out hNN).mono fun e w' ⟨he, hs'⟩ => ⟨by rw [he, hans]; rfl, ⟨hs'⟩, HCELLS.out _ _ _ _ _ hs'⟩)
        have HTELL1 := Lib.hid (show ∀ W, Ph E s k (after (s k) c) i (.slice TA vs.length tc) vs ls true false W → Calls Tryz.prog 11 #[.pointer (some ⟨E.q k, 0, none⟩), .agg #[.int .i64 c.on, .int .i64 c.kind, .int .i64 c.key.1, .int .i64 c.key.2, .int .i64 c.n, .string c.v]] W fun e w' => e = .returned (.agg #[.string av, .int .i64 an, .bool aok]) ∧ Ph E s k (after (s k) c) i (.slice TA vs.length tc) vs ls true true w' ∧ (w'.cell? ⟨E.b7, k, none⟩ = some (.pointer (some ⟨E.p k, 0, none⟩)) ∧ w'.cell? ⟨E.b8, k, none⟩ = some (.pointer (some ⟨E.q k, 0, none⟩)) ∧ w'.cell? ⟨cb, off + i * 6, none⟩ = some (.int .i64 c.on) ∧ w'.cell? ⟨cb, off + i * 6 + 1, none⟩ = some (.int .i64 c.kind) ∧ w'.cell? ⟨cb, off + i * 6 + 2, none⟩ = some (.int .i64 c.key.1) ∧ w'.cell? ⟨cb, off + i * 6 + 3, none⟩ = some (.int .i64 c.key.2) ∧ w'.cell? ⟨cb, off + i * 6 + 4, none⟩ = some (.int .i64 c.n) ∧ w'.cell? ⟨cb, off + i * 6 + 5, none⟩ = some (.string c.v)) from fun W hW =>
          (Sys.tell_call (show Sys E (upd s k (after (s k) c)) s (i + 1) i (.slice TA vs.length tc) vs ls W from hW.out) hk2 HCOK.out hNN).mono fun e w' ⟨he, hs'⟩ => ⟨by rw [he, hans]; rfl, ⟨hs'⟩, HCELLS.out _ _ _ _ _ hs'⟩)
        have hP0 : Ph E s k (after (s k) c) i (.slice TA vs.length tc) vs ls false false w6.drew := ⟨hsys6.new_ (Mod.refl _ _).drew⟩
        have hS0 := HCELLS.out _ _ _ _ _ (hsys6.new_ (Mod.refl _ _).drew)
        have z1 : (0 : Int) ≤ (k : Int) := by omega
        have z2 : (k : Int) < 2 := by omega
        have z3 : (0 : Int) ≤ (i : Int) := by omega
        have z4 : (i : Int) < (n : Int) := by omega
        clear hsys6 hans
        go_wp2_with fail
        go_region_held3 (fun w' => w'.cell? ⟨E.b7, k, none⟩ = some (.pointer (some ⟨E.p k, 0, none⟩)) ∧ w'.cell? ⟨E.b8, k, none⟩ = some (.pointer (some ⟨E.q k, 0, none⟩)) ∧ w'.cell? ⟨cb, off + i * 6, none⟩ = some (.int .i64 c.on) ∧ w'.cell? ⟨cb, off + i * 6 + 1, none⟩ = some (.int .i64 c.kind) ∧ w'.cell? ⟨cb, off + i * 6 + 2, none⟩ = some (.int .i64 c.key.1) ∧ w'.cell? ⟨cb, off + i * 6 + 3, none⟩ = some (.int .i64 c.key.2) ∧ w'.cell? ⟨cb, off + i * 6 + 4, none⟩ = some (.int .i64 c.n) ∧ w'.cell? ⟨cb, off + i * 6 + 5, none⟩ = some (.string c.v)) ((first | exact hSu | exact hSb | exact hSt | exact hSa | exact hS0)) ((first
          | (go_at_call 10; first | (refine (HASK2.out _ hPt).mono ?_; rintro e w7 ⟨rfl, hPb, hSb⟩) | (refine (HASK0.out _ hP0).mono ?_; rintro e w7 ⟨rfl, hPa, hSa⟩))
          | (go_at_call 11; first | (refine (HTELL1.out _ hPa).mono ?_; rintro e w7 ⟨rfl, hPu, hSu⟩) | (refine (HTELL0.out _ hP0).mono ?_; rintro e w7 ⟨rfl, hPt, hSt⟩))))
        all_goals
          first | (have hfin := hPu.out) | (have hfin := hPb.out)
          have HFIN := Lib.hid (show Sys E (upd s k (after (s k) c)) (upd s k (after (s k) c)) (i + 1) (i + 1) (.slice TA vs.length tc) vs ls _ from hfin)
          clear hfin
          go_wp2
          go_roundw
          case rel => exact ⟨i + 1, upd s k (after (s k) c), vs, ls, by omega, by go_num, by have := HVL.out; omega, HFIN.out⟩
          case measure => simp [intOf]; omega
    · obtain rfl : i = n := by omega
      obtain ⟨X, R, own, hp⟩ := HSYS.out
      have HP := Lib.hid hp
      have htn : vs.length ≤ 4294967296 := by have := HVL.out; omega
      have hAp := apartKeys_any TA vs.length tc E.w0.heap.size vs ls wr (own_sl hp.tvo) (fun ad had hown => by
        have h1 := hp.ov _ hown
        subst had
        rcases hp.tvo.2 with ⟨e, _⟩ | ⟨g, cap', cur, e, _⟩
        · cases e
        · injection e with e
          injection e with e
          have h2 := hp.ot g (by rw [e]; rfl)
          have h3 : ad.block = g := by rw [e]
          rw [h3, h2] at h1
          omega) hp.rows (fun x hx => by have := hp.lens x hx; omega) htn hp.new.size
      have HAP := Lib.hid hAp
      clear hp hAp
      go_wp2_with fail
      refine HAP.out.mono ?_
      rintro e wz ⟨rfl, hmz⟩
      obtain ⟨hnz, hst, hrf, hb7, hb8⟩ := HP.out.apart hmz
      rw [HE0.out] at hnz
      have HST := Lib.hid hst
      have HRF := Lib.hid hrf
      have HB7 := Lib.hid hb7
      have HB8 := Lib.hid hb8
      clear hst hrf hb7 hb8 hmz
      go_wp2
      go_loopw [14] (fun j wr => ∃ (j' : Nat), j' ≤ 2 ∧ j = .int .i64 (j' : Int) ∧ New wz wr) (fun j _ => 2 - (intOf j).toNat)
      case atStart => exact ⟨0, by omega, rfl, Mod.refl _ _⟩
      case round =>
        obtain ⟨j, hj, rfl, hw⟩ := hrel
        by_cases hj2 : j < 2
        · have h7 := (HB7.out.new_ hw).cell j
          have h8 := (HB8.out.new_ hw).cell j
          have hrj := (HRF.out j hj2).new_ hw
          have hsj := (HST.out j hj2).new_ hw
          have c7 : wr.cell? ⟨E.b7, j, none⟩ = some (.pointer (some ⟨E.p j, 0, none⟩)) := by
            rw [h7]
            rcases (show j = 0 ∨ j = 1 by omega) with rfl | rfl <;> rfl
          have c8 : wr.cell? ⟨E.b8, j, none⟩ = some (.pointer (some ⟨E.q j, 0, none⟩)) := by
            rw [h8]
            rcases (show j = 0 ∨ j = 1 by omega) with rfl | rfl <;> rfl
          have cq := hrj.blk.cell 0
          simp only [List.getElem?_cons_zero] at cq
          rw [(HP.out.rp j hj2)] at cq
          have hpx := (HP.out.xp j hj2).1
          have hpm := (HP.out.xp j hj2).2
          have hqx := HP.out.rp j hj2
          obtain ⟨ks, hks⟩ : ∃ ks, keysOf (s j).rows = ks := ⟨_, rfl⟩
          obtain ⟨nk, hnk⟩ : ∃ nk, ks.length = nk := ⟨_, rfl⟩
          obtain ⟨mj, hmj⟩ : ∃ mj, E.m j = mj := ⟨_, rfl⟩
          obtain ⟨nv, hnv⟩ : ∃ nv, stVersions (s j) = nv := ⟨_, rfl⟩
          have HKC := Lib.hid (show ∀ W, New wr W → Calls Tryz.prog 12 #[.pointer (some ⟨E.p j, 0, none⟩)] W fun e w' => ∃ A c, e = .returned (.slice A nk c) ∧ Sl w' A nk 2 (cellsL encKey ks) ∧ New W w' from fun W hW => by
            have h := storeKeys_any (X j) i (s j) W (hsj.new_ hW)
            rw [hpx, hks] at h
            refine h.mono fun e w' ⟨v, he, ho, hn⟩ => ?_
            rw [hnk] at ho
            obtain ⟨A, c, rfl⟩ := own_shape ho
            exact ⟨A, c, he, own_sl ho, hn⟩)
          have HRC := Lib.hid (show ∀ W, New wr W → Calls Tryz.prog 14 #[.pointer (some ⟨E.q j, 0, none⟩)] W fun e w' => ∃ A c, e = .returned (.slice A nk c) ∧ Sl w' A nk 2 (cellsL encKey ks) ∧ New W w' from fun W hW => by
            have h := refKeys_any (R j) i (E.m j) (s j) W (hrj.new_ hW)
            rw [hqx, hks] at h
            refine h.mono fun e w' ⟨v, he, ho, hn⟩ => ?_
            rw [hnk] at ho
            obtain ⟨A, c, rfl⟩ := own_shape ho
            exact ⟨A, c, he, own_sl ho, hn⟩)
          have HVC := Lib.hid (show ∀ W, New wr W → Calls Tryz.prog 16 #[.pointer (some ⟨E.p j, 0, none⟩)] W fun e w' => e = .returned (.int .i64 (nv : Int)) ∧ New W w' from fun W hW => by
            have h := storeVersions_any (X j) i (s j) W (hsj.new_ hW)
            rwa [hpx, hnv] at h)
          have HVR := Lib.hid (show ∀ W, New wr W → Calls Tryz.prog 17 #[.pointer (some ⟨E.q j, 0, none⟩)] W fun e w' => e = .returned (.int .i64 (nv : Int)) ∧ New W w' from fun W hW => by
            have h := refVersions_any (R j) i (E.m j) (s j) W (hrj.new_ hW)
            rwa [hqx, hnv] at h)
          have HSH := Lib.hid (show ∀ W, New wr W → Calls Tryz.prog 18 #[.pointer (some ⟨E.p j, 0, none⟩)] W fun e w' => e = .returned (.int .i64 (mj : Int)) ∧ New W w' from fun W hW => by
            have h := storeShards_any (X j) i (s j) W (hsj.new_ hW)
            rwa [hpx, hpm, hmj] at h)
          rw [hmj] at cq
          have z1 : (0 : Int) ≤ (j : Int) := by omega
          have z2 : (j : Int) < 2 := by omega
          have z5 : ((nv : Int) != (nv : Int)) = false := by simp
          have z6 : ((mj : Int) != (mj : Int)) = false := by simp
          have HW := Lib.hid hw
          clear h7 h8 hrj hsj hpx hpm hqx hks hnk hmj hnv hw
          go_wp2
          go_region_held3 (fun w' => (w'.cell? ⟨E.b7, j, none⟩ = some (.pointer (some ⟨E.p j, 0, none⟩)) ∧ w'.cell? ⟨E.b8, j, none⟩ = some (.pointer (some ⟨E.q j, 0, none⟩)) ∧ w'.cell? ⟨E.q j, 0, none⟩ = some (.int .i64 (mj : Int))) ∧ New wr w') ((first | exact ⟨⟨‹_›, ‹_›, ‹_›⟩, (Mod.refl _ _).drew⟩ | (refine three_step' ?_ hwk; assumption))) ((first
            | (go_at_call 12; refine (HKC.out _ (And.right (by assumption))).mono ?_; rintro e wk ⟨A1, c1, rfl, hs1, hwk⟩; try (have hs2' := Sl.new_ hs2 hwk))
            | (go_at_call 14; refine (HRC.out _ (And.right (by assumption))).mono ?_; rintro e wk ⟨A2, c2, rfl, hs2, hwk⟩; try (have hs1' := Sl.new_ hs1 hwk))
            | (go_at_call 13; first | (refine (sameKeys_any _ _ nk _ _ ks _ hs1' hs2).mono ?_; rintro e wk ⟨rfl, hwk⟩) | (refine (sameKeys_any _ _ nk _ _ ks _ hs1 hs2').mono ?_; rintro e wk ⟨rfl, hwk⟩))
            | (go_at_call 16; refine (HVC.out _ (And.right (by assumption))).mono ?_; rintro e wk ⟨rfl, hwk⟩)
            | (go_at_call 17; refine (HVR.out _ (And.right (by assumption))).mono ?_; rintro e wk ⟨rfl, hwk⟩)
            | (go_at_call 18; refine (HSH.out _ (And.right (by assumption))).mono ?_; rintro e wk ⟨rfl, hwk⟩)))
          all_goals
            have hnn := And.right (a := (_ ∧ _ ∧ _)) ‹_ ∧ New wr _›
            go_wp2
            go_roundw
            case rel => exact ⟨j + 1, by omega, by go_num, New.trans HW.out hnn⟩
            case measure => simp [intOf]; omega
        · go_wp2
          go_ret
          exact ⟨rfl, New.trans hnz hw⟩
end Go.Proofs.YtfifalopbfopnaaGreatDoor
