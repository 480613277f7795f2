/- Words and walks, part 5 of 19. -/
import Derived.Test.YtkkaejbdekdljaaDoorProg
import Derived.Deep.QuietTactic
import Derived.BigQuiet
import Derived.Test.YtkkaejbdekdljaaDoorQ1
import Derived.Test.YtkkaejbdekdljaaDoorQ4
/- Walks: links.order. -/
set_option linter.unusedVariables false
set_option linter.unusedSimpArgs false
namespace Go.Proofs.YtkkaejbdekdljaaDoor
open Go.RowKit

theorem own_mod {w w' : World} {S : Nat → Prop} {B sz n : Nat} {e : TypeId} {v : Value} {xs : List Value} (h : w.ownsRow B e sz v n xs) (hm : Mod S w w') (hs : ∀ b, v.ownBlock = some b → ¬ S b) : w'.ownsRow B e sz v n xs := by
  refine ⟨h.1, ?_⟩
  rcases h.2 with hn | ⟨g, cap, cur, rfl, hg, hh, r⟩
  · exact .inl hn
  · refine .inr ⟨g, cap, cur, rfl, hg, ?_, r⟩
    have hlt : g < w.heap.size := by
      rcases Nat.lt_or_ge g w.heap.size with hl | hl
      · exact hl
      · rw [Array.getElem?_eq_none hl] at hh; cases hh
    rw [hm.block g hlt (hs g rfl)]
    exact hh
theorem Tryd.slt35 : SlT Tryd.prog 35 24 1 24 := ⟨Tryd.underlying35, ⟨.slice none 0 0, by kernel_rfl, rfl⟩, by decide, by decide⟩
theorem run_mk_slices {P : Program} {t e : TypeId} {bytes : Nat} {z0 : Value} (H : SlT P t e 1 bytes) (hz : (P.info? e).map (·.zero) = some (some z0)) (hz1 : z0.cells = #[z0]) (n : Nat) (hb : bytes * n ≤ 281474976710656) (hn : n ≤ 4294967296) (w : World) :
    (Instr.makeSlice t (.int .i64 (n : Int)) (.int .i64 (n : Int))).run P w = .ok (.slice (some ⟨w.heap.size, 0, none⟩) n n) (w.alloc (.cells (List.replicate n z0).toArray e)) := by
  obtain ⟨z, hi, hzs⟩ := H.info
  obtain ⟨i, hi0, hi1, hi2, hi3⟩ := info_parts hi
  rw [hi0] at hz
  simp at hz
  rw [hi1] at hz
  injection hz with hz
  subst hz
  have hbI : (bytes : Int) * (n : Int) ≤ 281474976710656 := by
    have h : ((bytes * n : Nat) : Int) ≤ 281474976710656 := by omega
    rwa [Int.natCast_mul] at h
  have := run_make (P := P) w t e i z H.und hi0 hi1 .i64 .i64 n n (by omega) (by omega) (by rw [hi3]; exact hbI) (by omega)
  simp only [Int.toNat_natCast] at this
  rw [this, hi2, hz1]
  congr 3
  apply Array.ext <;> simp [madeCells, Nat.mod_one]

/-- The edges' numbers so far. -/
structure Tables (w : World) (g1 g2 : Nat) (n : Nat) (l : List (Int × Int)) (ws : List Nat) (vs : List Value) : Prop where
  wlen : ws.length = n
  wat : ∀ i, i < n → at_ ws i = l.countP fun p => p.2.toNat == i
  wblk : Blk w g1 3 (nats ws)
  vblk : Blk w g2 24 vs
  rows : RowsOf w (g2 + 1) 3 1 vs ((List.range n).map fun i => ((succs l i).length, nats (succs l i)))

theorem Tables.step {wr w0 w1 : World} {g n x y : Nat} {l : List (Int × Int)} {ws : List Nat} {vs : List Value} {v : Value} {A' : Option Addr} {c' : Nat} (ht : Tables wr g (g + 1) n l ws vs) (hy : y < n) (hx : x < n) (hv : vs[x]? = some v)
    (hm0 : Mod (· = g) wr w0) (hb0 : Blk w0 g 3 (nats (ws.set y (at_ ws y + 1)))) (hg1 : w0.grownBy w1 v.ownBlock)
    (hown1 : w1.ownsRow (g + 1 + 1) 3 1 (.slice A' ((succs l x).length + 1) c') ((succs l x).length + 1) (nats (succs l x) ++ [.int .i64 (y : Int)]))
    (hat : (Value.slice A' ((succs l x).length + 1) c').ownBlock = v.ownBlock ∨ (Value.slice A' ((succs l x).length + 1) c').ownBlock = some w0.heap.size) :
    Tables (w1.setCell ⟨g + 1, x, none⟩ (.slice A' ((succs l x).length + 1) c')) g (g + 1) n (l ++ [((x : Int), (y : Int))]) (ws.set y (at_ ws y + 1)) (vs.set x (.slice A' ((succs l x).length + 1) c')) := by
  have hown0 := ht.rows.own x v ((succs l x).length, nats (succs l x)) hv (by simp [hx])
  have hvb : ∀ (i : Nat) (u : Value) (b : Nat), vs[i]? = some u → u.ownBlock = some b → g + 1 + 1 ≤ b := fun i u b hu hb => by
    have hi : i < vs.length := (List.getElem?_eq_some_iff.1 hu).1
    have := ht.rows.len
    have hx2 : i < ((List.range n).map fun i => ((succs l i).length, nats (succs l i))).length := by omega
    exact ((ht.rows.own i u _ hu (List.getElem?_eq_getElem hx2)).lt b hb).1
  have hm1 : Mod (fun b => v.ownBlock = some b) w0 w1 := Mod.of_grown hg1 (fun _ h => h)
  have hwl := ht.wlen
  refine ⟨by simp [hwl], fun i hi => ?_, ?_, ?_, ?_⟩
  · rw [at_set _ _ _ (by omega), List.countP_append]
    by_cases e : i = y
    · subst e; rw [put_same, ht.wat i hi]; simp
    · rw [put_other _ _ e, ht.wat i hi]; simp; omega
  · exact (hb0.kept hm1 (fun h => by have := hvb x v g hv h; omega)).far (by simp) _
  · have h0 : Blk w0 (g + 1) 24 vs := ht.vblk.kept hm0 (fun h => by omega)
    exact (h0.kept hm1 (fun h => by have := hvb x v (g + 1) hv h; omega)).set_ x _
  · have h0 : RowsOf w0 (g + 1 + 1) 3 1 vs ((List.range n).map fun i => ((succs l i).length, nats (succs l i))) := ht.rows.kept hm0 (fun i u b hu hb h => by have := hvb i u b hu hb; omega)
    have h1 := h0.upd (x := ((succs l x).length + 1, nats (succs l x) ++ [.int .i64 (y : Int)])) hv hg1 hown1 hat
    have h2 := h1.kept (Mod.set_ (S := (· = g + 1)) (Mod.refl _ w1) (p := ⟨g + 1, x, none⟩) (fun _ => rfl) (.slice A' ((succs l x).length + 1) c')) (fun i u b hu hb h => by
      by_cases e : i = x
      · subst e
        have hi : i < vs.length := (List.getElem?_eq_some_iff.1 hv).1
        rw [List.getElem?_set_self hi] at hu
        injection hu with hu
        subst hu
        have := (hown1.lt b hb).1
        omega
      · rw [List.getElem?_set_ne (Ne.symm e)] at hu
        have := hvb i u b hu hb
        omega)
    have e : ((List.range n).map fun i => ((succs l i).length, nats (succs l i))).set x ((succs l x).length + 1, nats (succs l x) ++ [.int .i64 (y : Int)]) = (List.range n).map fun i => ((succs (l ++ [((x : Int), (y : Int))]) i).length, nats (succs (l ++ [((x : Int), (y : Int))]) i)) := by
      refine List.ext_getElem (by simp) fun i h1 h2 => ?_
      simp at h1
      rw [List.getElem_set]
      by_cases e : x = i
      · subst e
        rw [if_pos rfl]
        simp [succs_snoc, nats]
      · rw [if_neg e]
        simp [succs_snoc, e]
    rw [e] at h2
    exact h2

/-- Which things stand, as the program's list of bools. -/
def stands (n : Nat) (out : List Nat) : List Value := (List.range n).map fun i => .bool (out.contains i)
theorem stands_at {n i : Nat} (out : List Nat) (h : i < n) : (stands n out)[i]? = some (.bool (out.contains i)) := by simp [stands, h]
theorem stands_set {n b : Nat} (out : List Nat) (h : b < n) : (stands n out).set b (.bool true) = stands n (out ++ [b]) := by
  refine List.ext_getElem (by simp [stands]) fun i h1 h2 => ?_
  rw [List.getElem_set]
  by_cases e : b = i
  · subst e; simp [stands]
  · rw [if_neg e]; simp [stands, Ne.symm e]
/-- Where an order stands: how many edges each thing waits for, and which stand. -/
structure Sits (w : World) (gw gd n : Nat) (l : List (Int × Int)) (out ws : List Nat) : Prop where
  wlen : ws.length = n
  wat : ∀ i, i < n → at_ ws i = cnt l out i
  wblk : Blk w gw 3 (nats ws)
  dblk : Blk w gd 4 (stands n out)
theorem Sits.new_ {w w' : World} {gw gd n : Nat} {l : List (Int × Int)} {out ws : List Nat} (h : Sits w gw gd n l out ws) (hm : New w w') : Sits w' gw gd n l out ws :=
  ⟨h.wlen, h.wat, h.wblk.new_ hm, h.dblk.new_ hm⟩
/-- What links.order answers. -/
def OrdPost (w : World) (n : Nat) (l : List (Int × Int)) (pr : Nat → Int) (e : Ending) (w' : World) : Prop :=
  ∃ v b, e = .returned (.tuple #[v, .bool b]) ∧ b = decide ((ordered l pr n).length = n) ∧ w'.ownsRow w.heap.size 3 1 v (ordered l pr n).length (nats (ordered l pr n)) ∧ New w w'
def prioOf (prio : List Int) (i : Nat) : Int := prio.getD i 0
theorem Sl.prio {w : World} {A : Option Addr} {n : Nat} {prio : List Int} (h : Sl w A n 1 (nums prio)) {k : Nat} (hk : k < n) : ∃ b off, A = some ⟨b, off, none⟩ ∧ ∀ i, i < n → w.cell? ⟨b, off + i, none⟩ = some (.int .i64 (prioOf prio i)) := by
  obtain ⟨b, off, e, hc⟩ := h.cells (by omega)
  have hl : prio.length = n := by have := h.len; simpa [nums] using this
  exact ⟨b, off, e, fun i hi => hc i _ (by simp [nums, prioOf, List.getD_eq_getElem?_getD, List.getElem?_eq_getElem (show i < prio.length by omega)])⟩

set_option maxRecDepth 100000 in
set_option maxHeartbeats 4000000 in
theorem order_any (n : Nat) (A P : Option Addr) (m c pn pc : Nat) (l : List (Int × Int)) (prio : List Int) (w : World) (hn : n ≤ 4096) (ha : Sl w A m 2 (twos l)) (hin : ∀ p, p ∈ l → 0 ≤ p.1 ∧ p.1 < n ∧ 0 ≤ p.2 ∧ p.2 < n)
    (hp : Sl w P n 1 (nums prio)) (hm4 : m ≤ 4294967296) :
    Calls Tryd.prog 47 #[.int .i64 (n : Int), .slice A m c, .slice P n pc] w (OrdPost w n l (prioOf prio)) := by
  have hl : l.length = m := by have := ha.len; rw [twos_length] at this; omega
  have HL := Lib.hid hl
  have HI := Lib.hid hin
  clear hl hin
  have hmk := run_mk_ints Tryd.slt24 (by kernel_rfl) n (by omega)
  have hmk2 := run_mk_slices (z0 := .slice none 0 0) Tryd.slt35 (by kernel_rfl) rfl n (by omega) (by omega)
  have hmk3 := run_mk_slices (z0 := .bool false) (bytes := 1) (e := 4) (t := 110) ⟨Tryd.underlying110, ⟨.bool false, by kernel_rfl, rfl⟩, by decide, by decide⟩ (by kernel_rfl) rfl n (by omega) (by omega)
  go_enter Tryd.func47, Tryd.ntmps47
  go_wp2
  go_step3
  go_wp2
  go_loopw [11, 24] (fun _ i wr => ∃ (k : Nat) (ws : List Nat) (vs : List Value), k ≤ m ∧ i = .int .i64 (k : Int) ∧ Tables wr w.heap.size (w.heap.size + 1) n (l.take k) ws vs ∧ New w wr) (fun _ i _ => m - (intOf i).toNat)
  case atStart => exact ⟨0, _, _, Nat.zero_le _, rfl, ⟨by simp, fun i hi => by simp [at_repl], (Blk.new _ _ _).alloc _, by have := Blk.new (w.alloc (.cells (nats (List.replicate n 0)).toArray 3)) 24 (List.replicate n (.slice none 0 0)); simpa using this, by
    have := RowsOf.nil (((w.alloc (.cells (nats (List.replicate n 0)).toArray 3))).alloc (.cells (List.replicate n (.slice none 0 0)).toArray 24)) (w.heap.size + 1 + 1) 3 1 n
    have e : (List.range n).map (fun i => ((succs (l.take 0) i).length, nats (succs (l.take 0) i))) = List.replicate n (0, []) := by
      simp [succs, nats, List.map_const']
    rw [e]; exact this⟩, ((Mod.refl _ _).alloc _).alloc _⟩
  case round =>
    obtain ⟨k, ws, vs, hk, rfl, ht, hw⟩ := hrel
    have HT := Lib.hid ht
    have hg1 := ht.wblk
    have hg2 := ht.vblk
    clear ht
    by_cases hlt : k < m
    · obtain ⟨b, off, p, rfl, hp, hc0, hc1⟩ := (ha.new_ hw).two hlt
      have hpm : p ∈ l := List.mem_of_getElem? hp
      have hpin := HI.out p hpm
      obtain ⟨x, y⟩ := p
      obtain ⟨x, rfl⟩ := Int.eq_ofNat_of_zero_le hpin.1
      obtain ⟨y, rfl⟩ := Int.eq_ofNat_of_zero_le hpin.2.2.1
      have hx : x < n := by have := hpin.2.1; simpa using this
      have hy : y < n := by have := hpin.2.2.2; simpa using this
      have HP := Lib.hid hp
      have HPM := Lib.hid hpm
      clear hp hpm hpin
      have cw := hg1.nat (k := y) (by have := HT.out.wlen; omega)
      have fw := hg1.frozen y
      have hvl : vs.length = n := by have := HT.out.rows.len; simpa using this
      obtain ⟨v, hv⟩ : ∃ v, vs[x]? = some v := ⟨_, List.getElem?_eq_getElem (by omega)⟩
      have hown := HT.out.rows.own x _ ((succs (l.take k) x).length, nats (succs (l.take k) x)) hv (by simp [hx])
      have cv := hg2.cell x
      rw [hv] at cv
      have fv := hg2.frozen x
      have HV := Lib.hid hv
      have HVL := Lib.hid hvl
      clear hv hvl
      have hs1 := hg1.lt
      have hs2 := hg2.lt
      have hwz : at_ ws y ≤ 4294967296 := by
        have h1 := HT.out.wat y hy
        have h2 : (l.take k).countP (fun p => p.2.toNat == y) ≤ (l.take k).length := List.countP_le_length
        have h3 : (l.take k).length ≤ k := List.length_take_le _ _
        omega
      go_wp2
      have hp0 : Blk ((wr.setCell ⟨w.heap.size, y, none⟩ (.int .i64 ((at_ ws y : Int) + 1))).alloc (.cells #[.int .i64 (x : Int), .int .i64 (y : Int)] 67)) wr.heap.size 67 [.int .i64 (x : Int), .int .i64 (y : Int)] := by
        have := Blk.new (wr.setCell ⟨w.heap.size, y, none⟩ (.int .i64 ((at_ ws y : Int) + 1))) 67 [.int .i64 (x : Int), .int .i64 (y : Int)]
        simpa using this
      have HP0 := Lib.hid hp0
      clear hp0
      go_region_law ((
          refine step_app Tryd.slt24 rfl (.tmp 42) (.tmp 45) rfl (w.heap.size + 1 + 1) v _ _ rfl (own_mod (S := (· = w.heap.size)) hown ?hm ?hs) ⟨wr.heap.size + 1, 0, none⟩ 1 1 [.int .i64 (y : Int)] rfl rfl ?hn ?h1 ?hb ?hB ?_
          case hm => exact ((((Mod.refl (· = w.heap.size) wr).set_ (p := ⟨w.heap.size, y, none⟩) (fun _ => rfl) _).alloc _).alloc _).drew
          case hs => exact fun b hb => by have := (hown.lt b hb).1; omega
          case hn => exact by have := cells_new ((wr.setCell ⟨w.heap.size, y, none⟩ (.int .i64 ((at_ ws y : Int) + 1))).alloc (.cells #[.int .i64 (x : Int), .int .i64 (y : Int)] 67)) [.int .i64 (y : Int)] 3; simpa using this
          case h1 => simp [Value.oneCell']
          case hb =>
            have h1 : (succs (l.take k) x).length ≤ (l.take k).length := by unfold succs; rw [List.length_map]; exact List.length_filter_le _ _
            have h3 : (l.take k).length ≤ k := List.length_take_le _ _
            omega
          case hB => simp; omega
          intro v' w1 hown1 hg1 hat1
          obtain ⟨A', c', rfl⟩ := own_shape hown1
          have hb2 : Blk w1 (w.heap.size + 1) 24 vs := Blk.kept (((hg2.far (p := ⟨w.heap.size, y, none⟩) (by simp) _).alloc _).alloc _).drew (Mod.of_grown (S := fun b => v.ownBlock = some b) hg1 (fun _ h => h)) (fun hb => by have := (hown.lt _ hb).1; omega)
          have cv1 := hb2.cell x
          rw [HV.out] at cv1
          have fv1 := hb2.frozen x
          have hbp : Blk w1 wr.heap.size 67 [.int .i64 (x : Int), .int .i64 (y : Int)] := Blk.kept (HP0.out.alloc _).drew (Mod.of_grown (S := fun b => v.ownBlock = some b) hg1 (fun _ h => h)) (fun hb => by have := (hown.lt _ (by simpa using hb)).2; simp at this)
          have cp0 := hbp.cell 0
          have cp1 := hbp.cell 1
          simp only [List.getElem?_cons_zero, List.getElem?_cons_succ] at cp0 cp1
          have HO := Lib.hid hown1
          have HG := Lib.hid hg1
          have HA := Lib.hid hat1
          have HB := Lib.hid hb2
          clear hown1 hg1 hat1 hb2 hbp))
      all_goals
        go_wp2
        go_roundw
        case rel =>
          have e1 : l.take (k + 1) = l.take k ++ [((x : Int), (y : Int))] := by rw [List.take_add_one, HP.out]; rfl
          have m0 : Mod (· = w.heap.size) wr ((((wr.setCell ⟨w.heap.size, y, none⟩ (.int .i64 ((at_ ws y : Int) + 1))).alloc (.cells #[.int .i64 (x : Int), .int .i64 (y : Int)] 67)).alloc (.cells #[.int .i64 (y : Int)] 3)).drew) := ((((Mod.refl (· = w.heap.size) wr).set_ (p := ⟨w.heap.size, y, none⟩) (fun _ => rfl) _).alloc _).alloc _).drew
          have b0 : Blk ((((wr.setCell ⟨w.heap.size, y, none⟩ (.int .i64 ((at_ ws y : Int) + 1))).alloc (.cells #[.int .i64 (x : Int), .int .i64 (y : Int)] 67)).alloc (.cells #[.int .i64 (y : Int)] 3)).drew) w.heap.size 3 (nats (ws.set y (at_ ws y + 1))) := by
            have := (((hg1.set_ y (.int .i64 ((at_ ws y + 1 : Nat) : Int))).alloc (.cells #[.int .i64 (x : Int), .int .i64 (y : Int)] 67)).alloc (.cells #[.int .i64 (y : Int)] 3)).drew
            rw [nats_set] at this
            simpa using this
          refine ⟨k + 1, _, _, by omega, by go_num, by rw [e1]; exact HT.out.step hy hx HV.out m0 b0 HG.out HO.out HA.out, ?_⟩
          have n1 : New w w1 := Mod.trans (Mod.trans hw m0 (fun i hi h => by omega)) (Mod.of_grown (S := fun b => v.ownBlock = some b) HG.out (fun _ h => h)) (fun i hi h => by have := (hown.lt i h).1; omega)
          exact n1.set_ (fun h => by simp at h; omega) _
        case measure => simp [intOf]; omega
    · obtain ⟨wo, rfl⟩ : ∃ wo : World, wo = wr := ⟨_, rfl⟩
      obtain ⟨ws0, rfl⟩ : ∃ x, x = ws := ⟨_, rfl⟩
      have hT0 : Tables wo w.heap.size (w.heap.size + 1) n l ws0 vs := by have := HT.out; rwa [List.take_of_length_le (by have := HL.out; omega)] at this
      have hs1 := hg1.lt
      have hs2 := hg2.lt
      have hg1d := hg1.alloc (.cells (List.replicate n (Value.bool false)).toArray 4)
      have hgd : Blk (wo.alloc (.cells (List.replicate n (Value.bool false)).toArray 4)) wo.heap.size 4 (stands n []) := by
        have e : stands n [] = List.replicate n (Value.bool false) := by simp [stands, List.map_const']
        rw [e]; exact Blk.new _ _ _
      have HT0 := Lib.hid hT0
      have HGD := Lib.hid hgd
      clear hT0 hgd HT
      go_wp2
      go_step3
      go_wp2
      have HW0 := Lib.hid ((Mod.refl (fun b => b = w.heap.size ∨ b = wo.heap.size) (wo.alloc (.cells (List.replicate n (Value.bool false)).toArray 4))))
      go_loopg [12, 52] n (fun gk v i wl => ∃ (j : Nat) (out ws : List Nat), gk = n - j ∧ j ≤ n ∧ i = .int .i64 (j : Int) ∧ wl.ownsRow (wo.heap.size + 1) 3 1 v j (nats out) ∧ out.length = j ∧ Stand n out ∧ run l (prioOf prio) n (n - j) out = ordered l (prioOf prio) n ∧
        Sits wl w.heap.size wo.heap.size n l out ws ∧ Mod (fun b => b = w.heap.size ∨ b = wo.heap.size) (wo.alloc (.cells (List.replicate n (Value.bool false)).toArray 4)) wl)
      case atStart => exact ⟨0, [], ws0, by omega, Nat.zero_le _, rfl, own_nil _ _ _ _, rfl, ⟨fun b hb => by simp at hb, by simp⟩, rfl, ⟨HT0.out.wlen, fun i hi => by rw [cnt_nil]; exact HT0.out.wat i hi, hg1d, HGD.out⟩, by have := HW0.out; simpa using this⟩
      case round =>
        obtain ⟨j, out, ws, hgk, hj, rfl, hown, hol, hst, hrun, hsit, hwl⟩ := hrel
        obtain ⟨OA, oc, rfl⟩ := own_shape hown
        have HGK := Lib.hid hgk
        have HOL := Lib.hid hol
        have HST := Lib.hid hst
        have HRUN := Lib.hid hrun
        have HSIT := Lib.hid hsit
        have HWL := Lib.hid hwl
        clear hgk hol hst hrun hsit hwl
        by_cases hjn : j < n
        · go_wp2
          obtain ⟨wl, rfl⟩ : ∃ wl : World, wl = wr := ⟨_, rfl⟩
          have hnw : New w wl := Mod.trans (hw.alloc _) HWL.out (fun i hi h => by omega)
          have HNW := Lib.hid hnw
          clear hnw
          go_loopw [14, 55] (fun best i wb => ∃ (k : Nat) (q : Int), k ≤ n ∧ i = .int .i64 (k : Int) ∧ best = .int .i64 q ∧ q = pickInt (pick (ready l out) (prioOf prio) k) ∧ New wl wb) (fun _ i _ => n - (intOf i).toNat)
          case atStart => exact ⟨0, -1, Nat.zero_le _, rfl, rfl, rfl, Mod.refl _ _⟩
          case round =>
            obtain ⟨i, q, hi, rfl, rfl, hq, hnb⟩ := hrel
            by_cases hin : i < n
            · have hS := HSIT.out.new_ hnb
              have cd := hS.dblk.cell i
              rw [stands_at out hin] at cd
              have cwt := hS.wblk.nat (k := i) (by have := hS.wlen; omega)
              rw [hS.wat i hin] at cwt
              obtain ⟨pb, poff, rfl, hpr⟩ := (hp.new_ (New.trans HNW.out hnb)).prio hin
              have cp := hpr i hin
              have HPR := Lib.hid hpr
              have HQ := Lib.hid hq
              clear hS hpr hq
              cases hc : out.contains i with
              | true =>
                have HS := Lib.hid (show pick (ready l out) (prioOf prio) (i + 1) = pick (ready l out) (prioOf prio) i from pick_skip (by simp only [ready, hc]; rfl))
                rw [hc] at cd
                clear hc
                go_wp2
                go_quiet (fail)
                go_wp2
                go_roundw
                case rel => exact ⟨i + 1, q, by omega, by go_num, rfl, by rw [HQ.out, HS.out], hnb.drewN _⟩
                case measure => simp [intOf]; omega
              | false =>
                rw [hc] at cd
                by_cases h0 : cnt l out i = 0
                · have hr : ready l out i = true := by simp only [ready, hc, h0]; rfl
                  have HR := Lib.hid hr
                  rw [h0] at cwt
                  clear hc h0 hr
                  cases hpk : pick (ready l out) (prioOf prio) i with
                  | none =>
                    obtain rfl : q = -1 := by rw [HQ.out, hpk]; rfl
                    have HS := Lib.hid (pick_first (prio := prioOf prio) HR.out hpk)
                    clear hpk
                    go_wp2
                    go_quiet (fail)
                    go_wp2
                    go_roundw
                    case rel => exact ⟨i + 1, i, by omega, by go_num, rfl, by rw [HS.out]; rfl, hnb.drewN _⟩
                    case measure => simp [intOf]; omega
                  | some b =>
                    obtain rfl : q = b := by rw [HQ.out, hpk]; rfl
                    have hbn : b < n := by have := (pick_lt hpk).1; omega
                    have cb := HPR.out b hbn
                    by_cases hbi : prioOf prio b < prioOf prio i
                    · have HS := Lib.hid (pick_more (prio := prioOf prio) HR.out hpk hbi)
                      clear hpk
                      go_wp2
                      go_quiet (fail)
                      go_wp2
                      go_roundw
                      case rel => exact ⟨i + 1, i, by omega, by go_num, rfl, by rw [HS.out]; rfl, hnb.drewN _⟩
                      case measure => simp [intOf]; omega
                    · have HS := Lib.hid (pick_stay (r := ready l out) (prio := prioOf prio) hpk hbi)
                      clear hpk
                      go_wp2
                      go_quiet (fail)
                      go_wp2
                      go_roundw
                      case rel => exact ⟨i + 1, b, by omega, by go_num, rfl, by rw [HS.out]; rfl, hnb.drewN _⟩
                      case measure => simp [intOf]; omega
                · have HS := Lib.hid (show pick (ready l out) (prioOf prio) (i + 1) = pick (ready l out) (prioOf prio) i from pick_skip (by simp [ready, h0]))
                  have h0' : ((cnt l out i : Int) == 0) = false := by simp; omega
                  have HZ := Lib.hid h0
                  clear hc h0
                  go_wp2
                  go_quiet (fail)
                  go_wp2
                  go_roundw
                  case rel => exact ⟨i + 1, q, by omega, by go_num, rfl, by rw [HQ.out, HS.out], hnb.drewN _⟩
                  case measure => simp [intOf]; omega
            · obtain rfl : i = n := by omega
              cases hpk : pick (ready l out) (prioOf prio) i with
              | none =>
                obtain rfl : q = -1 := by rw [hq, hpk]; rfl
                have hfin : ordered l (prioOf prio) i = out := by rw [← HRUN.out, run_none hpk]
                have hlen : ((j : Int) == (i : Int)) = false := by simp; omega
                have HFIN := Lib.hid hfin
                clear hq hpk hfin
                go_wp2
                try rw [Exit.noGoto_ret]
                go_ret2
                exact ⟨_, _, rfl, by rw [HFIN.out, HOL.out]; simp; omega, by rw [HFIN.out, HOL.out]; exact own_mono (own_new hown hnb) (by have := hw.size; omega), New.trans HNW.out hnb⟩
              | some b =>
                obtain rfl : q = b := by rw [hq, hpk]; rfl
                have hbn := (pick_lt hpk).1
                have HRD := Lib.hid (ready_not (pick_lt hpk).2)
                have HPK := Lib.hid hpk
                have hS := HSIT.out.new_ hnb
                have cd := hS.dblk.cell b
                rw [stands_at out hbn] at cd
                have fd := hS.dblk.frozen b
                have hgdl := hS.dblk.lt
                have hgwl := hS.wblk.lt
                have hV : Blk wr (w.heap.size + 1) 24 vs := ((hg2.alloc _).kept HWL.out (fun h => by omega)).new_ hnb
                obtain ⟨v, hv⟩ : ∃ v, vs[b]? = some v := ⟨_, List.getElem?_eq_getElem (by have := HT0.out.rows.len; simp at this; omega)⟩
                have HS := Lib.hid hS
                have HV := Lib.hid hV
                have HVB := Lib.hid hv
                have hown1 := own_mod (S := (· = wo.heap.size)) (own_new hown hnb) (mod_set wr wo.heap.size b (.bool true)) (fun x hx => by have := (hown.lt x hx).1; omega)
                clear hq hpk hS hV hv
                go_wp2_with (at_builtin; refine wpList_app Tryd.slt24 rfl (.tmp 92) (.tmp 94) rfl (wo.heap.size + 1) _ j _ rfl (hown1.alloc _) ⟨wr.heap.size, 0, none⟩ 1 1 [.int .i64 (b : Int)] rfl rfl ?c0 ?c1 ?c2 ?c3 ?_)
                case c0 => have := cells_new (wr.setCell ⟨wo.heap.size, b, none⟩ (.bool true)) [.int .i64 (b : Int)] 3; simpa using this
                case c1 => simp [Value.oneCell']
                case c2 => omega
                case c3 => simp; omega
                intro v' w2 hown2 hg2' hat2
                have m1 : Mod (· = wo.heap.size) wr ((wr.setCell ⟨wo.heap.size, b, none⟩ (.bool true)).alloc (.cells #[.int .i64 (b : Int)] 3)) := (mod_set wr wo.heap.size b (.bool true)).alloc _
                have m2 : Mod (fun x => (Value.slice OA j oc).ownBlock = some x) ((wr.setCell ⟨wo.heap.size, b, none⟩ (.bool true)).alloc (.cells #[.int .i64 (b : Int)] 3)) w2 := Mod.of_grown hg2' (fun _ h => h)
                have hge : ∀ x, (Value.slice OA j oc).ownBlock = some x → wo.heap.size + 1 ≤ x := fun x hx => (hown.lt x hx).1
                have hV2 : Blk w2 (w.heap.size + 1) 24 vs := (HV.out.kept m1 (fun h => by omega)).kept m2 (fun h => by have := hge _ h; omega)
                have hD2 : Blk w2 wo.heap.size 4 (stands i (out ++ [b])) := by
                  have := ((HS.out.dblk.set_ b (.bool true)).alloc (.cells #[.int .i64 (b : Int)] 3)).kept m2 (fun h => by have := hge _ h; omega)
                  rwa [stands_set _ hbn] at this
                have hW2 : Blk w2 w.heap.size 3 (nats ws) := (HS.out.wblk.kept m1 (fun h => by omega)).kept m2 (fun h => by have := hge _ h; omega)
                have hrow0 := HT0.out.rows.own b v ((succs l b).length, nats (succs l b)) HVB.out (by simp [hbn])
                have hrlt := fun x (hx : v.ownBlock = some x) => hrow0.lt x hx
                have hrow : w2.ownsRow (w.heap.size + 1 + 1) 3 1 v (succs l b).length (nats (succs l b)) := by
                  have r1 := own_mod (own_mod (own_new (own_new hrow0 ((Mod.refl (fun _ => False) wo).alloc (.cells (List.replicate i (Value.bool false)).toArray 4))) (Mod.refl _ _)) HWL.out (fun x hx h => by have := hrlt x hx; omega)) hnb (fun x hx h => h)
                  exact own_mod (own_mod r1 m1 (fun x hx h => by have := hrlt x hx; omega)) m2 (fun x hx h => by have := hrlt x hx; have := hge x h; omega)
                obtain ⟨RA, rc, rfl⟩ := own_shape hrow
                have cv2 := hV2.cell b
                rw [HVB.out] at cv2
                have hsl : (succs l b).length ≤ m := by
                  have h1 : (succs l b).length ≤ l.length := by unfold succs; rw [List.length_map]; exact List.length_filter_le _ _
                  have := HL.out
                  omega
                have HV2 := Lib.hid hV2
                have HD2 := Lib.hid hD2
                have HO2 := Lib.hid hown2
                have HM1 := Lib.hid m1
                have HM2 := Lib.hid m2
                have hgwl2 := hW2.lt
                clear hV2 hD2 hown2 m1 m2 hg2' hrow0 hat2 hown1 cd fd
                go_wp2
                go_loopw [17, 101] (fun _ i' wi => ∃ (t : Nat) (ws' : List Nat), t ≤ (succs l b).length ∧ i' = .int .i64 (t : Int) ∧ ws'.length = i ∧ (∀ z, z < i → at_ ws' z + ((succs l b).take t).count z = cnt l out z) ∧ Blk wi w.heap.size 3 (nats ws') ∧ Mod (· = w.heap.size) w2 wi) (fun _ i' _ => (succs l b).length - (intOf i').toNat)
                case atStart => exact ⟨0, ws, Nat.zero_le _, rfl, HS.out.wlen, fun z hz => by simp; exact HS.out.wat z hz, hW2, Mod.refl _ _⟩
                case round =>
                  obtain ⟨t, ws', ht, rfl, hwl', hwz, hwb, hmi⟩ := hrel
                  have HWL' := Lib.hid hwl'
                  have HWZ := Lib.hid hwz
                  clear hwl' hwz
                  by_cases htl : t < (succs l b).length
                  · obtain ⟨g, rfl, hgB, hgl⟩ := own_form hrow (by omega)
                    have hrow3 := own_mod hrow hmi (fun x hx h => by have := hrlt x hx; omega)
                    have cr := own_nat hrow3 htl
                    obtain ⟨x, hx⟩ : ∃ x, (succs l b)[t]? = some x := ⟨_, List.getElem?_eq_getElem htl⟩
                    have hxa : at_ (succs l b) t = x := by simp [at_, List.getD_eq_getElem?_getD, hx]
                    rw [hxa] at cr
                    have hxn : x < i := succs_lt HI.out (List.mem_of_getElem? hx)
                    have cx := hwb.nat (k := x) (by have := HWL'.out; omega)
                    have fx := hwb.frozen x
                    have hp1 := succs_pos HRD.out hx
                    have hp2 := HWZ.out x hxn
                    have hp3 : 1 ≤ at_ ws' x := by omega
                    have hp4 : at_ ws' x ≤ m := by
                      have h1 : cnt l out x ≤ l.length := List.countP_le_length
                      have := HL.out
                      omega
                    have HX := Lib.hid hx
                    clear hx hxa hp1 hp2 hrow3
                    go_wp2
                    go_roundw
                    case rel => exact ⟨t + 1, ws'.set x (at_ ws' x - 1), by omega, by go_num, by simp; exact HWL'.out, fun z hz => by
                      rw [at_set _ _ _ (by have := HWL'.out; omega), count_take_succ _ _ _ z HX.out]
                      have h1 := HWZ.out z hz
                      by_cases e : z = x
                      · subst e; rw [put_same, if_pos rfl]; omega
                      · rw [put_other _ _ e, if_neg (fun h => e h.symm)]; omega, by
                      have := hwb.set_ x (.int .i64 ((at_ ws' x - 1 : Nat) : Int))
                      rw [nats_set] at this
                      have e : ((at_ ws' x - 1 : Nat) : Int) = (at_ ws' x : Int) - 1 := by omega
                      rw [e] at this
                      exact this, Mod.trans hmi (mod_set _ _ _ _) (fun _ _ h => h)⟩
                    case measure => simp [intOf]; omega
                  · go_wp2
                    go_roundg (i - (j + 1))
                    case measure => have := HGK.out; omega
                    case rel => exact ⟨j + 1, out ++ [b], ws', rfl, by omega, by go_num, by
                      rw [show nats (out ++ [b]) = nats out ++ [.int .i64 (b : Int)] from by simp [nats]]
                      exact own_mod HO2.out hmi (fun x hx h => by have := (HO2.out.lt x hx).1; omega), by simp; exact HOL.out, HST.out.snoc hbn HRD.out, by
                      rw [← HRUN.out, show i - j = (i - (j + 1)) + 1 from by omega, run_some HPK.out], ⟨HWL'.out, fun z hz => by
                        have h1 := HWZ.out z hz
                        rw [List.take_of_length_le (by omega), succs_count] at h1
                        have h2 := cnt_snoc (l := l) HRD.out z
                        omega, hwb, HD2.out.kept hmi (fun h => by omega)⟩, by
                      have q1 := Mod.trans HWL.out hnb (fun _ _ h => h.elim)
                      have q2 := Mod.trans q1 HM1.out (fun _ _ h => .inr h)
                      have q3 := Mod.trans q2 HM2.out (fun x hx h => by have := hge x h; simp at hx; omega)
                      exact Mod.trans q3 hmi (fun _ _ h => .inl h)⟩
        · obtain rfl : j = n := by omega
          have hfin : ordered l (prioOf prio) j = out := by rw [← HRUN.out]; simp [run]
          have hlen : ((j : Int) == (j : Int)) = true := by simp
          have HFIN := Lib.hid hfin
          clear hfin
          go_wp2
          try rw [Exit.noGoto_ret]
          go_ret2
          exact ⟨_, _, rfl, by rw [HFIN.out, HOL.out]; simp, by rw [HFIN.out, HOL.out]; exact own_mono hown (by have := hw.size; omega), Mod.trans (hw.alloc _) HWL.out (fun i hi h => by omega)⟩
end Go.Proofs.YtkkaejbdekdljaaDoor
/- Walks: links.Order. -/
set_option linter.unusedVariables false
set_option linter.unusedSimpArgs false
namespace Go.Proofs.YtkkaejbdekdljaaDoor
open Go.RowKit

/-- The error of Order: its number, its place. -/
def ordErr (n : Int) (l : List (Int × Int)) (pn : Nat) (prio : List Int) : Int × Int :=
  if n < 0 then (1, 0) else if 4096 < n then (5, 0) else if (pn : Int) < n then (2, 0) else if n < (pn : Int) then (3, 0) else
  match lostFrom n.toNat 0 l with
  | some k => (10, (k : Int))
  | none => if (ordered l (prioOf prio) n.toNat).length = n.toNat then (0, 0) else (12, 0)
/-- What Order answers. -/
def ordOut (n : Int) (l : List (Int × Int)) (pn : Nat) (prio : List Int) : List Nat := if (ordErr n l pn prio).1 = 0 then ordered l (prioOf prio) n.toNat else []
def OrderPost (w : World) (n : Int) (l : List (Int × Int)) (pn : Nat) (prio : List Int) (e : Ending) (w' : World) : Prop :=
  ∃ v ev, e = .returned (.tuple #[v, ev]) ∧ ErrIs ev (ordErr n l pn prio).1 0 (ordErr n l pn prio).2 ∧ w'.ownsRow w.heap.size 3 1 v (ordOut n l pn prio).length (nats (ordOut n l pn prio)) ∧ New w w'
theorem order_bad {w : World} {n : Int} {l : List (Int × Int)} {pn : Nat} {prio : List Int} {ev : Value} {a c : Int} (h : ordErr n l pn prio = (a, c)) (ha : a ≠ 0) (he : ErrIs ev a 0 c) : ∀ w', New w w' → OrderPost w n l pn prio (.returned (.tuple #[.slice none 0 0, ev])) w' := fun w' hw =>
  ⟨_, _, rfl, by rw [h]; exact he, by have e : ordOut n l pn prio = [] := by simp [ordOut, h, ha]
                                      rw [e]; exact own_nil _ _ _ _, hw⟩

set_option maxRecDepth 100000 in
set_option maxHeartbeats 1000000 in
theorem linksOrder_any (n : Int) (A P : Option Addr) (m c pn pc : Nat) (l : List (Int × Int)) (prio : List Int) (w : World) (ha : Sl w A m 2 (twos l)) (hp : Sl w P pn 1 (nums prio)) (hm4 : m ≤ 4294967296) :
    Calls Tryd.prog 17 #[.int .i64 n, .slice A m c, .slice P pn pc] w (OrderPost w n l pn prio) := by
  have hpm := hp.le
  by_cases h1 : n < 0
  · have hs := fun w => sized_any n w
    simp only [if_pos h1] at hs
    have HH := Lib.hid (order_bad (w := w) (n := n) (l := l) (pn := pn) (prio := prio) (a := 1) (c := 0) (by simp [ordErr, h1]) (by decide) (.inr ⟨by omega, by omega, .ref 1⟩))
    have HS := Lib.hid hs
    clear hs
    go_enter Tryd.func17, Tryd.ntmps17
    go_wp2_with (go_at_call 37; refine (HS.out _).mono ?_; rintro e w1 ⟨rfl, hw1⟩)
    go_ret2
    exact HH.out _ hw1
  · by_cases h2 : 4096 < n
    · have hs := fun w => sized_any n w
      simp only [if_neg h1, if_pos h2] at hs
      have HH := Lib.hid (order_bad (w := w) (n := n) (l := l) (pn := pn) (prio := prio) (a := 5) (c := 0) (by simp [ordErr, h1, h2]) (by decide) (.inr ⟨by omega, by omega, .ref 5⟩))
      have HS := Lib.hid hs
      clear hs
      go_enter Tryd.func17, Tryd.ntmps17
      go_wp2_with (go_at_call 37; refine (HS.out _).mono ?_; rintro e w1 ⟨rfl, hw1⟩)
      go_ret2
      exact HH.out _ hw1
    · obtain ⟨n, rfl⟩ := Int.eq_ofNat_of_zero_le (Int.not_lt.1 h1)
      have hn : n ≤ 4096 := by omega
      have hs := fun w => sized_any (n : Int) w
      simp only [if_neg h1, if_neg h2] at hs
      have HS := Lib.hid hs
      clear hs
      by_cases h3 : pn < n
      · have HH := Lib.hid (order_bad (w := w) (n := (n : Int)) (l := l) (pn := pn) (prio := prio) (a := 2) (c := 0) (by unfold ordErr; rw [if_neg h1, if_neg h2, if_pos (by omega)]) (by decide) (.inr ⟨by omega, by omega, .ref 2⟩))
        go_enter Tryd.func17, Tryd.ntmps17
        go_wp2_with (go_at_call 37; refine (HS.out _).mono ?_; rintro e w1 ⟨rfl, hw1⟩)
        go_ret2
        exact HH.out _ hw1
      · by_cases h4 : n < pn
        · have HH := Lib.hid (order_bad (w := w) (n := (n : Int)) (l := l) (pn := pn) (prio := prio) (a := 3) (c := 0) (by unfold ordErr; rw [if_neg h1, if_neg h2, if_neg (by omega), if_pos (by omega)]) (by decide) (.inr ⟨by omega, by omega, .ref 3⟩))
          go_enter Tryd.func17, Tryd.ntmps17
          go_wp2_with (go_at_call 37; refine (HS.out _).mono ?_; rintro e w1 ⟨rfl, hw1⟩)
          go_ret2
          exact HH.out _ hw1
        · obtain rfl : pn = n := by omega
          cases hlost : lostFrom pn 0 l with
          | some k =>
            have HH := Lib.hid (order_bad (w := w) (n := (pn : Int)) (l := l) (pn := pn) (prio := prio) (a := 10) (c := k) (by unfold ordErr; rw [if_neg h1, if_neg h2, if_neg (by omega), if_neg (by omega)]; simp [hlost]) (by decide) (.inr ⟨by omega, by omega, .fault 10 0 k⟩))
            have hna := fun w ha => named_any pn A m c l w hn ha
            simp only [hlost, lostErr] at hna
            have HN := Lib.hid hna
            clear hna hlost
            go_enter Tryd.func17, Tryd.ntmps17
            go_wp2_with (first
              | (go_at_call 37; refine (HS.out _).mono ?_; rintro e w1 ⟨rfl, hw1⟩)
              | (go_at_call 38; refine (HN.out _ (ha.new_ hw1)).mono ?_; rintro e w2 ⟨rfl, hw2⟩))
            go_ret2
            exact HH.out _ (New.trans hw1 hw2)
          | none =>
            have hna := fun w ha => named_any pn A m c l w hn ha
            simp only [hlost, lostErr] at hna
            have HN := Lib.hid hna
            have HI := Lib.hid (lostFrom_none hlost)
            by_cases hfull : (ordered l (prioOf prio) pn).length = pn
            · have hge : ordErr (pn : Int) l pn prio = (0, 0) := by unfold ordErr; rw [if_neg h1, if_neg h2, if_neg (by omega), if_neg (by omega)]; simp [hlost, hfull]
              have HP : ∀ w' v, New w w' → w'.ownsRow w.heap.size 3 1 v (ordered l (prioOf prio) pn).length (nats (ordered l (prioOf prio) pn)) → OrderPost w pn l pn prio (.returned (.tuple #[v, .nilIface])) w' := fun w' v hw hv =>
                ⟨_, _, rfl, by rw [hge]; exact .inl ⟨rfl, rfl⟩, by simpa [ordOut, hge] using hv, hw⟩
              have HH := Lib.hid HP
              have HF := Lib.hid hfull
              clear HP hna hlost hge hfull
              go_enter Tryd.func17, Tryd.ntmps17
              go_wp2_with (first
                | (go_at_call 37; refine (HS.out _).mono ?_; rintro e w1 ⟨rfl, hw1⟩)
                | (go_at_call 38; refine (HN.out _ (ha.new_ hw1)).mono ?_; rintro e w2 ⟨rfl, hw2⟩)
                | (go_at_call 47; refine (order_any pn A P m c pn pc l prio _ hn (ha.new_ (New.trans hw1 hw2)) HI.out (hp.new_ (New.trans hw1 hw2)) hm4).mono ?_; rintro e w3 ⟨v, b, rfl, hb, hv, hw3⟩; have hb2 : b = true := (by rw [hb, HF.out]; simp); clear hb; subst hb2))
              go_ret2
              exact HH.out _ v (New.trans (New.trans hw1 hw2) hw3) (own_mono hv (New.trans hw1 hw2).size)
            · have HH := Lib.hid (order_bad (w := w) (n := (pn : Int)) (l := l) (pn := pn) (prio := prio) (a := 12) (c := 0) (by unfold ordErr; rw [if_neg h1, if_neg h2, if_neg (by omega), if_neg (by omega)]; simp [hlost, hfull]) (by decide) (.inr ⟨by omega, by omega, .ref 12⟩))
              have HF := Lib.hid hfull
              clear hna hlost hfull
              go_enter Tryd.func17, Tryd.ntmps17
              go_wp2_with (first
                | (go_at_call 37; refine (HS.out _).mono ?_; rintro e w1 ⟨rfl, hw1⟩)
                | (go_at_call 38; refine (HN.out _ (ha.new_ hw1)).mono ?_; rintro e w2 ⟨rfl, hw2⟩)
                | (go_at_call 47; refine (order_any pn A P m c pn pc l prio _ hn (ha.new_ (New.trans hw1 hw2)) HI.out (hp.new_ (New.trans hw1 hw2)) hm4).mono ?_; rintro e w3 ⟨v, b, rfl, hb, hv, hw3⟩; have hb2 : b = false := (by rw [hb]; simpa using HF.out); clear hb; subst hb2))
              go_ret2
              exact HH.out _ (New.trans (New.trans hw1 hw2) hw3)
end Go.Proofs.YtkkaejbdekdljaaDoor
set_option linter.unusedVariables false
set_option linter.unusedSimpArgs false
namespace Go.Proofs.YtkkaejbdekdljaaDoor
open Go.RowKit

set_option maxHeartbeats 400000 in
theorem sameInts_any (A B : Option Addr) (n m c d : Nat) (xs ys : List Int) (w : World) (ha : Sl w A n 1 (nums xs)) (hb : Sl w B m 1 (nums ys)) :
    Calls Tryd.prog 12 #[.slice A n c, .slice B m d] w fun e w' => e = .returned (.bool (decide (xs = ys))) ∧ New w w' := by
  have hxl : xs.length = n := by simpa [nums] using ha.len
  have hyl : ys.length = m := by simpa [nums] using hb.len
  have hn := ha.le
  have hm := hb.le
  by_cases hnm : n = m
  case neg =>
    have e1 : decide (xs = ys) = false := by simp; intro h; subst h; omega
    have H1 := Lib.hid e1
    have H2 := Lib.hid hxl
    have H3 := Lib.hid hyl
    have hd : ((n : Int) != (m : Int)) = true := by simp; omega
    clear e1 hxl hyl hnm
    go_enter Tryd.func12, Tryd.ntmps12
    go_wp2
    go_ret
    exact ⟨ret_bool H1.out.symm, Mod.refl _ _⟩
  case pos =>
    subst hnm
    have hd : ((n : Int) != (n : Int)) = false := by simp
    have H2 := Lib.hid hxl
    have H3 := Lib.hid hyl
    clear hxl hyl
    go_enter Tryd.func12, Tryd.ntmps12
    go_wp2
    go_loopw [5] (fun i wr => ∃ k : Nat, k ≤ n ∧ i = .int .i64 k ∧ xs.take k = ys.take k ∧ New w wr) (fun i _ => n - (intOf i).toNat)
    case atStart => exact ⟨0, Nat.zero_le _, rfl, rfl, Mod.refl _ _⟩
    case round =>
      obtain ⟨k, hk, rfl, hpre, hw⟩ := hrel
      have ha' := ha.new_ hw
      have hb' := hb.new_ hw
      have HP := Lib.hid hpre
      clear hpre
      by_cases hlt : k < n
      · obtain ⟨b1, o1, u, rfl, hu, hcu⟩ := ha'.at1 hlt
        obtain ⟨b2, o2, v, rfl, hv, hcv⟩ := hb'.at1 hlt
        rw [nums_at] at hu hv
        obtain ⟨x, hx, rfl⟩ := Option.map_eq_some_iff.1 hu
        obtain ⟨y, hy, rfl⟩ := Option.map_eq_some_iff.1 hv
        have HX := Lib.hid hx
        have HY := Lib.hid hy
        clear hu hv hx hy
        by_cases hxy : x = y
        · subst hxy
          have hd2 : (x != x) = false := by simp
          go_wp2
          go_quiet (fail)
          go_wp2
          go_roundw
          case rel => exact ⟨k + 1, by omega, by go_num, by
            have h1 := HP.out
            have h2 := HX.out
            have h3 := HY.out
            rw [List.take_add_one, List.take_add_one, h1, h2, h3], hw.drewN _⟩
          case measure => simp [intOf]; omega
        · have hd2 : (x != y) = true := by simpa using hxy
          go_wp2
          go_quiet (fail)
          go_wp2
          go_ret
          exact ⟨ret_bool (by
            have h2 := HX.out
            have h3 := HY.out
            symm
            simp only [decide_eq_false_iff_not]
            intro h
            rw [h, h3] at h2
            exact hxy (by injection h2 with h2; exact h2.symm)), hw.drewN _⟩
      · go_wp2
        go_ret
        exact ⟨ret_bool (by
          have h1 := HP.out
          have h2 := H2.out
          have h3 := H3.out
          have : k = n := by omega
          subst this
          rw [List.take_of_length_le (by omega), List.take_of_length_le (by omega)] at h1
          simp [h1]), hw⟩
end Go.Proofs.YtkkaejbdekdljaaDoor
