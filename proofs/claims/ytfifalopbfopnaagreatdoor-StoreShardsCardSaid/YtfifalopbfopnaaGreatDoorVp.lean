/- Walks: the store (texts): New, Versions. -/
import Derived.Test.YtfifalopbfopnaaGreatDoorVo
import Derived.Laws.MakeOwn
set_option linter.unusedVariables false
set_option linter.unusedSimpArgs false
namespace Go.Proofs.YtfifalopbfopnaaGreatDoor
open Go.RowKit Go.Maps

theorem run_mk_one {P : Program} {t e : TypeId} {bytes : Nat} {z0 : Value} (H : SlT P t e 1 bytes) (hz : (P.info? e).map (·.zero) = some (some z0)) (hz1 : z0.cells = #[z0]) (n : Nat) (hb : bytes * n ≤ 281474976710656) (hn : n ≤ 4294967296) (w : World) :
    (Instr.makeSlice t (.int .i64 (n : Int)) (.int .i64 (n : Int))).run P w = .ok (.slice (some ⟨w.heap.size, 0, none⟩) n n) (w.alloc (.cells (List.replicate n z0).toArray e)) := by
  obtain ⟨z, hi, hzs⟩ := H.info
  obtain ⟨i, hi0, hi1, hi2, hi3⟩ := info_parts hi
  rw [hi0] at hz
  simp at hz
  rw [hi1] at hz
  injection hz with hz
  subst hz
  have hbI : (bytes : Int) * (n : Int) ≤ 281474976710656 := by
    have h : ((bytes * n : Nat) : Int) ≤ 281474976710656 := by omega
    rwa [Int.natCast_mul] at h
  have := run_make (P := P) w t e i z H.und hi0 hi1 .i64 .i64 n n (by omega) (by omega) (by rw [hi3]; exact hbI) (by omega)
  simp only [Int.toNat_natCast] at this
  rw [this, hi2, hz1]
  congr 3
  apply Array.ext <;> simp [madeCells, Nat.mod_one]
theorem Tryz.sltMaps : SlT Tryz.prog 60 65 1 8 := ⟨Tryz.underlying60, ⟨.map none, by kernel_rfl, rfl⟩, by decide, by decide⟩
theorem Tryz.mkMaps (m : Nat) (h : m ≤ 64) (w : World) : (Instr.makeSlice 60 (.int .i64 (m : Int)) (.int .i64 (m : Int))).run Tryz.prog w = .ok (.slice (some ⟨w.heap.size, 0, none⟩) m m) (w.alloc (.cells (List.replicate m (.map none)).toArray 65)) :=
  run_mk_one Tryz.sltMaps (by kernel_rfl) rfl m (by omega) (by omega) w

/-- A store under way: i of its m shards are there. -/
structure Made (w0 w : World) (s g rb m i : Nat) (bs : List Nat) : Prop where
  len : bs.length = i
  le : i ≤ m
  new : New w0 w
  sblk : Blk w s 64 [.slice (some ⟨g, 0, none⟩) m m, .map (some rb), .int .i64 0]
  gblk : Blk w g 65 (bs.map (fun b => .map (some b)) ++ List.replicate (m - i) (.map none))
  rmap : MapO 3 numVal w rb 0 (fun _ => none)
  maps : ∀ b ∈ bs, MapO 33 keyVal w b 0 (fun _ => none)
  low : w0.heap.size ≤ s ∧ w0.heap.size ≤ g ∧ w0.heap.size ≤ rb ∧ ∀ b ∈ bs, w0.heap.size ≤ b
  rbs : rb ∉ bs
  nodup : bs.Nodup
theorem Made.step {w0 w : World} {s g rb m i : Nat} {bs : List Nat} (h : Made w0 w s g rb m i bs) (hi : i < m) :
    Made w0 ((w.alloc (.map #[] 0)).setCell ⟨g, i, none⟩ (.map (some w.heap.size))) s g rb m (i + 1) (bs ++ [w.heap.size]) := by
  have hlen := h.len
  have hgs : s ≠ g := fun e => h.sblk.ne_ h.gblk (by decide) e
  have hgl := h.gblk.lt
  have hgb : ∀ b ∈ bs, b ≠ g := fun b hb e => (h.maps b hb).not_blk h.gblk e.symm
  have hgr : rb ≠ g := fun e => h.rmap.not_blk h.gblk e.symm
  have hm2 : Mod (· = g) (w.alloc (.map #[] 0)) ((w.alloc (.map #[] 0)).setCell ⟨g, i, none⟩ (.map (some w.heap.size))) := mod_set _ g i _
  have hm1 : New w (w.alloc (.map #[] 0)) := (Mod.refl _ w).alloc _
  refine ⟨by simp [hlen], hi, Mod.trans (New.trans h.new hm1) hm2 (fun x hx e => by have e' : x = g := e; have := h.low.2.1; omega), (h.sblk.new_ hm1).kept hm2 hgs, ?_, (h.rmap.new_ hm1).mod hm2 hgr, fun b hb => ?_, ⟨h.low.1, h.low.2.1, h.low.2.2.1, fun b hb => ?_⟩, fun hb => ?_, ?_⟩
  · have h1 := (h.gblk.new_ hm1).set_ i (.map (some w.heap.size))
    have e : (bs.map (fun b => Value.map (some b)) ++ List.replicate (m - i) (Value.map none)).set i (Value.map (some w.heap.size)) = (bs ++ [w.heap.size]).map (fun b => Value.map (some b)) ++ List.replicate (m - (i + 1)) (Value.map none) := by
      rw [List.set_append_right _ _ (by simp [hlen]), List.map_append, List.append_assoc]
      congr 1
      rw [show m - i = (m - (i + 1)) + 1 from by omega, List.replicate_succ]
      simp [hlen]
    rw [e] at h1
    exact h1
  · rcases List.mem_append.1 hb with hb | hb
    · exact ((h.maps b hb).new_ hm1).mod hm2 (hgb b hb)
    · simp at hb; subst hb
      exact (MapO.made w 33 keyVal).mod hm2 (fun e => by have e' : w.heap.size = g := e; omega)
  · rcases List.mem_append.1 hb with hb | hb
    · exact h.low.2.2.2 b hb
    · simp at hb; subst hb; exact h.new.size
  · rcases List.mem_append.1 hb with hb | hb
    · exact h.rbs hb
    · simp at hb; have := h.rmap.lt; omega
  · rw [List.nodup_append]
    refine ⟨h.nodup, by simp, fun a ha b hb => ?_⟩
    simp at hb
    subst hb
    have := (h.maps a ha).lt
    omega
theorem Made.done {w0 w : World} {s g rb m : Nat} {bs : List Nat} (h : Made w0 w s g rb m m bs) (hm : 1 ≤ m ∧ m ≤ 64) : StoreAt w ⟨s, g, bs, rb, []⟩ 0 stNew where
  blk := by
    have := h.sblk
    rw [← h.len] at this
    exact this
  gblk := by have := h.gblk; simpa using this
  m1 := by show 1 ≤ bs.length ∧ bs.length ≤ 64; rw [h.len]; exact hm
  maps := fun i b hb => (h.maps b (List.mem_of_getElem? hb)).congr (fun x => by unfold shardM stNew; simp [rowIdx])
  bnodup := h.nodup
  rmap := h.rmap.congr (fun x => by unfold readM stNew; simp)
  rbs := h.rbs
  chains := ⟨rfl, fun j p x hp => by simp at hp, fun i j p q hp => by simp at hp, fun i j p q hp => by simp at hp⟩
  ok := RowsOk.nil
  vers := fun x hx => by simp [stNew] at hx
  rowsN := Nat.le_refl _
  readN := Nat.le_refl _
  bigN := by decide
/-- What New answers. -/
def NewPost (w : World) (n : Int) (e : Ending) (w' : World) : Prop :=
  ∃ L : Lay, e = .returned (.pointer (some ⟨L.s, 0, none⟩)) ∧ L.bs.length = countedN n ∧ StoreAt w' L 0 stNew ∧ New w w' ∧ ∀ b, Foot L b → w.heap.size ≤ b
set_option maxRecDepth 100000 in
set_option maxHeartbeats 2000000 in
theorem storeNew_any (n : Int) (w : World) : Calls Tryz.prog 7 #[.int .i64 n] w (NewPost w n) := by
  have HC := Lib.hid (fun W => counted_any n W)
  have HPOST : ∀ (w' : World) (s g rb : Nat) (bs : List Nat), Made w w' s g rb (countedN n) (countedN n) bs → NewPost w n (.returned (.pointer (some ⟨s, 0, none⟩))) w' := fun w' s g rb bs h =>
    ⟨⟨s, g, bs, rb, []⟩, rfl, h.len, h.done (countedN_pos n), h.new, fun b hb => by
      obtain ⟨l1, l2, l3, l4⟩ := h.low
      rcases hb with rfl | rfl | hb | rfl | ⟨j, p, hp, _⟩
      · exact l1
      · exact l2
      · exact l4 b hb
      · exact l3
      · simp at hp⟩
  have HP := Lib.hid HPOST
  have hm := countedN_pos n
  generalize countedN n = m at *
  obtain ⟨hm1, hm2⟩ := hm
  have hmk := Tryz.mkMaps m hm2
  have hmm := @run_makeMap Tryz.prog
  clear HPOST
  go_enter Tryz.func7, Tryz.ntmps7
  go_wp2_with (go_at_call 28; refine (HC.out _).mono ?_; rintro e w1 ⟨rfl, hw1⟩)
  obtain ⟨W0, hW0⟩ : ∃ W0, ((w1.alloc (.cells (Array.replicate m (.map none)) 65)).alloc (.map #[] 0)).alloc (.cells #[.slice (some ⟨w1.heap.size, 0, none⟩) m m, .map (some (w1.heap.size + 1)), .int .i64 0] 64) = W0 := ⟨_, rfl⟩
  have hmade : Made w W0 (w1.heap.size + 1 + 1) w1.heap.size (w1.heap.size + 1) m 0 [] := by
    have n1 := Blk.new w1 65 (List.replicate m (.map none))
    have n2 := MapO.made (w1.alloc (.cells (List.replicate m (.map none)).toArray 65)) 3 numVal
    have n3 := Blk.new ((w1.alloc (.cells (List.replicate m (.map none)).toArray 65)).alloc (.map #[] 0)) 64 [.slice (some ⟨w1.heap.size, 0, none⟩) m m, .map (some (w1.heap.size + 1)), .int .i64 0]
    simp only [World.size_alloc] at n2 n3
    have hs := hw1.size
    rw [← hW0, ← List.toArray_replicate]
    exact ⟨rfl, Nat.zero_le _, New.trans hw1 ((((Mod.refl _ w1).alloc _).alloc _).alloc _), n3, by simpa using (n1.alloc _).alloc _, n2.new_ ((Mod.refl _ _).alloc _), fun b hb => (by cases hb), ⟨by omega, by omega, by omega, fun b hb => (by cases hb)⟩, by simp, List.nodup_nil⟩
  have HM0 := Lib.hid hmade
  have c0 := hmade.sblk.cell 0
  simp only [List.getElem?_cons_zero] at c0
  rw [hW0]
  clear hW0 hmade hmk
  have hgo : w1.heap.size + 1 + 1 ≠ w1.heap.size := by omega
  generalize w1.heap.size + 1 + 1 = s at *
  generalize w1.heap.size + 1 = rb at *
  generalize w1.heap.size = g at *
  clear hw1
  go_wp2
  go_loopw [16] (fun a wr => ∃ (i : Nat) (bs : List Nat), a = .int .i64 (i : Int) ∧ Made w wr s g rb m i bs) (fun a _ => m - (intOf a).toNat)
  case atStart => exact ⟨0, [], rfl, HM0.out⟩
  case round =>
    obtain ⟨i, bs, rfl, hmd⟩ := hrel
    have hle := hmd.le
    have q0 := hmd.sblk.cell 0
    simp only [List.getElem?_cons_zero] at q0
    have HMD := Lib.hid hmd
    by_cases hlt : i < m
    · have fg := (hmd.gblk.alloc (.map #[] 0)).frozen i
      have qg : (wr.alloc (.map #[] 0)).cell? ⟨g, i, none⟩ = some (.map none) := by
        rw [(hmd.gblk.alloc (.map #[] 0)).cell, List.getElem?_append_right (by simp [hmd.len]), List.length_map, hmd.len, Nat.sub_self, List.getElem?_replicate, if_pos (by omega)]
      have HST := Lib.hid (hmd.step hlt)
      clear hmd
      go_wp2
      go_roundw
      case rel => exact ⟨i + 1, _, by go_num, HST.out⟩
      case measure => simp [intOf]; omega
    · obtain rfl : i = m := by omega
      clear hmd
      go_wp2
      go_ret
      exact HP.out _ _ _ _ _ HMD.out
end Go.Proofs.YtfifalopbfopnaaGreatDoor
