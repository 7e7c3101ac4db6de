/- split.Clone, with maps.Clone; the reference's New. No condition but that the frame stands. -/
import Derived.Test.YtagponhnkodjhaaSplit7
import Derived.Shelf.SlMaps.Clone
namespace Go.Proofs.Ytagponhnkodjhaa
open Go.RowKit Go.Maps Go.Shelf BigFrame
attribute [local go_sem ↓] Go.wp_at_zero Go.wp_at_succ

set_option maxHeartbeats 1000000 in
theorem maps_Clone (b n : Nat) (D : DataW Unit) (w : World) (h : PartsAt w b n D) :
    Calls Try.prog 26 #[.map (some b)] w fun e w' => e = .returned (.map (some w.heap.size)) ∧ PartsAt w' w.heap.size n D ∧ Below w.heap.size w w' := by
  obtain ⟨es, clock, hb, F, hs, hD⟩ := h
  have hq := fun w => run_eql_map_nil_sl (P := Try.prog) w 52 _ _ (some b) Try.underlying52
  go_enter Try.func26, Try.ntmps26
  go_wp2
  rw [run_callFunc_extern Try.func32 (by kernel_rfl) (by kernel_rfl) (by kernel_rfl) (e := Extern.MapsClone.clone) (by kernel_rfl), run_maps_clone_sl w 52 hb]
  simp only [Result.andThen]
  rw [Oper.upon_value]
  go_wp2
  rw [run_typeAssert_map_sl _ 52 20 _ _ _ Try.underlying52]
  simp only [Result.andThen]
  rw [Oper.upon_value]
  go_wp2
  go_ret
  exact ⟨rfl, ⟨es, clock, (MapKept.heap_alloc w _).1, F, hs, hD⟩, (Below.refl _ w).alloc (Nat.le_refl _) _⟩

set_option maxHeartbeats 2000000 in
theorem frame_Clone (g b : Nat) (time first : Int) (c : Nat) (h : Nat → Bool) (d : Nat → ByteArray) (w : World) (H : FrameIs w g b time first c h d) :
    Calls Try.prog 17 #[.pointer (some ⟨g, 0, none⟩)] w fun e w' => ∃ g' b', e = .returned (.pointer (some ⟨g', 0, none⟩)) ∧ FrameIs w' g' b' time first c h d ∧ w.heap.size ≤ g' ∧ w.heap.size ≤ b' ∧ Below w.heap.size w w' := by
  obtain ⟨hbg, hd, D, ⟨hF, hP⟩, hD⟩ := H
  have c1 := hF.cell
  simp at c1
  have hlt := hF.lt
  go_enter Try.func17, Try.ntmps17
  go_upto_region 2 with fail
  have k1 := Blk.new w 54 #[.int .u32 time, .int .i64 (c : Int), .int .i64 first, .map (some b), .int .i64 (sumD c d : Int)]
  have B1 : Below w.heap.size w (w.alloc (.cells #[.int .u32 time, .int .i64 (c : Int), .int .i64 first, .map (some b), .int .i64 (sumD c d : Int)] 54)) := (Below.refl _ w).alloc (Nat.le_refl _) _
  generalize w.alloc (.cells #[.int .u32 time, .int .i64 (c : Int), .int .i64 first, .map (some b), .int .i64 (sumD c d : Int)] 54) = w1 at *
  have HM := maps_Clone b _ D _ (hP.below B1)
  have c2 := (hF.below B1 hlt).cell
  simp at c2
  clear c1
  have hs1 := k1.lt
  go_wp2_with fail
  refine HM.mono ?_
  rintro e w2 ⟨rfl, hP2, hB2⟩
  have k2 := k1.below hB2 k1.lt
  have f2 := k2.frozen
  have c3 := k2.cell
  simp at c3
  clear c2 HM
  go_wp2_with fail
  go_ret
  have hne : w1.heap.size ≠ w.heap.size := by omega
  exact ⟨w.heap.size, w1.heap.size, rfl, ⟨hne, hd, D, ⟨by simpa using k2.set_ 3 (.map (some w1.heap.size)), World.ownsMap.setCell hP2 (a := ⟨w.heap.size, 3, none⟩) hne _⟩, hD⟩, Nat.le_refl _, by omega, (below_then B1 hB2 (Nat.le_refl _)).setCell (Nat.le_refl _) _⟩

theorem SliceOf.row {w : World} {g n : Nat} {t : TypeId} {f : Nat → Value} (h : Blk w g t (rowV n f)) (hn : n ≤ 1000000) : SliceOf w (some ⟨g, 0, none⟩) n n 1 (fun i => [f i]) :=
  ⟨Nat.le_refl _, by rw [maxLen_eq]; omega, fun _ => ⟨g, 0, rfl, h.lt, fun i hi j v hv => by
    match j, hv with
    | 0, hv =>
      simp at hv
      subst hv
      have := h.cell i
      rw [rowV_get n f i hi] at this
      simpa using this⟩⟩
theorem run_row (W : World) (t e : TypeId) (i : TypeInfo) (z : Value) (ht : Try.prog.underlying t = some (.slice e)) (hi : Try.prog.info? e = some i) (hz : i.zero = some z) (h1 : i.size = 1) (hzc : z.cells = #[z]) (hb : i.bytes ≤ 1000) (n : Nat) (hn : n ≤ 1000) :
    (Instr.makeSlice t (.int .i64 (n : Int)) (.int .i64 (n : Int))).run Try.prog W = .ok (.slice (some ⟨W.heap.size, 0, none⟩) n n) (W.alloc (.cells (rowV n (fun _ => z)) e)) := by
  have hbb : i.bytes * n ≤ 1000000 := by have := Nat.mul_le_mul hb hn; omega
  have h5 : (i.bytes : Int) * (n : Int) ≤ 1000000 := by rw [← Int.natCast_mul]; omega
  have h := run_make (P := Try.prog) W t e i z ht hi hz .i64 .i64 (n : Int) (n : Int) (by omega) (by omega) (by omega) (by omega)
  simp only [Int.toNat_natCast] at h
  rw [h, h1, Nat.mul_one, ← madeV, hzc]
theorem three_new (w : World) (A B C : Array Value) (t u v : TypeId) :
    Blk (((w.alloc (.cells A t)).alloc (.cells B u)).alloc (.cells C v)).drew w.heap.size t A ∧ Blk (((w.alloc (.cells A t)).alloc (.cells B u)).alloc (.cells C v)).drew (w.heap.size + 1) u B ∧
    Blk (((w.alloc (.cells A t)).alloc (.cells B u)).alloc (.cells C v)).drew (w.heap.size + 1 + 1) v C ∧ Below w.heap.size w (((w.alloc (.cells A t)).alloc (.cells B u)).alloc (.cells C v)).drew :=
  ⟨(((Blk.new w t A).alloc _).alloc _).drew, ((Blk.new1 w _ u B).alloc _).drew, Blk.drew (by have := Blk.new1 (w.alloc (.cells A t)) (.cells B u) v C; simpa using this),
   ((((Below.refl _ w).alloc (Nat.le_refl _) _).alloc (by simp) _).alloc (by simp; omega) _).drew⟩
set_option maxHeartbeats 2000000 in
theorem ref23_New (time z first : Int) (n : Nat) (hn : clipI z 1 255 = (n : Int)) (w : World) :
    Calls Try.prog 15 #[.int .i64 time, .int .i64 z, .int .i64 first] w fun e w' => ∃ v, e = .returned v ∧ RefV w' v time first n (fun _ => false) (fun _ => ByteArray.empty) ∧ Below w.heap.size w w' := by
  have hm3 : max 1 (min z 255) = (n : Int) := hn
  have hb := clip_bd z 1 255 (by omega)
  rw [hn] at hb
  have hn2 : n ≤ 255 := by omega
  obtain ⟨i0, hi0, hz0, hz1, hz2⟩ := info_parts (show (Try.prog.info? 4).map (fun i => (i.zero, i.size, i.bytes)) = some (some (.bool false), 1, 1) by kernel_rfl)
  obtain ⟨i1, hi1, hy0, hy1, hy2⟩ := info_parts (show (Try.prog.info? 9).map (fun i => (i.zero, i.size, i.bytes)) = some (some (.string ByteArray.empty), 1, 16) by kernel_rfl)
  have mk1 : ∀ W : World, (Instr.makeSlice 31 (.int .i64 (n : Int)) (.int .i64 (n : Int))).run Try.prog W = _ := fun W => run_row W 31 4 i0 (.bool false) Try.underlying31 hi0 hz0 hz1 rfl (by omega) n (by omega)
  have mk2 : ∀ W : World, (Instr.makeSlice 24 (.int .i64 (n : Int)) (.int .i64 (n : Int))).run Try.prog W = _ := fun W => run_row W 24 9 i1 (.string ByteArray.empty) Try.underlying24 hi1 hy0 hy1 rfl (by omega) n (by omega)
  clear hn
  go_enter Try.func15, Try.ntmps15
  go_upto_region 2 with fail
  go_region
  · obtain ⟨K0, K1, K2, BB⟩ := three_new w #[.int .i64 time, .int .i64 first, .slice (some ⟨w.heap.size + 1, 0, none⟩) n n, .slice (some ⟨w.heap.size + 1 + 1, 0, none⟩) n n] (rowV n fun _ => Value.bool false) (rowV n fun _ => Value.string ByteArray.empty) 41 4 9
    generalize (((w.alloc (.cells #[.int .i64 time, .int .i64 first, .slice (some ⟨w.heap.size + 1, 0, none⟩) n n, .slice (some ⟨w.heap.size + 1 + 1, 0, none⟩) n n] 41)).alloc (.cells (rowV n fun _ => Value.bool false) 4)).alloc (.cells (rowV n fun _ => Value.string ByteArray.empty) 9)).drew = w1 at *
    have c0 := K0.cell
    simp at c0
    go_wp2_with fail
    refine bodyPost_ret (v := .agg #[.int .i64 time, .int .i64 first, .slice (some ⟨w.heap.size + 1, 0, none⟩) n n, .slice (some ⟨w.heap.size + 1 + 1, 0, none⟩) n n]) ?_ rfl ⟨_, rfl, ⟨_, _, _, _, rfl, SliceOf.row K1 (by omega), SliceOf.row K2 (by omega)⟩, BB⟩
    simp [results, Try.results15, go_sem, c0]
  · obtain ⟨K0, K1, K2, BB⟩ := three_new w #[.int .i64 time, .int .i64 first, .slice (some ⟨w.heap.size + 1 + 1, 0, none⟩) n n, .slice (some ⟨w.heap.size + 1, 0, none⟩) n n] (rowV n fun _ => Value.string ByteArray.empty) (rowV n fun _ => Value.bool false) 41 9 4
    generalize (((w.alloc (.cells #[.int .i64 time, .int .i64 first, .slice (some ⟨w.heap.size + 1 + 1, 0, none⟩) n n, .slice (some ⟨w.heap.size + 1, 0, none⟩) n n] 41)).alloc (.cells (rowV n fun _ => Value.string ByteArray.empty) 9)).alloc (.cells (rowV n fun _ => Value.bool false) 4)).drew = w1 at *
    have c0 := K0.cell
    simp at c0
    go_wp2_with fail
    refine bodyPost_ret (v := .agg #[.int .i64 time, .int .i64 first, .slice (some ⟨w.heap.size + 1 + 1, 0, none⟩) n n, .slice (some ⟨w.heap.size + 1, 0, none⟩) n n]) ?_ rfl ⟨_, rfl, ⟨_, _, _, _, rfl, SliceOf.row K2 (by omega), SliceOf.row K1 (by omega)⟩, BB⟩
    simp [results, Try.results15, go_sem, c0]
end Go.Proofs.Ytagponhnkodjhaa
