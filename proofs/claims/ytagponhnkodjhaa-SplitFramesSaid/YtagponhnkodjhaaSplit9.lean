/- The statements' Is: a frame is the document's. No condition but that both stand. -/
import Derived.Test.YtagponhnkodjhaaSplit8
import Derived.Test.YtagponhnkodjhaaPlan
namespace Go.Proofs.Ytagponhnkodjhaa
open Go.RowKit Go.Maps Go.Shelf BigFrame
attribute [local go_sem ↓] Go.wp_at_zero Go.wp_at_succ

theorem frame_DataAny (g b : Nat) (time first : Int) (c : Nat) (h : Nat → Bool) (d : Nat → ByteArray) (w : World) (H : FrameIs w g b time first c h d) (hc : c ≤ 255) (s : ByteArray) (hs : s = if cntH c h = c then ⟨(catD c d).toArray⟩ else ⟨#[]⟩) (r : Bool) (hr : decide (cntH c h = c) = r) :
    Calls Try.prog 14 #[.pointer (some ⟨g, 0, none⟩)] w fun e w' => e = .returned (.tuple #[.string s, .bool r]) ∧ Below w.heap.size w w' := by
  by_cases hall : cntH c h = c
  · rw [if_pos hall] at hs
    obtain rfl : true = r := by rw [← hr]; simp [hall]
    rw [hs]
    exact frame_Data g b time first c h d w H hc hall
  · rw [if_neg hall] at hs
    obtain rfl : false = r := by rw [← hr]; simp [hall]
    rw [hs]
    exact frame_DataNo g b time first c h d w H hall
set_option maxRecDepth 8000 in
set_option maxHeartbeats 4000000 in
theorem law23_Is (g b : Nat) (v : Value) (time first : Int) (c : Nat) (h : Nat → Bool) (d : Nat → ByteArray) (w : World) (H : FrameIs w g b time first c h d) (R : RefV w v time first c h d) (hc1 : 1 ≤ c) (hc : c ≤ 255) (ht0 : 0 ≤ time) (ht1 : time ≤ 4294967295) :
    Calls Try.prog 18 #[.pointer (some ⟨g, 0, none⟩), v] w fun e w' => e = .returned (.bool true) ∧ Below w.heap.size w w' := by
  obtain ⟨s, hs⟩ : ∃ s : ByteArray, s = if cntH c h = c then ⟨(catD c d).toArray⟩ else ⟨#[]⟩ := ⟨_, rfl⟩
  obtain ⟨r, hr⟩ : ∃ r, decide (cntH c h = c) = r := ⟨_, rfl⟩
  obtain ⟨cn, hcn⟩ : ∃ cn, cntH c h = cn := ⟨_, rfl⟩
  obtain ⟨ll, hll⟩ : ∃ ll, (lacksL c h).length = ll := ⟨_, rfl⟩
  obtain ⟨sd, hsd⟩ : ∃ sd, sumD c d = sd := ⟨_, rfl⟩
  have hlen := lacks_len c h
  rw [hcn, hll] at hlen
  have HRD := Lib.hid (fun W (K : RefV W v time first c h d) => ref23_Data v time first c h d W K hc1 hc H.2.1 s hs)
  have HRL := Lib.hid (fun W (K : RefV W v time first c h d) => ref23_Lacks v time first c h d W K hc1 hc)
  have HFD := Lib.hid (fun W (K : FrameIs W g b time first c h d) => frame_DataAny g b time first c h d W K hc s hs r hr)
  have HFT := Lib.hid (fun W (K : FrameIs W g b time first c h d) => frame_Time g b time first c h d W K)
  have HFF := Lib.hid (fun W (K : FrameIs W g b time first c h d) => frame_First g b time first c h d W K)
  have HFC := Lib.hid (fun W (K : FrameIs W g b time first c h d) => frame_Count g b time first c h d W K)
  have HFH := Lib.hid (fun W (K : FrameIs W g b time first c h d) => frame_Have g b time first c h d W K)
  have HFB := Lib.hid (fun W (K : FrameIs W g b time first c h d) => frame_Bytes g b time first c h d W K)
  have HFW := Lib.hid (fun W (K : FrameIs W g b time first c h d) => frame_IsWhole g b time first c h d r W K hr)
  have HFL := Lib.hid (fun W (K : FrameIs W g b time first c h d) => frame_Lacks g b time first c h d W K hc)
  have wh : IntKind.i64.wrap ((c : Int) - (ll : Int)) = (cn : Int) := by rw [IntWalk.i64_in _ (by omega)]; omega
  have wt : IntKind.i64.wrap time = time := IntWalk.i64_in _ (by omega)
  have zr : ((ll : Int) == 0) = r := by
    rw [← hr, hcn, Bool.eq_iff_iff]
    simp
    omega
  have e1 : (time == time) = true := by simp
  have e2 : (first == first) = true := by simp
  have e3 : ((c : Int) == (c : Int)) = true := by simp
  have e4 : ((cn : Int) == (cn : Int)) = true := by simp
  have e5 : ((sd : Int) == (sd : Int)) = true := by simp
  rw [hcn] at HFH
  rw [hsd] at HFB HRD
  rw [hll] at HRL HFL
  have HH := Lib.hid H
  have HR := Lib.hid R
  have HCN := Lib.hid hcn
  have HLL := Lib.hid hll
  clear H hcn hll hsd hs hr
  obtain ⟨ha, hcp, pa, pc, rfl, _, _⟩ := R
  go_enter Try.func18, Try.ntmps18
  go_upto_region 1 with fail
  have B1 : Below w.heap.size w (w.alloc (.cells #[.int .i64 time, .int .i64 first, .slice ha c hcp, .slice pa c pc] 41)) := (Below.refl _ w).alloc (Nat.le_refl _) _
  have k1 := Blk.new w 41 #[.int .i64 time, .int .i64 first, .slice ha c hcp, .slice pa c pc]
  generalize w.alloc (.cells #[.int .i64 time, .int .i64 first, .slice ha c hcp, .slice pa c pc] 41) = w1 at *
  have c1 := k1.cell
  simp at c1
  have HD := HRD.out w1 (HR.out.below B1)
  go_wp2_with fail
  refine HD.mono ?_
  rintro e w2 ⟨rfl, hb2⟩
  clear HD c1
  have B2 := below_then B1 hb2 (Nat.le_refl _)
  have k2 := k1.below hb2 k1.lt
  have HD := HFD.out w2 (HH.out.below B2)
  go_wp2_with fail
  refine HD.mono ?_
  rintro e w3 ⟨rfl, hb3⟩
  clear HD
  have B3 := below_then B2 hb3 (Nat.le_refl _)
  have k3 := k2.below hb3 k2.lt
  have c3 := k3.cell
  simp at c3
  have HL := HRL.out w3 (HR.out.below B3)
  go_wp2_with fail
  refine HL.mono ?_
  rintro e w4 ⟨v4, rfl, own4, hb4⟩
  have B4 := below_then B3 hb4 (Nat.le_refl _)
  have k4 := k3.below hb4 k3.lt
  clear HL c3
  have hnat : ∀ i, i < ll → (natCells (lacksL c h))[i]? = some (.int .i64 (((lacksL c h).getD i 0 : Nat) : Int)) := fun i hi => by
    rw [← HLL.out] at hi
    unfold natCells
    simp [hi]
  obtain ⟨va, vc, rfl, SL⟩ := SliceOf.of_own own4 (fun i => .int .i64 (((lacksL c h).getD i 0 : Nat) : Int)) hnat
  have E0 := fun (gx : Ext w4) => gx.cell (k4.cell 0) k4.lt
  have E1 := fun (gx : Ext w4) => gx.cell (k4.cell 1) k4.lt
  have E2 := fun (gx : Ext w4) => gx.cell (k4.cell 2) k4.lt
  simp at E0 E1 E2
  have X4 := HH.out.below B4
  have AT := Lib.hid (fun (gx : Ext w4) => HFT.out gx.world (X4.below gx.below))
  have AF := Lib.hid (fun (gx : Ext w4) => HFF.out gx.world (X4.below gx.below))
  have AC := Lib.hid (fun (gx : Ext w4) => HFC.out gx.world (X4.below gx.below))
  have AH := Lib.hid (fun (gx : Ext w4) => HFH.out gx.world (X4.below gx.below))
  have AB := Lib.hid (fun (gx : Ext w4) => HFB.out gx.world (X4.below gx.below))
  have AW := Lib.hid (fun (gx : Ext w4) => HFW.out gx.world (X4.below gx.below))
  have AL := Lib.hid (fun (gx : Ext w4) => HFL.out gx.world (X4.below gx.below))
  clear own4
  go_upto_region 4 with fail
  refine wp_region_ext_plan 57 [(0, true), (1, true), (3, true), (2, false), (4, false), (5, false), (6, false)] (by kernel_rfl) (by kernel_rfl) ?_; simp only [List.take_succ_cons, List.take_zero, List.drop_succ_cons, List.drop_zero, planL, List.filterMap_cons, List.filterMap_nil, List.getElem?_cons_zero, List.getElem?_cons_succ]; (repeat (go_big_quiet_step ((first | (go_at_call 20; with_reducible exact calls_ext_same _ (AT.out _)) | (go_at_call 21; with_reducible exact calls_ext_same _ (AF.out _)) | (go_at_call 28; with_reducible exact calls_ext_same _ (AC.out _)) | (go_at_call 19; with_reducible exact calls_ext_same _ (AH.out _)) | (go_at_call 29; with_reducible exact calls_ext_same _ (AB.out _)) | (go_at_call 22; with_reducible exact calls_ext _ (AW.out _)))))); refine wpQuiet_nil ?_; rintro _ ⟨gq, rfl⟩
  clear E0 E1 E2 AT AF AC AH AB AW
  have HL := AL.out gq
  have SL2 := SL.below gq.below
  have B5 := below_then B4 gq.below (Nat.le_refl _)
  have hl1 : (ll : Int) ≤ 255 := by omega
  generalize gq.world = w5 at *
  clear AL gq SL X4 k4
  go_wp2_with fail
  refine HL.mono ?_
  rintro e w6 ⟨v6, rfl, own6, hb6⟩
  obtain ⟨ua, uc, rfl, SU⟩ := SliceOf.of_own own6 (fun i => .int .i64 (((lacksL c h).getD i 0 : Nat) : Int)) hnat
  have HS := law01_SameYes ua va ll uc vc _ w6 SU (SL2.below hb6) (by omega)
  have B6 := below_then B5 hb6 (Nat.le_refl _)
  clear HL own6 SU SL2
  go_wp2_with fail
  refine HS.mono ?_
  rintro e w7 ⟨rfl, hb7⟩
  have B7 := below_then B6 hb7 (Nat.le_refl _)
  clear HS
  go_wp2_with fail
  simp only [Calm]
  go_wp2_with fail
  trace_state
  go_ret
  exact ⟨rfl, B7⟩
end Go.Proofs.Ytagponhnkodjhaa
