/- The reference of package split, walked; the statements' Same and Is. No condition but that the frames stand. -/
import Derived.Test.YtagponhnkodjhaaSplitBack
import Derived.Laws.OwnMore
namespace Go.Proofs.Ytagponhnkodjhaa
open Go.RowKit Go.Maps Go.Shelf BigFrame
attribute [local go_sem ↓] Go.wp_at_zero Go.wp_at_succ

/-- The document's frame, as a value. -/
def RefV (W : World) (v : Value) (time first : Int) (c : Nat) (h : Nat → Bool) (d : Nat → ByteArray) : Prop :=
  ∃ (ha : Option Addr) (hc : Nat) (pa : Option Addr) (pc : Nat), v = .agg #[.int .i64 time, .int .i64 first, .slice ha c hc, .slice pa c pc] ∧ SliceOf W ha c hc 1 (fun i => [.bool (h i)]) ∧ SliceOf W pa c pc 1 (fun i => [.string (d i)])
theorem RefV.below {w w' : World} {v : Value} {time first : Int} {c : Nat} {h : Nat → Bool} {d : Nat → ByteArray} (H : RefV w v time first c h d) (hb : Below w.heap.size w w') : RefV w' v time first c h d := by
  obtain ⟨ha, hc, pa, pc, e, h1, h2⟩ := H
  exact ⟨ha, hc, pa, pc, e, h1.below hb, h2.below hb⟩

theorem own_lit1 (w : World) (o : Obj) (E : TypeId) : ((w.alloc o).alloc (.cells #[] E)).ownsRow w.heap.size E 1 (.slice (some ⟨w.heap.size + 1, 0, none⟩) 0 0) 0 [] := by
  have := World.ownsRow_lit (base := w.heap.size) (e := E) (size := 1) (w.alloc o) #[] 0 (by simp) (by decide) (by simp)
  simpa using this
set_option maxHeartbeats 2000000 in
theorem ref23_Lacks (v : Value) (time first : Int) (c : Nat) (h : Nat → Bool) (d : Nat → ByteArray) (w : World) (H : RefV w v time first c h d) (hc1 : 1 ≤ c) (hc : c ≤ 255) :
    Calls Try.prog 25 #[v] w (OwnsRes w 3 (lacksL c h).length (natCells (lacksL c h))) := by
  obtain ⟨i0, hi0, hz0, hz1, hz2⟩ := info_parts (show (Try.prog.info? 3).map (fun i => (i.zero, i.size, i.bytes)) = some (some (.int .i64 0), 1, 8) by kernel_rfl)
  obtain ⟨ha, hcp, pa, pc, rfl, SH, SP⟩ := H
  obtain ⟨b, off, rfl, hbb, hcell⟩ := SH.at1 (by omega)
  clear SP SH
  go_enter Try.func25, Try.ntmps25
  go_wp2_with fail
  go_loopw [3, 10] (fun x3 x10 wr => ∃ k : Nat, k ≤ c ∧ x10 = .int .i64 k ∧ wr.ownsRow w.heap.size 3 1 x3 (lacksL k h).length (natCells (lacksL k h)) ∧ Below w.heap.size w wr) (fun _ x10 _ => c - (intOf x10).toNat)
  case atStart => exact ⟨0, by omega, rfl, own_lit1 w _ _, ((Below.refl _ _).alloc (Nat.le_refl _) _).alloc (by simp) _⟩
  case round =>
    obtain ⟨k, hk, rfl, own, B⟩ := hrel
    by_cases hlt : k < c
    · have p0 : (0 : Int) ≤ (k : Int) := by omega
      have p1 : (k : Int) < (c : Int) := by omega
      have wk : IntKind.i64.wrap ((k : Int) + 1) = ((k + 1 : Nat) : Int) := by rw [IntWalk.i64_in _ (by omega)]; omega
      have dd := (B.cell (p := ⟨b, off + k, none⟩) hbb).trans (hcell k hlt)
      have hs := lacksL_succ k h
      obtain ⟨bk, hbk⟩ : ∃ bk, h k = bk := ⟨_, rfl⟩
      rw [hbk] at hs dd
      have hll : (lacksL k h).length ≤ 255 := by have := lacks_len k h; omega
      clear hbk hcell
      cases bk
      · simp only [Bool.false_eq_true, if_false] at hs
        have HS := Lib.hid hs
        clear hs
        go_wp2_with (at_builtin; refine wpList_append_lies _ rfl _ _ 27 rfl w.heap.size 3 i0 (.int .i64 0) 1 8 Try.underlying27 hi0 hz0 hz1 hz2 rfl (by decide) _ _ _ rfl (own.alloc _) ⟨wr.heap.size, 0, none⟩ 1 1 [.int .i64 (k : Int)] rfl rfl (cell_one_new _ _ _) (by simp [Value.oneCell']) (by omega) (by rw [maxLen_eq]; omega) (by omega) (Nat.le_trans B.size (by simp)) _ rfl ?_; intro g2 cap w1 own1 hgrow hat hlt1)
        have hB1 := (B.alloc B.size _).grown hgrow (by have := B.size; simp; omega) (fun j hj => (own.lt j hj).1)
        go_roundw
        case rel => exact ⟨k + 1, by omega, by go_num, by rw [HS.out, natCells_snoc, List.length_append]; exact own1, hB1⟩
        case measure => simp only [intOf]; omega
      · simp only [if_true, List.append_nil] at hs
        have HS := Lib.hid hs
        clear hs
        go_wp2_with fail
        go_roundw
        case rel => exact ⟨k + 1, by omega, by go_num, by rw [HS.out]; exact own, B⟩
        case measure => simp only [intOf]; omega
    · obtain rfl : k = c := by omega
      have j1 : ¬ (k : Int) < (k : Int) := by omega
      clear hcell
      go_wp2_with fail
      go_ret
      exact ⟨_, rfl, own, B⟩

theorem cat_size (c : Nat) (d : Nat → ByteArray) : (⟨(catD c d).toArray⟩ : ByteArray).size = sumD c d := by
  unfold sumD
  simp [ByteArray.size]
theorem cat_next (c : Nat) (d : Nat → ByteArray) : (⟨(catD c d).toArray⟩ : ByteArray) ++ d c = ⟨(catD (c + 1) d).toArray⟩ := by
  apply ByteArray.ext
  rw [catD_succ]
  simp [ByteArray.data_append]

set_option maxHeartbeats 2000000 in
theorem ref23_Data (v : Value) (time first : Int) (c : Nat) (h : Nat → Bool) (d : Nat → ByteArray) (w : World) (H : RefV w v time first c h d) (hc1 : 1 ≤ c) (hc : c ≤ 255) (hsz : ∀ i, (d i).size ≤ 100000) (s : ByteArray) (hs : s = if cntH c h = c then ⟨(catD c d).toArray⟩ else ⟨#[]⟩) :
    Calls Try.prog 27 #[v] w fun e w' => e = .returned (.tuple #[.string s, .int .i64 (sumD c d)]) ∧ Below w.heap.size w w' := by
  have hl := lacks_len c h
  obtain ⟨ll, hll⟩ : ∃ ll, (lacksL c h).length = ll := ⟨_, rfl⟩
  have HLK := Lib.hid (fun W (K : RefV W v time first c h d) => ref23_Lacks v time first c h d W K hc1 hc)
  have H0 := Lib.hid H
  obtain ⟨ha, hcp, pa, pc, rfl, SH, SP⟩ := H
  obtain ⟨b, off, rfl, hbb, hcell⟩ := SP.at1 (by omega)
  have HS := Lib.hid hs
  have HSZ := Lib.hid hsz
  have hsd := sumD_le c d hsz
  have HLL := Lib.hid hll
  rw [hll] at hl
  clear SP SH hs hll hsz
  go_enter Try.func27, Try.ntmps27
  go_wp2_with fail
  have hB0 : Below w.heap.size w (w.alloc (.cells #[.int .i64 time, .int .i64 first, .slice ha c hcp, .slice (some ⟨b, off, none⟩) c pc] 41)) := (Below.refl _ _).alloc (Nat.le_refl _) _
  have k1 := Blk.new w 41 #[.int .i64 time, .int .i64 first, .slice ha c hcp, .slice (some ⟨b, off, none⟩) c pc]
  generalize w.alloc (.cells #[.int .i64 time, .int .i64 first, .slice ha c hcp, .slice (some ⟨b, off, none⟩) c pc] 41) = w1 at *
  go_loopw [4, 10] (fun x4 x10 wr => ∃ k : Nat, k ≤ c ∧ x10 = .int .i64 k ∧ x4 = .string ⟨(catD k d).toArray⟩ ∧ w1 = wr) (fun _ x10 _ => c - (intOf x10).toNat)
  case atStart => exact ⟨0, by omega, rfl, rfl, rfl⟩
  case round =>
    obtain ⟨k, hk, rfl, rfl, rfl⟩ := hrel
    by_cases hlt : k < c
    · have p0 : (0 : Int) ≤ (k : Int) := by omega
      have p1 : (k : Int) < (c : Int) := by omega
      have wk : IntKind.i64.wrap ((k : Int) + 1) = ((k + 1 : Nat) : Int) := by rw [IntWalk.i64_in _ (by omega)]; omega
      have dd := (hB0.cell (p := ⟨b, off + k, none⟩) hbb).trans (hcell k hlt)
      have hnx := cat_next k d
      have hz1 := cat_size k d
      have hz2 := sumD_le k d HSZ.out
      have hz3 := HSZ.out k
      obtain ⟨A, hA⟩ : ∃ A : ByteArray, (⟨(catD k d).toArray⟩ : ByteArray) = A := ⟨_, rfl⟩
      obtain ⟨p, hp⟩ : ∃ p, d k = p := ⟨_, rfl⟩
      rw [hA, hp] at hnx
      rw [hA] at hz1 ⊢
      rw [hp] at dd hz3
      have z1 : ¬ 9223372036854775807 < A.size + p.size := by omega
      have HNX := Lib.hid hnx
      clear hA hp hnx hz1 hcell
      go_wp2_with fail
      go_roundw
      case rel => exact ⟨k + 1, by omega, by go_num, by rw [← HNX.out], by trivial⟩
      case measure => simp only [intOf]; omega
    · obtain rfl : k = c := by omega
      have j1 : ¬ (k : Int) < (k : Int) := by omega
      have hz1 := cat_size k d
      have hcut := HS.out
      obtain ⟨A, hA⟩ : ∃ A : ByteArray, (⟨(catD k d).toArray⟩ : ByteArray) = A := ⟨_, rfl⟩
      rw [hA] at hz1 hcut ⊢
      clear hA
      have c1 := k1.cell
      simp at c1
      have hrv := H0.out.below hB0
      have hcc := HLK.out _ hrv
      rw [HLL.out] at hcc
      have HC := Lib.hid hcc
      clear hcell hrv hcc HLL
      by_cases hfull : cntH k h = k
      · rw [if_pos hfull] at hcut
        have hl0 : ll = 0 := by omega
        subst hcut
        have HZ := Lib.hid hz1
        have HF := Lib.hid hfull
        clear hz1 hfull
        subst hl0
        go_wp2_with fail
        refine HC.out.mono ?_
        rintro e w2 ⟨v, rfl, own, hb2⟩
        obtain ⟨va, vc, rfl, _⟩ := own_open own
        clear own
        go_wp2_with fail
        go_ret2
        exact ⟨by rw [HZ.out]; rfl, below_then hB0 hb2 (Nat.le_refl _)⟩
      · rw [if_neg hfull] at hcut
        have hl0 : 0 < ll := by omega
        have HZ := Lib.hid hz1
        subst hcut
        clear hz1 hfull
        go_wp2_with fail
        refine HC.out.mono ?_
        rintro e w2 ⟨v, rfl, own, hb2⟩
        obtain ⟨va, vc, rfl, _⟩ := own_open own
        clear own
        go_wp2_with fail
        go_ret2
        exact ⟨by rw [HZ.out]; rfl, below_then hB0 hb2 (Nat.le_refl _)⟩

set_option maxHeartbeats 2000000 in
theorem law01_SameYes (a b : Option Addr) (n ca cb : Nat) (f : Nat → Int) (w : World) (SA : SliceOf w a n ca 1 (fun i => [.int .i64 (f i)])) (SB : SliceOf w b n cb 1 (fun i => [.int .i64 (f i)])) (hn : n ≤ 100000) :
    Calls Try.prog 30 #[.slice a n ca, .slice b n cb] w fun e w' => e = .returned (.bool true) ∧ Below w.heap.size w w' := by
  have j0 : ((n : Int) != (n : Int)) = false := by simp
  go_enter Try.func30, Try.ntmps30
  go_wp2_with fail
  go_loopw [13] (fun x13 wr => ∃ k : Nat, k ≤ n ∧ x13 = .int .i64 k ∧ Below w.heap.size w wr) (fun x13 _ => n - (intOf x13).toNat)
  case atStart => exact ⟨0, by omega, rfl, Below.refl _ _⟩
  case round =>
    obtain ⟨k, hk, rfl, B⟩ := hrel
    by_cases hlt : k < n
    · obtain ⟨b1, o1, rfl, l1, hc1⟩ := SA.at1 (by omega)
      obtain ⟨b2, o2, rfl, l2, hc2⟩ := SB.at1 (by omega)
      have p0 : (0 : Int) ≤ (k : Int) := by omega
      have p1 : (k : Int) < (n : Int) := by omega
      have wk : IntKind.i64.wrap ((k : Int) + 1) = ((k + 1 : Nat) : Int) := by rw [IntWalk.i64_in _ (by omega)]; omega
      have d1 := fun (gx : Ext wr) => gx.cell ((B.cell (p := ⟨b1, o1 + k, none⟩) l1).trans (hc1 k hlt)) (Nat.lt_of_lt_of_le l1 B.size)
      have d2 := fun (gx : Ext wr) => gx.cell ((B.cell (p := ⟨b2, o2 + k, none⟩) l2).trans (hc2 k hlt)) (Nat.lt_of_lt_of_le l2 B.size)
      obtain ⟨x, hx⟩ : ∃ x, f k = x := ⟨_, rfl⟩
      rw [hx] at d1 d2
      have j1 : (x != x) = false := by simp
      clear hc1 hc2 hx
      go_upto_region 6 with fail
      refine wp_region_ext (by kernel_rfl) (by kernel_rfl) ?_; (repeat (go_big_quiet_step (fail))); refine wpQuiet_nil ?_; rintro _ ⟨gq, rfl⟩
      clear d1 d2
      have B2 := below_then B gq.below (Nat.le_refl _)
      generalize gq.world = w2 at B2 ⊢
      go_wp2_with fail
      go_roundw
      case rel => exact ⟨k + 1, by omega, by go_num, B2⟩
      case measure => simp only [intOf]; omega
    · obtain rfl : k = n := by omega
      have j1 : ¬ (k : Int) < (k : Int) := by omega
      go_wp2_with fail
      go_ret
      exact ⟨rfl, B⟩
set_option maxHeartbeats 1000000 in
theorem frame_Time (g b : Nat) (time first : Int) (c : Nat) (h : Nat → Bool) (d : Nat → ByteArray) (w : World) (H : FrameIs w g b time first c h d) :
    Calls Try.prog 20 #[.pointer (some ⟨g, 0, none⟩)] w fun e w' => e = .returned (.int .u32 time) ∧ w = w' := by
  obtain ⟨_, _, D, hF, _⟩ := H
  exact split_Time g b _ time _ first _ D w hF
theorem frame_First (g b : Nat) (time first : Int) (c : Nat) (h : Nat → Bool) (d : Nat → ByteArray) (w : World) (H : FrameIs w g b time first c h d) :
    Calls Try.prog 21 #[.pointer (some ⟨g, 0, none⟩)] w fun e w' => e = .returned (.int .i64 first) ∧ w = w' := by
  obtain ⟨_, _, D, hF, _⟩ := H
  exact split_First g b _ time _ first _ D w hF
set_option maxHeartbeats 1000000 in
theorem frame_Count (g b : Nat) (time first : Int) (c : Nat) (h : Nat → Bool) (d : Nat → ByteArray) (w : World) (H : FrameIs w g b time first c h d) :
    Calls Try.prog 28 #[.pointer (some ⟨g, 0, none⟩)] w fun e w' => e = .returned (.int .i64 (c : Int)) ∧ w = w' := by
  obtain ⟨_, _, D, hF, _⟩ := H
  have c1 := hF.1.cell 1
  simp at c1
  clear hF
  go_enter Try.func28, Try.ntmps28
  go_wp2
  go_ret
  exact ⟨rfl, rfl⟩
set_option maxHeartbeats 1000000 in
theorem frame_Bytes (g b : Nat) (time first : Int) (c : Nat) (h : Nat → Bool) (d : Nat → ByteArray) (w : World) (H : FrameIs w g b time first c h d) :
    Calls Try.prog 29 #[.pointer (some ⟨g, 0, none⟩)] w fun e w' => e = .returned (.int .i64 (sumD c d)) ∧ w = w' := by
  obtain ⟨_, _, D, hF, _⟩ := H
  have c1 := hF.1.cell 4
  simp at c1
  clear hF
  go_enter Try.func29, Try.ntmps29
  go_wp2
  go_ret
  exact ⟨rfl, rfl⟩
set_option maxHeartbeats 1000000 in
theorem frame_Have (g b : Nat) (time first : Int) (c : Nat) (h : Nat → Bool) (d : Nat → ByteArray) (w : World) (H : FrameIs w g b time first c h d) :
    Calls Try.prog 19 #[.pointer (some ⟨g, 0, none⟩)] w fun e w' => e = .returned (.int .i64 (cntH c h)) ∧ w = w' := by
  obtain ⟨_, _, D, hF, hD⟩ := H
  have c1 := hF.1.cell 3
  simp at c1
  have HL := fun (ty : TypeId) => World.ownsMap.len hF.2 Try.underlying52 ty
  rw [hD.2] at HL
  clear hF hD
  go_enter Try.func19, Try.ntmps19
  go_wp2
  go_ret
  exact ⟨rfl, rfl⟩
theorem frame_IsWhole (g b : Nat) (time first : Int) (c : Nat) (h : Nat → Bool) (d : Nat → ByteArray) (r : Bool) (w : World) (H : FrameIs w g b time first c h d) (hr : decide (cntH c h = c) = r) :
    Calls Try.prog 22 #[.pointer (some ⟨g, 0, none⟩)] w fun e w' => e = .returned (.bool r) ∧ Below w.heap.size w w' := by
  obtain ⟨_, _, D, hF, hD⟩ := H
  refine split_IsWhole g b _ time c first _ D r w hF ?_
  rw [hD.2, ← hr, Bool.eq_iff_iff]
  simp
  omega
end Go.Proofs.Ytagponhnkodjhaa
