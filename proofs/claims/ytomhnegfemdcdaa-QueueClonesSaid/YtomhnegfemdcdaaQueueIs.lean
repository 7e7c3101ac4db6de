/- The statements' Is of queues. No condition but that both stand, of the same texts. -/
import Derived.Test.YtomhnegfemdcdaaQueueRef3
namespace Go.Proofs.Ytomhnegfemdcdaa
open Go.RowKit BigFrame
attribute [local go_sem ↓] Go.wp_at_zero Go.wp_at_succ

set_option maxHeartbeats 4000000 in
theorem law20_Is (g : Nat) (x : Value) (a b : Int) (l : List ByteArray) (v sv : Value) (w : World) (h : QV w g a b l (sumQ l) v) (R : RQ w x a b l sv) (a0 : 0 ≤ a) (a1 : a ≤ 1073741824) (b0 : 0 ≤ b) (b1 : b ≤ 1073741824) (hl : l.length ≤ 10000) (hs : ∀ s ∈ l, s.size ≤ 1000000) (hy : sumQ l ≤ 1073741824) :
    Calls Try.prog 26 #[.pointer (some ⟨g, 0, none⟩), x] w fun e w' => e = .returned (.bool true) ∧ Below w.heap.size w w' := by
  obtain ⟨ra, rc, rfl, SL⟩ := R.slice_
  obtain ⟨rfl, ownR⟩ := R
  clear ownR
  obtain ⟨y0, -⟩ := sumQ_bd l
  obtain ⟨n, hn⟩ : ∃ n, l.length = n := ⟨_, rfl⟩
  obtain ⟨y, hyy⟩ : ∃ y, sumQ l = y := ⟨_, rfl⟩
  obtain ⟨A1, hA1⟩ : ∃ q, a - (n : Int) = q := ⟨_, rfl⟩
  obtain ⟨B1, hB1⟩ : ∃ q, b - y = q := ⟨_, rfl⟩
  have HN := Lib.hid hn
  rw [hyy] at h hy y0
  rw [hn] at hl SL ⊢
  have wA : IntKind.i64.wrap (a - (n : Int)) = A1 := by rw [← hA1]; exact IntWalk.i64_in _ (by omega)
  have wB : IntKind.i64.wrap (b - y) = B1 := by rw [← hB1]; exact IntWalk.i64_in _ (by omega)
  have HAll := Lib.hid (fun (W : World) (q : QV W g a b l y v) => queue_All g a b y l v W q (by omega))
  have HRoom := Lib.hid (fun (W : World) (q : QV W g a b l y v) => queue_Room g a b y l v W q a0 a1 b0 b1 y0 hy (by omega))
  rw [hn] at HAll HRoom
  simp only [hA1, hB1] at HRoom
  have HLen := Lib.hid (fun (W : World) (q : QV W g a b l y v) => queue_Len 0 g a b y l W q.at)
  rw [hn] at HLen
  have HByt := Lib.hid (fun (W : World) (q : QV W g a b l y v) => queue_Bytes 0 g a b y l W q.at)
  have HRef := Lib.hid (fun (W : World) (S : SliceOf W ra n rc 1 (fun i => [.string (l.getD i .empty)])) => ref20_Bytes ra n rc l hn (by omega) hs W S)
  rw [hyy] at HRef
  have HFr := Lib.hid (fun (W : World) (q : QV W g a b l y v) => queue_Front 0 g a b y l W q.at)
  clear hA1 hB1 hyy hs hn
  have K0 := Blk.new w 58 #[.int .i64 a, .int .i64 b, .slice ra n rc]
  have B0 : Below w.heap.size w (w.alloc (.cells #[.int .i64 a, .int .i64 b, .slice ra n rc] 58)) := (Below.refl _ w).alloc (Nat.le_refl _) _
  go_enter Try.func26, Try.ntmps26
  go_upto_region 1 with fail
  generalize w.alloc (.cells #[.int .i64 a, .int .i64 b, .slice ra n rc] 58) = w1 at *
  have q1 := h.below B0
  have S1 := SL.below B0
  have s1 := B0.size
  go_wp2_with fail
  refine (HAll.out w1 q1).mono ?_
  rintro e w2 ⟨v2, rfl, own2, B2⟩
  obtain ⟨va, vc, rfl, S2⟩ := SliceOf.of_own own2 (fun i => .string (l.getD i .empty)) (fun i hi => by have := HN.out; unfold textCells; simp [this, hi])
  go_wp2_with fail
  have q2 := q1.below B2
  refine (HRoom.out w2 q2).mono ?_
  rintro e w3 ⟨rfl, B3⟩
  have q3 := q2.below B3
  have B23 := below_then B2 B3 (Nat.le_refl _)
  have K3 := K0.below B23 K0.lt
  have S3 := (S1.below B23)
  have T3 := S2.below B3
  have B03 : Below w.heap.size w w3 := below_then B0 B23 (Nat.le_refl _)
  have s3 := B03.size
  clear K0 q1 q2 S1 S2 own2
  go_upto_region 3 with fail
  have HL := Lib.hid (fun (gx : Ext w3) => HLen.out gx.world (q3.below gx.below))
  have HB := Lib.hid (fun (gx : Ext w3) => HByt.out gx.world (q3.below gx.below))
  have HR := Lib.hid (fun (gx : Ext w3) => HRef.out gx.world (S3.below gx.below))
  have E0 := fun (gx : Ext w3) => gx.cell (K3.cell 0) K3.lt
  have E1 := fun (gx : Ext w3) => gx.cell (K3.cell 1) K3.lt
  have E2 := fun (gx : Ext w3) => gx.cell (K3.cell 2) K3.lt
  simp at E0 E1 E2
  refine wp_region_ext (by kernel_rfl) (by kernel_rfl) ?_; (repeat (go_big_quiet_step ((first | (go_at_call 27; with_reducible exact calls_ext_same _ (HL.out _)) | (go_at_call 23; with_reducible exact calls_ext_same _ (HB.out _)) | (go_at_call 44; with_reducible exact calls_ext_same _ (HR.out _)))))); refine wpQuiet_nil ?_; rintro _ ⟨gq, rfl⟩
  have B34 := gq.below
  generalize gq.world = w4 at *
  have q4 := q3.below B34
  have K4 := K3.below B34 K3.lt
  have S4 := S3.below B34
  have T4 := T3.below B34
  have B04 : Below w.heap.size w w4 := below_then B03 B34 (Nat.le_refl _)
  have c4 := K4.cell
  simp at c4
  clear E0 E1 E2 HL HB HR q3 K3 S3 T3
  go_wp2_with fail
  go_loopw [63] (fun i wr => ∃ k : Nat, k ≤ n ∧ i = .int .i64 k ∧ w4 = wr) (fun i _ => n - (intOf i).toNat)
  case atStart => exact ⟨0, by omega, rfl, rfl⟩
  case round =>
    obtain ⟨k, hk, rfl, rfl⟩ := hrel
    by_cases hlt : k < n
    · obtain ⟨b0', off, rfl, hb, hc⟩ := S4.at1 (by omega)
      have d := hc k hlt
      obtain ⟨b2', off2, rfl, hb2, hc2⟩ := T4.at1 (by omega)
      have d2 := hc2 k hlt
      obtain ⟨s, hss⟩ : ∃ s, l.getD k .empty = s := ⟨_, rfl⟩
      rw [hss] at d d2
      have i1 : (k : Int) < (n : Int) := by omega
      have i0 : (0 : Int) ≤ (k : Int) := by omega
      have wk : IntKind.i64.wrap ((k : Int) + 1) = ((k + 1 : Nat) : Int) := by rw [IntWalk.i64_in _ (by omega)]; omega
      clear hss hc hc2
      go_wp2_with fail
      go_roundw
      case rel => exact ⟨k + 1, by omega, by go_num, by trivial⟩
      case measure => simp only [intOf]; omega
    · obtain rfl : k = n := by omega
      have j1 : ¬ (k : Int) < (k : Int) := by omega
      go_upto_region 11 with fail
      clear j1 hlt S4
      have HF := HFr.out w4 q4
      clear HFr HLen HByt HRef HRoom HAll
      match l, HN, HF with
      | [], HN, HF =>
        obtain rfl : k = 0 := HN.out.symm
        have T5 := Lib.hid T4
        clear T4 HN
        simp only [List.headD_nil, List.isEmpty_nil, Bool.not_true] at HF
        go_wp2_with fail
        refine HF.mono ?_
        rintro e w5 ⟨rfl, rfl⟩
        go_wp2_with fail
        go_ret
        exact ⟨rfl, B04⟩
      | s :: l', HN, HF =>
        have hk1 : l'.length + 1 = k := HN.out
        obtain ⟨b2', off2, rfl, hb2, hc2⟩ := T4.at1 (by omega)
        have d2 := hc2 0 (by omega)
        simp at d2
        have i1 : (0 : Int) < (k : Int) := by omega
        have i2 : 0 < k := by omega
        have T5 := Lib.hid T4
        clear T4 HN hc2 hk1
        simp only [List.headD_cons, List.isEmpty_cons, Bool.not_false] at HF
        go_wp2_with fail
        refine HF.mono ?_
        rintro e w5 ⟨rfl, rfl⟩
        go_wp2_with fail
        go_ret
        exact ⟨rfl, B04⟩
end Go.Proofs.Ytomhnegfemdcdaa
