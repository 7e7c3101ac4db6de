/- Queue.Push refused, and the statements' fixed facts, walked. No condition but that the queue stands and the numbers' bounds. -/
import Derived.Test.YtomhnegfemdcdaaQueue4
namespace Go.Proofs.Ytomhnegfemdcdaa
open Go.RowKit BigFrame
attribute [local go_sem ↓] Go.wp_at_zero Go.wp_at_succ

set_option maxHeartbeats 2000000 in
theorem queue_PushNo (B g : Nat) (a b y : Int) (l m : List ByteArray) (ad : Option Addr) (n c : Nat) (w : World) (h : QAt w B g a b l y) (a0 : 0 ≤ a) (a1 : a ≤ 1073741824) (b0 : 0 ≤ b) (b1 : b ≤ 1073741824) (y0 : 0 ≤ y) (y1 : y ≤ 1073741824) (hl : l.length ≤ 100000) (hm : m.length = n) (n0 : 0 < n) (n1 : n ≤ 100000)
    (hS : SliceOf w ad n c 1 (fun i => [.string (m.getD i .empty)])) (hok : a - l.length < (n : Int)) :
    Calls Try.prog 21 #[.pointer (some ⟨g, 0, none⟩), .slice ad n c] w fun e w' => e = .returned (.bool false) ∧ Below w.heap.size w w' := by
  have HZ := Lib.hid (fun W h => queue_sizes ad n c m hm (by omega) W h)
  obtain ⟨v, k, own, hne, hB⟩ := h
  have hgw := k.lt
  obtain ⟨sb, so, rfl, hsb, hc⟩ := hS.at1 n0
  obtain ⟨s0, s1⟩ := sumQ_bd m
  rw [hm] at s1
  obtain ⟨s, hs⟩ : ∃ s, sumQ m = s := ⟨_, rfl⟩
  rw [hs] at s0 s1 HZ
  have o1 := hok
  have HS := Lib.hid hS
  have HM := Lib.hid hm
  obtain ⟨va, vc, hv, S⟩ := SliceOf.of_own own (fun i => .string (l.getD i .empty)) (fun i hi => by unfold textCells; simp [hi])
  have hls := S.size_le
  subst hv
  obtain ⟨ln, hln⟩ : ∃ ln, l.length = ln := ⟨_, rfl⟩
  rw [hln] at own o1 hl hls k hne
  have HLN := Lib.hid hln
  have d1 : decide (a - (ln : Int) < (n : Int)) = true := by simp; omega
  clear hS hm hs hc hln S
  go_enter Try.func21, Try.ntmps21
  go_wp2_with fail
  refine (HZ.out _ HS.out).mono ?_
  rintro e w' ⟨rfl, rfl⟩
  have E0 := fun (gx : Ext w) => gx.cell (k.cell 0) k.lt
  have E1 := fun (gx : Ext w) => gx.cell (k.cell 1) k.lt
  have E2 := fun (gx : Ext w) => gx.cell (k.cell 2) k.lt
  have E3 := fun (gx : Ext w) => gx.cell (k.cell 3) k.lt
  simp at E0 E1 E2 E3
  go_upto_region 2 with fail
  refine wp_region_ext (by kernel_rfl) (by kernel_rfl) ?_; (repeat (go_big_quiet_step (fail))); refine wpQuiet_nil ?_; rintro _ ⟨gq, rfl⟩
  clear E0 E1 E2 E3
  go_wp2_with fail
  go_ret
  exact ⟨rfl, gq.below⟩

set_option maxHeartbeats 4000000 in
theorem law20_awake (w : World) :
    Calls Try.prog 18 #[] w fun e w' => e = .returned (.bool true) ∧ Below w.heap.size w w' := by
  have s2 : sumQ [(⟨#[97]⟩ : ByteArray), (⟨#[98, 99]⟩ : ByteArray)] = 3 := by decide
  have s1 : sumQ [(⟨#[97]⟩ : ByteArray)] = 1 := by decide
  have HN := Lib.hid (queue_New 2 9 2 9 (by decide) (by decide) w)
  go_enter Try.func18, Try.ntmps18
  go_wp2_with fail
  refine HN.out.mono ?_
  rintro e w1 ⟨rfl, q1, hb1⟩
  have HP := Lib.hid (queue_Push w.heap.size w.heap.size 2 9 0 [] [(⟨#[97]⟩ : ByteArray), (⟨#[98, 99]⟩ : ByteArray)] _ 2 2 (w1.alloc (.cells #[.string (⟨#[97]⟩ : ByteArray), .string (⟨#[98, 99]⟩ : ByteArray)] 49)) (q1.below ((Below.refl _ _).alloc (Nat.le_refl _) _)) (by omega) (by omega) (by omega) (by omega) (by omega) (by omega) (by decide) rfl (by omega) (by omega) (SliceOf.lit (n := 2) (Blk.new _ _ _) rfl (by decide) (fun i => .string ([(⟨#[97]⟩ : ByteArray), (⟨#[98, 99]⟩ : ByteArray)].getD i .empty)) (fun i hi => by
    match i, hi with
    | 0, _ => rfl
    | 1, _ => rfl)) (by rw [s2]; simp))
  have B1 := hb1.alloc hb1.size (.cells #[.string (⟨#[97]⟩ : ByteArray), .string (⟨#[98, 99]⟩ : ByteArray)] 49)
  go_wp2_with fail
  refine HP.out.mono ?_
  rintro e w2 ⟨rfl, q2, hb2⟩
  have B2 := B1.trans hb2
  rw [s2] at q2
  have HQ := Lib.hid (queue_PushNo w.heap.size w.heap.size 2 9 (0 + 3) ([] ++ [(⟨#[97]⟩ : ByteArray), (⟨#[98, 99]⟩ : ByteArray)]) [(⟨#[100]⟩ : ByteArray)] _ 1 1 (w2.alloc (.cells #[.string (⟨#[100]⟩ : ByteArray)] 49)) (q2.below ((Below.refl _ _).alloc (Nat.le_refl _) _)) (by omega) (by omega) (by omega) (by omega) (by omega) (by omega) (by decide) rfl (by omega) (by omega) (SliceOf.lit (n := 1) (Blk.new _ _ _) rfl (by decide) (fun i => .string ([(⟨#[100]⟩ : ByteArray)].getD i .empty)) (fun i hi => by
    match i, hi with
    | 0, _ => rfl)) (by decide))
  have B3 := B2.alloc B2.size (.cells #[.string (⟨#[100]⟩ : ByteArray)] 49)
  have q3 := q2.below ((Below.refl _ w2).alloc (Nat.le_refl _) (.cells #[.string (⟨#[100]⟩ : ByteArray)] 49))
  go_wp2_with fail
  refine HQ.out.mono ?_
  rintro e w3 ⟨rfl, hb3⟩
  have q4 := q3.below hb3
  have B4 := below_then B3 hb3 (Nat.le_refl _)
  have HO := Lib.hid (queue_Pop w.heap.size w.heap.size 2 9 (0 + 3) (⟨#[97]⟩ : ByteArray) [(⟨#[98, 99]⟩ : ByteArray)] w3 q4 (by decide) (by omega) (by omega) (by rw [s1]; omega))
  clear q1 q2 q3 hb1 hb2 hb3 B1 B2 B3 q4
  go_wp2_with fail
  refine HO.out.mono ?_
  rintro e w5 ⟨rfl, q5, hb5⟩
  have B5 := B4.trans hb5
  rw [s1] at q5
  have HL := Lib.hid (queue_Len w.heap.size w.heap.size 2 9 (0 + 3 - 1) [(⟨#[98, 99]⟩ : ByteArray)] w5 q5)
  have HB := Lib.hid (queue_Bytes w.heap.size w.heap.size 2 9 (0 + 3 - 1) [(⟨#[98, 99]⟩ : ByteArray)] w5 q5)
  have HS := Lib.hid (text_Size (⟨#[97]⟩ : ByteArray) w5)
  clear q5 hb5 B4
  go_wp2_with fail
  refine HL.out.mono ?_
  rintro e w' ⟨rfl, rfl⟩
  go_wp2_with fail
  refine HB.out.mono ?_
  rintro e w' ⟨rfl, rfl⟩
  go_wp2_with fail
  refine HS.out.mono ?_
  rintro e w' ⟨rfl, rfl⟩
  go_wp2_with fail
  go_ret
  exact ⟨rfl, B5⟩
end Go.Proofs.Ytomhnegfemdcdaa
