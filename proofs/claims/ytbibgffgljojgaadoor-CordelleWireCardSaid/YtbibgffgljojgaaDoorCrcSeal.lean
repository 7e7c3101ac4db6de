/- Package crc's Seal and the reference's, walked: each gives the sealed text. No condition but the texts' lengths. -/
import Derived.Test.YtbibgffgljojgaaDoorCrcSealP
import Derived.Test.YtbibgffgljojgaaDoorCrcTurn
import Derived.Lib.IndexBytes
import Derived.Test.YtbibgffgljojgaaDoorRegion
namespace Go.Proofs.YtbibgffgljojgaaDoor
open Go.RowKit
open Go.WideShapes (bytes_inj)
attribute [local go_sem ↓] Go.wp_at_zero Go.wp_at_succ

theorem SliceOf.lit3 {w : World} {g : Nat} {t : TypeId} {a b c : Value} (h : Blk w g t #[a, b, c]) : SliceOf w (some ⟨g, 0, none⟩) 3 3 1 (fun i => [if i = 0 then a else if i = 1 then b else c]) :=
  SliceOf.lit (n := 3) h rfl (by decide) (fun i => if i = 0 then a else if i = 1 then b else c) (fun i hi => by
    match i, hi with
    | 0, _ => rfl
    | 1, _ => rfl
    | 2, _ => rfl)
def sealB (s : ByteArray) (k : Nat) : ByteArray := ⟨(sealL (s.data.toList.take k) (s.data.toList.drop (k + 4))).toArray⟩
theorem sealB_list (s : ByteArray) (k : Nat) : (sealB s k).data.toList = sealL (s.data.toList.take k) (s.data.toList.drop (k + 4)) := rfl
theorem sealB_size (s : ByteArray) (k : Nat) (h : k + 4 ≤ s.size) : (sealB s k).size = s.size := by
  have : (sealB s k).size = (sealB s k).data.toList.length := by simp
  rw [this, sealB_list]
  unfold sealL field
  simp
  omega
theorem texts_three (a b c : ByteArray) : textsL (fun i => if i = 0 then a else if i = 1 then b else c) 3 = a.data.toList ++ b.data.toList ++ c.data.toList := by rw [textsL_succ, textsL_succ, textsL_succ]; rfl

theorem field_nums (q : BitVec 32) : (strOfNums [(q.toNat : Int) / 16777216, (q.toNat : Int) / 65536 % 256, (q.toNat : Int) / 256 % 256, (q.toNat : Int) % 256]).data.toList = field q := by
  rw [strOfNums_data]
  unfold field
  simp only [List.map_cons, List.map_nil]
  have h1 : ((q.toNat : Int) / 16777216).toNat = q.toNat / 16777216 := by omega
  have h2 : ((q.toNat : Int) / 65536 % 256).toNat = q.toNat / 65536 % 256 := by omega
  have h3 : ((q.toNat : Int) / 256 % 256).toNat = q.toNat / 256 % 256 := by omega
  have h4 : ((q.toNat : Int) % 256).toNat = q.toNat % 256 := by omega
  rw [h1, h2, h3, h4]
theorem conv_four (W : World) (g : Nat) (a b c d : Int) (h : Blk W g 5 #[.int .u8 a, .int .u8 b, .int .u8 c, .int .u8 d]) :
    (convert 51 9 (.slice (some ⟨g, 0, none⟩) 4 4)).run Tryd.prog W = .ok (.string (strOfNums [a, b, c, d])) W :=
  run_convert_bytes_arg (P := Tryd.prog) W 51 5 Tryd.underlying51 Tryd.underlying5 g 0 4 4 [a, b, c, d] rfl (fun i hi => by
    rw [h.cell, Nat.zero_add]
    match i, hi with
    | 0, _ => rfl
    | 1, _ => rfl
    | 2, _ => rfl
    | 3, _ => rfl) 9 Tryd.underlying9
theorem conv_one (W : World) (g : Nat) (a : Int) (h : Blk W g 5 #[.int .u8 a]) :
    (convert 51 9 (.slice (some ⟨g, 0, none⟩) 1 1)).run Tryd.prog W = .ok (.string (strOfNums [a])) W :=
  run_convert_bytes_arg (P := Tryd.prog) W 51 5 Tryd.underlying51 Tryd.underlying5 g 0 1 1 [a] rfl (fun i hi => by
    rw [h.cell, Nat.zero_add]
    match i, hi with
    | 0, _ => rfl) 9 Tryd.underlying9
set_option maxHeartbeats 4000000 in
theorem crc_Seal (s t : ByteArray) (k : Nat) (hs : s.size ≤ 100000) (hk : k + 4 ≤ s.size) (h : sealB s k = t) (w : World) :
    Calls Tryd.prog 10 #[.string s, .int .i64 (k : Int)] w fun e w' => e = .returned (.tuple #[.string t, .bool true]) ∧ Below w.heap.size w w' := by
  have H := Lib.hid h
  clear h
  have i1 : (0 : Int) ≤ (k : Int) := by omega
  have i2 : (k : Int) ≤ (s.size : Int) - 4 := by omega
  have i3 : (k : Int) + 4 ≤ (s.size : Int) := by omega
  have i4 : (k : Int) ≤ (s.size : Int) := by omega
  go_enter Tryd.func10, Tryd.ntmps10
  go_wp2_with fail
  go_quiet (fail)
  go_wp2_with fail
  obtain ⟨A, hA⟩ : ∃ A, s.extract 0 k = A := ⟨_, rfl⟩
  obtain ⟨B, hB⟩ : ∃ B, s.extract (k + 4) s.size = B := ⟨_, rfl⟩
  obtain ⟨m, hm⟩ : ∃ m, B.size = m := ⟨_, rfl⟩
  have hA1 : A.data.toList = s.data.toList.take k := by rw [← hA, Lib.extract_data]; simp
  have hB1 : B.data.toList = s.data.toList.drop (k + 4) := by rw [← hB, Lib.extract_to_end]
  have hm1 : m = s.size - (k + 4) := by rw [← hm, ← hB]; simp
  have hk1 : A.size = k := by rw [← hA]; simp; omega
  rw [hA, hB]
  obtain ⟨r, hr⟩ : ∃ r, remL 0#32 (A.data.toList ++ [0, 0, 0, 0] ++ B.data.toList) = r := ⟨_, rfl⟩
  have HA := Lib.hid hA1
  have HB := Lib.hid hB1
  have HM1 := Lib.hid hm1
  have HK1 := Lib.hid hk1
  have HMM := Lib.hid hm
  have HR := Lib.hid hr
  have hm5 : m ≤ 100000 := by omega
  have hA5 : A.size ≤ 100000 := by omega
  clear hA hB hA1 hB1 hm1 hk1 hr
  refine (crc_Rem _ 3 3 (fun i => if i = 0 then A else if i = 1 then ⟨#[0, 0, 0, 0]⟩ else B) r _ (by
    have := SliceOf.lit3 (Blk.new (w.drewN nq) 9 #[.string A, .string ⟨#[0, 0, 0, 0]⟩, .string B])
    refine ⟨this.1, this.2.1, fun hp => ?_⟩
    obtain ⟨b, off, e, hb, hc⟩ := this.2.2 hp
    refine ⟨b, off, e, hb, fun i hi j v hv => hc i hi j v ?_⟩
    rw [← hv]
    match i, hi with
    | 0, _ => rfl
    | 1, _ => rfl
    | 2, _ => rfl) (fun i _ => by
    rw [maxLen_eq]
    split
    · omega
    · split
      · decide
      · omega) (by rw [texts_three]; exact HR.out)).mono ?_
  rintro e w' ⟨rfl, rfl⟩
  go_wp2_with fail
  go_loop [8, 33] (fun x i => ∃ (j : Nat) (q : BitVec 32), j ≤ 8 * m ∧ i = .int .i64 j ∧ x = .int .u32 (q.toNat : Int) ∧ Hid (q = dns j r)) (fun _ i => 8 * m - (intOf i).toNat)
  case atStart => exact ⟨0, r, by omega, rfl, rfl, Lib.hid rfl⟩
  case round =>
    obtain ⟨j, q, hj, rfl, rfl, HQ⟩ := hrel
    by_cases hlt : j < 8 * m
    · obtain ⟨q1, hq1⟩ : ∃ q1, crcDn q = q1 := ⟨_, rfl⟩
      have HQ1 := Lib.hid hq1
      clear hq1
      go_wp2_with fail
      refine (crc_down q q1 HQ1.out _).mono ?_
      rintro e w' ⟨rfl, rfl⟩
      go_wp2_with fail
      go_round
      case rel => exact ⟨j + 1, q1, by omega, by go_num, rfl, Lib.hid (by rw [dns_succ, ← HQ.out, HQ1.out])⟩
      case measure => simp [intOf]; omega
    · obtain rfl : j = 8 * m := by omega
      obtain ⟨F, hF⟩ : ∃ F, strOfNums [(q.toNat : Int) / 16777216, (q.toNat : Int) / 65536 % 256, (q.toNat : Int) / 256 % 256, (q.toNat : Int) % 256] = F := ⟨_, rfl⟩
      have hF1 : F.data.toList = field q := by rw [← hF, field_nums]
      have hF2 : F.size ≤ 4 := by rw [← hF, strOfNums_size]; simp
      have hcv : (convert 51 9 (.slice (some ⟨w.heap.size + 1, 0, none⟩) 4 4)).run Tryd.prog (((w.drewN nq).alloc (.cells #[.string A, .string ⟨#[0, 0, 0, 0]⟩, .string B] 9)).alloc (.cells #[.int .u8 ((q.toNat : Int) / 16777216), .int .u8 ((q.toNat : Int) / 65536 % 256), .int .u8 ((q.toNat : Int) / 256 % 256), .int .u8 ((q.toNat : Int) % 256)] 5)) = .ok (.string F) (((w.drewN nq).alloc (.cells #[.string A, .string ⟨#[0, 0, 0, 0]⟩, .string B] 9)).alloc (.cells #[.int .u8 ((q.toNat : Int) / 16777216), .int .u8 ((q.toNat : Int) / 65536 % 256), .int .u8 ((q.toNat : Int) / 256 % 256), .int .u8 ((q.toNat : Int) % 256)] 5)) := by
        rw [← hF]
        exact conv_four _ _ _ _ _ _ (Blk.new1 (w.drewN nq) _ _ _)
      have HF1 := Lib.hid hF1
      clear hF hF1
      go_wp2_with fail
      go_ret2
      refine ⟨?_, ((below_drewN (Below.refl _ w) nq).alloc (Nat.le_refl _) _).alloc (by simp) _⟩
      have ht : A ++ F ++ B = t := by
        rw [← H.out]
        apply bytes_inj
        rw [sealB_list]
        unfold sealL
        have hl : (s.data.toList.drop (k + 4)).length = m := by rw [HM1.out]; simp
        have hq : q = sealF (s.data.toList.take k) (s.data.toList.drop (k + 4)) := by
          rw [HQ.out, ← HR.out, HA.out, HB.out]
          unfold sealF
          rw [hl]
        rw [← hq, ← HF1.out, ← HA.out, ← HB.out]
        simp
      rw [← ht]
      rfl

set_option maxHeartbeats 4000000 in
theorem crc_Seal_no (s : ByteArray) (a1 : Int) (hs : s.size ≤ 100000) (h : a1 < 0 ∨ (s.size : Int) - 4 < a1) (w : World) :
    Calls Tryd.prog 10 #[.string s, .int .i64 a1] w fun e w' => e = .returned (.tuple #[.string ⟨#[]⟩, .bool false]) ∧ w = w' := by
  by_cases h1 : a1 < 0
  · go_enter Tryd.func10, Tryd.ntmps10
    go_wp2_with fail
    go_ret2
    exact ⟨rfl, rfl⟩
  · have h2 : (s.size : Int) - 4 < a1 := by omega
    clear h
    go_enter Tryd.func10, Tryd.ntmps10
    go_wp2_with fail
    go_ret2
    exact ⟨rfl, rfl⟩
end Go.Proofs.YtbibgffgljojgaaDoor
