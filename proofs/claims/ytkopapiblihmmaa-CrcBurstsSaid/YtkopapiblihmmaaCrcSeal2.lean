/- The reference's Seal, walked. No condition but the texts' lengths. -/
import Derived.Test.YtkopapiblihmmaaCrcSeal
import Derived.Test.YtkopapiblihmmaaRegion
namespace Go.Proofs.Ytkopapiblihmmaa
open Go.RowKit
open Go.WideShapes (bytes_inj)
attribute [local go_sem ↓] Go.wp_at_zero Go.wp_at_succ

theorem half_odd (r : BitVec 32) (h : r.getLsbD 0 = true) : ((crcDn r).toNat : Int) = ((r.toNat ^^^ 79764919 : Nat) : Int) / 2 + 2147483648 := by
  unfold crcDn
  rw [h, if_pos rfl]
  have hlt : (r ^^^ 0x04c11db7#32).toNat = r.toNat ^^^ 79764919 := BitVec.toNat_xor ..
  have h1 := (r ^^^ 0x04c11db7#32).isLt
  rw [BitVec.toNat_or, BitVec.toNat_ushiftRight, hlt, Nat.shiftRight_eq_div_pow]
  rw [hlt] at h1
  generalize r.toNat ^^^ 79764919 = x at *
  have hx : x / 2 ^ 1 < 2147483648 := by omega
  have e : x / 2 ^ 1 ||| (0x80000000#32).toNat = x / 2 ^ 1 + 2147483648 := by
    rw [Nat.or_comm]
    have := nat_join 31 2147483648 (x / 2 ^ 1) (by decide) (by omega)
    show 2147483648 ||| _ = _
    omega
  rw [e]
  omega
theorem half_even (r : BitVec 32) (h : r.getLsbD 0 = false) : ((crcDn r).toNat : Int) = (r.toNat : Int) / 2 := by
  unfold crcDn
  rw [h, if_neg (by simp), BitVec.toNat_ushiftRight, Nat.shiftRight_eq_div_pow]
  omega
theorem lsb_mod (r : BitVec 32) : r.getLsbD 0 = decide (r.toNat % 2 = 1) := by
  show r.toNat.testBit 0 = _
  rw [Nat.testBit_zero]
set_option maxHeartbeats 1000000 in
theorem ref02_half (r s : BitVec 32) (h : crcDn r = s) (w : World) :
    Calls Try.prog 26 #[.int .i64 (r.toNat : Int)] w fun e w' => e = .returned (.int .i64 (s.toNat : Int)) ∧ w = w' := by
  subst h
  have hr := r.isLt
  have hr2 : (r.toNat : Int) ≤ 4294967295 := by omega
  have hl := lsb_mod r
  cases hb : r.getLsbD 0
  · rw [hb] at hl
    have hm : (r.toNat : Int) % 2 = 0 := by simp at hl; omega
    have hv := Lib.hid (half_even r hb)
    clear hl hb hr
    go_enter Try.func26, Try.ntmps26
    go_wp2
    go_ret
    exact ⟨ret_int hv.out.symm, rfl⟩
  · rw [hb] at hl
    have hm : (r.toNat : Int) % 2 = 1 := by simp at hl; omega
    obtain ⟨x, hx⟩ : ∃ x, r.toNat ^^^ 79764919 = x := ⟨_, rfl⟩
    have hxl : x < 4294967296 := by rw [← hx]; exact Nat.xor_lt_two_pow (n := 32) hr (by decide)
    have hv := half_odd r hb
    have hxor : bits .xor .i64 (r.toNat : Int) 79764919 = (x : Int) := by
      rw [← hx]; exact i64_xorN r.toNat 79764919 (by omega) (by omega)
    rw [hx] at hv
    have HV := Lib.hid hv
    have hx2 : (x : Int) ≤ 4294967295 := by omega
    clear hl hb hr hx hv hxl
    go_enter Try.func26, Try.ntmps26
    go_wp2
    go_ret
    exact ⟨ret_int HV.out.symm, rfl⟩

set_option maxHeartbeats 4000000 in
theorem ref02_Seal (s t : ByteArray) (k : Nat) (hs : s.size ≤ 50000) (hk : k + 4 ≤ s.size) (h : sealB s k = t) (w : World) :
    Calls Try.prog 19 #[.string s, .int .i64 (k : Int)] w fun e w' => e = .returned (.string t) ∧ Below w.heap.size w w' := by
  have H := Lib.hid h
  clear h
  have i1 : (0 : Int) ≤ (k : Int) := by omega
  have i3 : (k : Int) + 4 ≤ (s.size : Int) := by omega
  have i4 : (k : Int) ≤ (s.size : Int) := by omega
  have zA : (s.extract 0 k).size = k := by simp; omega
  have zB : (s.extract (k + 4) s.size).size = s.size - (k + 4) := by simp
  obtain ⟨A, hA⟩ : ∃ A, s.extract 0 k = A := ⟨_, rfl⟩
  obtain ⟨B, hB⟩ : ∃ B, s.extract (k + 4) s.size = B := ⟨_, rfl⟩
  rw [hA] at zA
  rw [hB] at zB
  have hA1 : A.data.toList = s.data.toList.take k := by rw [← hA, Lib.extract_data]; simp
  have hB1 : B.data.toList = s.data.toList.drop (k + 4) := by rw [← hB, Lib.extract_to_end]
  obtain ⟨X, hX⟩ : ∃ X, A ++ ⟨#[0, 0, 0, 0]⟩ ++ B = X := ⟨_, rfl⟩
  have hX1 : X.data.toList = s.data.toList.take k ++ [0, 0, 0, 0] ++ s.data.toList.drop (k + 4) := by rw [← hX, ← hA1, ← hB1]; simp
  have hXz : X.size = X.data.toList.length := by simp
  have hX2 : X.size ≤ 100000 := by
    rw [hXz, hX1]
    simp only [List.length_append, List.length_take, List.length_drop, List.length_cons, List.length_nil]
    have : s.data.toList.length = s.size := by simp
    omega
  obtain ⟨r, hr⟩ : ∃ r, remL 0#32 X.data.toList = r := ⟨_, rfl⟩
  have HREM := Lib.hid (fun W => ref02_Rem X r hX2 hr W)
  rw [hX1] at hr
  have HR := Lib.hid hr
  have HA := Lib.hid hA1
  have HB := Lib.hid hB1
  have lA : A.size ≤ 50000 := by omega
  have lB : B.size ≤ 50000 := by omega
  obtain ⟨m, hm⟩ : ∃ m, s.size - (k + 4) = m := ⟨_, rfl⟩
  have hmi : (s.size : Int) ≤ (k : Int) + 4 + (m : Int) ∧ (k : Int) + 4 + (m : Int) ≤ (s.size : Int) := by omega
  have HM := Lib.hid hm
  have HMI := Lib.hid hmi
  clear hr hX1 hA1 hB1 hX2 hXz zA zB hm hmi
  go_enter Try.func19, Try.ntmps19
  go_wp2_with fail
  refine wp_region_ext (by kernel_rfl) (by kernel_rfl) ?_; (repeat (go_big_quiet_step ((first | (go_at_call 12; with_reducible exact calls_ext _ (HREM.out _)))))); refine wpQuiet_nil ?_; rintro _ ⟨gq, rfl⟩
  obtain ⟨hmi1, hmi2⟩ := HMI.out
  go_wp2_with fail
  rw [hB]
  go_loop [5, 6] (fun x i => ∃ (j : Nat) (q : BitVec 32), j ≤ 8 * m ∧ i = .int .i64 j ∧ x = .int .i64 (q.toNat : Int) ∧ Hid (q = dns j r)) (fun _ i => 8 * m - (intOf i).toNat)
  case atStart => exact ⟨0, r, by omega, rfl, rfl, Lib.hid rfl⟩
  case round =>
    obtain ⟨j, q, hj, rfl, rfl, HQ⟩ := hrel
    by_cases hlt : j < 8 * m
    · obtain ⟨q1, hq1⟩ : ∃ q1, crcDn q = q1 := ⟨_, rfl⟩
      have HQ1 := Lib.hid hq1
      clear hq1
      go_wp2_with fail
      refine (ref02_half q q1 HQ1.out _).mono ?_
      rintro e w' ⟨rfl, rfl⟩
      go_wp2_with fail
      go_round
      case rel => exact ⟨j + 1, q1, by omega, by go_num, rfl, Lib.hid (by rw [dns_succ, ← HQ.out, HQ1.out])⟩
      case measure => simp [intOf]; omega
    · obtain rfl : j = 8 * m := by omega
      have hq := q.isLt
      have hq2 : (q.toNat : Int) ≤ 4294967295 := by omega
      clear hq
      obtain ⟨F, hF⟩ : ∃ F, strOfNums [(q.toNat : Int) / 16777216, (q.toNat : Int) / 65536 % 256, (q.toNat : Int) / 256 % 256, (q.toNat : Int) % 256] = F := ⟨_, rfl⟩
      have hF1 : F.data.toList = field q := by rw [← hF, field_nums]
      have hF2 : F.size ≤ 4 := by rw [← hF, strOfNums_size]; simp
      have hcv : ∀ n, (convert 33 9 (.slice (some ⟨gq.world.heap.size, 0, none⟩) 4 4)).run Try.prog ((gq.world.alloc (.cells #[.int .u8 ((q.toNat : Int) / 16777216), .int .u8 ((q.toNat : Int) / 65536 % 256), .int .u8 ((q.toNat : Int) / 256 % 256), .int .u8 ((q.toNat : Int) % 256)] 5)).drewN n) = .ok (.string F) ((gq.world.alloc (.cells #[.int .u8 ((q.toNat : Int) / 16777216), .int .u8 ((q.toNat : Int) / 65536 % 256), .int .u8 ((q.toNat : Int) / 256 % 256), .int .u8 ((q.toNat : Int) % 256)] 5)).drewN n) := fun n => by
        rw [← hF]
        exact conv_four _ _ _ _ _ _ (Blk.new gq.world _ _)
      have HF1 := Lib.hid hF1
      clear hF hF1
      go_wp2_with fail
      go_quiet (fail)
      go_wp2_with fail
      go_ret
      refine ⟨?_, below_drewN (gq.below.alloc gq.below.size _) _⟩
      have ht : A ++ F ++ B = t := by
        rw [← H.out]
        apply bytes_inj
        rw [sealB_list]
        unfold sealL
        have hl : (s.data.toList.drop (k + 4)).length = m := by rw [← HM.out]; simp
        have hq : q = sealF (s.data.toList.take k) (s.data.toList.drop (k + 4)) := by
          rw [HQ.out, ← HR.out]
          unfold sealF
          rw [hl]
        rw [← hq, ← HF1.out, ← HA.out, ← HB.out]
        simp
      rw [← ht]
      rfl
end Go.Proofs.Ytkopapiblihmmaa
