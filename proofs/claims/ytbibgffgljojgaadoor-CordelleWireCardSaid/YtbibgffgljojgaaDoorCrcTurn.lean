/- Package crc's Turn and the reference's, walked: each gives the text whose bits are turned so. No condition but the texts' lengths. -/
import Derived.Test.YtbibgffgljojgaaDoorCrcTurnP
import Derived.Test.YtbibgffgljojgaaDoorCrcLinear
import Derived.Lib.BufferWrite
import Derived.Lib.SlBuf
import Derived.Laws.CopyOwn
namespace Go.Proofs.YtbibgffgljojgaaDoor
open Go.RowKit
attribute [local go_sem ↓] Go.wp_at_zero Go.wp_at_succ

theorem rowF_bytes (s : ByteArray) : (Lib.byteCells s.data.toList).toArray = rowF .u8 s.size (fun j => ((s.data.toList.getD j 0).toNat : Int)) := by
  unfold Lib.byteCells rowF
  congr 1
  apply List.ext_getElem?
  intro j
  have hl : s.data.toList.length = s.size := by simp
  by_cases hj : j < s.size
  · rw [List.getElem?_map, List.getElem?_map, List.getElem?_range hj, List.getElem?_eq_getElem (show j < s.data.toList.length by omega)]
    simp only [Option.map_some, List.getD_eq_getElem?_getD, List.getElem?_eq_getElem (show j < s.data.toList.length by omega), Option.getD_some]
  · rw [List.getElem?_eq_none (by simpa using (show s.size ≤ j by omega)), List.getElem?_eq_none (by simpa using (show s.size ≤ j by omega))]

theorem row_text (n : Nat) (g : Nat → Nat) (hg : ∀ j, g j < 256) (t : ByteArray) (ht : t.size = n) (hb : ∀ i, i < 8 * n → bitA t i = (g (i / 8)).testBit (7 - i % 8)) : strOfNums ((List.range n).map fun j => (g j : Int)) = t := by
  have hz : (strOfNums ((List.range n).map fun j => (g j : Int))).size = n := by rw [strOfNums_size]; simp
  refine text_ext _ _ (hz.trans ht.symm) (fun i hi => ?_)
  rw [hz] at hi
  rw [hb i hi]
  unfold bitA
  rw [strOfNums_data, List.getD_eq_getElem?_getD, List.getElem?_map, List.getElem?_map, List.getElem?_range (by omega)]
  simp only [Option.map_some, Option.getD_some, Int.toNat_natCast]
  rw [UInt8.toNat_ofNat', Nat.mod_eq_of_lt (hg _)]
theorem conv_text (wr : World) (g0 n : Nat) (g : Nat → Nat) (hg : ∀ j, g j < 256) (t : ByteArray) (ht : t.size = n) (hb : ∀ i, i < 8 * n → bitA t i = (g (i / 8)).testBit (7 - i % 8)) (kb : Blk wr g0 5 (rowF .u8 n (fun j => (g j : Int)))) :
    (convert 51 9 (.slice (some ⟨g0, 0, none⟩) n n)).run Tryd.prog wr = .ok (.string t) wr := by
  rw [← row_text n g hg t ht hb]
  exact run_convert_bytes_arg (P := Tryd.prog) wr 51 5 Tryd.underlying51 Tryd.underlying5 g0 0 n n ((List.range n).map fun j => (g j : Int)) (by simp) (fun i hi => by
    rw [kb.cell, Nat.zero_add, rowF_get _ _ _ _ hi]
    simp [hi]) 9 Tryd.underlying9
theorem b01_bit (d : Bool) (p q : Nat) : (b01 d * 2 ^ p).testBit q = (d && decide (p = q)) := by
  cases d
  · simp [b01]
  · simp only [b01, if_true, Nat.one_mul, Bool.true_and]
    exact Nat.testBit_two_pow
theorem msb_b01 (q : BitVec 32) : ((q.toNat : Int) / (2147483648 : Int)) = (b01 q.msb : Int) := by
  have hq := q.isLt
  rw [BitVec.msb_eq_decide]
  by_cases h : 2147483648 ≤ q.toNat
  · simp [b01, h]; omega
  · simp [b01, h]; omega
theorem turn_byte (x : Nat) (q : BitVec 32) (p : Nat) (hx : x < 256) (hp : p ≤ 7) : bits .xor .u8 (x : Int) ((q.toNat : Int) / (2147483648 : Int) * (2 : Int) ^ p % (256 : Int)) = ((x ^^^ (b01 q.msb * 2 ^ p) : Nat) : Int) := by
  have h2 : 2 ^ p ≤ 2 ^ 7 := Nat.pow_le_pow_right (by omega) hp
  have hb : b01 q.msb ≤ 1 := by cases q.msb <;> decide
  have hv : b01 q.msb * 2 ^ p < 256 := Nat.lt_of_le_of_lt (Nat.mul_le_mul hb h2) (by decide)
  have e : ((q.toNat : Int) / (2147483648 : Int) * (2 : Int) ^ p % (256 : Int)) = ((b01 q.msb * 2 ^ p : Nat) : Int) := by
    rw [msb_b01]
    have h3 : ((b01 q.msb : Int) * (2 : Int) ^ p) = ((b01 q.msb * 2 ^ p : Nat) : Int) := by rw [Int.natCast_mul, Int.natCast_pow]; rfl
    rw [h3]; omega
  rw [e, u8_xor_nat _ _ hx hv]
theorem msb_tbit (mask : BitVec 32) (at_ k : Nat) (h : at_ ≤ k) : (mask <<< (k - at_)).msb = tbit at_ mask k := by
  rw [BitVec.msb_eq_getLsbD_last, BitVec.getLsbD_shiftLeft]
  unfold tbit
  by_cases h2 : k < at_ + 32
  · have h3 : ¬ 31 < k - at_ := by omega
    simp [h, h2, h3]
  · have h3 : 31 < k - at_ := by omega
    simp [h, h2, h3]
theorem zero_tbit (mask : BitVec 32) (at_ k i : Nat) (h : at_ ≤ k) (h0 : mask <<< (k - at_) = 0#32) (hi : k ≤ i) : tbit at_ mask i = false := by
  unfold tbit
  by_cases h2 : i < at_ + 32
  · have h1 := congrArg (fun x : BitVec 32 => x.getLsbD (31 - (i - k))) h0
    simp only [BitVec.getLsbD_shiftLeft, BitVec.getLsbD_zero] at h1
    have e : 31 - (i - k) - (k - at_) = 31 - (i - at_) := by omega
    have h3 : ¬ 31 - (i - k) < k - at_ := by omega
    have h4 : 31 - (i - k) < 32 := by omega
    rw [e] at h1
    simp only [h3, h4, decide_true, decide_false, Bool.not_false, Bool.true_and] at h1
    rw [h1]; simp
  · simp [h2]
theorem turn_step (s : ByteArray) (at_ : Nat) (mask q : BitVec 32) (k n : Nat) (g : Nat → Nat) (h : at_ ≤ k) (hq : q = mask <<< (k - at_)) (hI : ∀ i, i < 8 * n → (g (i / 8)).testBit (7 - i % 8) = (bitA s i ^^ (tbit at_ mask i && decide (i < k)))) :
    ∀ i, i < 8 * n → ((fun j => if j = k / 8 then g j ^^^ (b01 q.msb * 2 ^ (7 - k % 8)) else g j) (i / 8)).testBit (7 - i % 8) = (bitA s i ^^ (tbit at_ mask i && decide (i < k + 1))) := by
  intro i hi
  have hd := hI i hi
  simp only
  by_cases hik : i = k
  · subst hik
    rw [if_pos rfl, Nat.testBit_xor, hd, b01_bit, hq, msb_tbit mask at_ i h]
    simp
  · have hlt : decide (i < k + 1) = decide (i < k) := by
      by_cases h2 : i < k
      · simp [h2]; omega
      · simp [h2]; omega
    rw [hlt]
    by_cases hj : i / 8 = k / 8
    · rw [if_pos hj, Nat.testBit_xor, hd, b01_bit]
      have : ¬ (7 - k % 8 = 7 - i % 8) := by omega
      simp [this]
    · rw [if_neg hj, hd]
set_option maxRecDepth 8000 in
set_option maxHeartbeats 4000000 in
theorem crc_Turn (s t : ByteArray) (a1 : Int) (at_ : Nat) (mask : BitVec 32) (hs : s.size ≤ 100000) (hat : max 0 (min a1 (8 * s.size)) = at_) (h : IsTurn s t at_ mask) (w : World) :
    Calls Tryd.prog 13 #[.string s, .int .i64 a1, .int .u32 (mask.toNat : Int)] w fun e w' => e = .returned (.string t) ∧ Below w.heap.size w w' := by
  obtain ⟨i0, hi0, hz0, hz1, hz2⟩ := info_parts (show (Tryd.prog.info? 5).map (fun i => (i.zero, i.size, i.bytes)) = some (some (.int .u8 0), 1, 1) by kernel_rfl)
  obtain ⟨n, hn⟩ : ∃ n, s.size = n := ⟨_, rfl⟩
  have hn5 : n ≤ 100000 := by omega
  rw [hn] at hat
  have hat8 : at_ ≤ 8 * n := by omega
  have HN := Lib.hid hn
  have HT := Lib.hid h
  have hmk : ∀ W : World, (Instr.makeSlice 51 (.int .i64 (n : Int)) (.int .i64 (n : Int))).run Tryd.prog W = .ok (.slice (some ⟨W.heap.size, 0, none⟩) n n) (W.alloc (.cells (rowF .u8 n (fun _ => 0)) 5)) := fun W => by
    have h := run_make (P := Tryd.prog) W 51 5 i0 (.int .u8 0) Tryd.underlying51 hi0 hz0 .i64 .i64 (n : Int) (n : Int) (by omega) (by omega) (by rw [hz2]; omega) (by omega)
    simp only [Int.toNat_natCast] at h
    rw [h, hz1, Nat.mul_one]
    show _ = Result.ok _ (W.alloc (.cells (rowF .u8 n (fun _ => 0)) 5))
    rw [← madeF]
    rfl
  obtain ⟨w2, hcp, k2, B2⟩ : ∃ w2, (Builtin.copy_ #[51, 9] 3 #[.slice (some ⟨w.heap.size, 0, none⟩) n n, .string s]).run Tryd.prog (w.alloc (.cells (rowF .u8 n (fun _ => 0)) 5)) = .ok (.int .i64 (n : Int)) w2 ∧
      Blk w2 w.heap.size 5 (rowF .u8 n (fun j => ((s.data.toList.getD j 0).toNat : Int))) ∧ Below w.heap.size w w2 := by
    have k1 := Blk.new w 5 (rowF .u8 n (fun _ => 0))
    have hcp := Lib.run_copy_row_string (P := Tryd.prog) (w.alloc (.cells (rowF .u8 n (fun _ => 0)) 5)) 51 9 3 5 w.heap.size 0 n n s (rowF .u8 n (fun _ => 0)) 5 Tryd.underlying51 (by kernel_rfl) k1 (by omega) (by rw [rowF_size]; omega)
    refine ⟨_, by rw [hcp, hn]; rfl, ?_, below_setRow ((Below.refl _ w).alloc (Nat.le_refl _) _) (Nat.le_refl _) _⟩
    have h := setRow_heap (w.alloc (.cells (rowF .u8 n (fun _ => 0)) 5)) w.heap.size _ ((rowF .u8 n (fun _ => 0)).toList.take 0 ++ Lib.byteCells s.data.toList ++ (rowF .u8 n (fun _ => 0)).toList.drop (0 + n)).toArray 5 (0, 0) k1
    unfold Blk
    rw [h]
    have hd : (rowF .u8 n (fun _ => 0)).toList.drop (0 + n) = [] := List.drop_of_length_le (by rw [Array.length_toList, rowF_size]; omega)
    rw [hd, List.append_nil, List.take_zero, List.nil_append, rowF_bytes, hn]
  clear h
  go_enter Tryd.func13, Tryd.ntmps13
  go_wp2_with fail
  clear hcp hmk hat hn
  go_loopw [2, 8] (fun x i wr => ∃ (k : Nat) (q : BitVec 32) (g : Nat → Nat), at_ ≤ k ∧ k ≤ 8 * n ∧ i = .int .i64 k ∧ x = .int .u32 (q.toNat : Int) ∧ Hid (q = mask <<< (k - at_)) ∧ Blk wr w.heap.size 5 (rowF .u8 n (fun j => (g j : Int))) ∧
      Hid (∀ j, g j < 256) ∧ Hid (∀ i, i < 8 * n → (g (i / 8)).testBit (7 - i % 8) = (bitA s i ^^ (tbit at_ mask i && decide (i < k)))) ∧ Below w.heap.size w wr) (fun _ i _ => 8 * n - (intOf i).toNat)
  case atStart =>
    refine ⟨at_, mask, fun j => (s.data.toList.getD j 0).toNat, Nat.le_refl _, hat8, rfl, rfl, Lib.hid (by simp), k2, Lib.hid (fun j => UInt8.toNat_lt _), Lib.hid (fun i hi => ?_), B2⟩
    unfold bitA tbit
    by_cases h1 : at_ ≤ i
    · have : ¬ i < at_ := by omega
      simp [this]
    · simp [h1]
  case round =>
    clear k2 B2
    obtain ⟨k, q, g, hk1, hk2, rfl, rfl, HQ, kb, HG, HI, hB⟩ := hrel
    by_cases hq0 : q = 0#32
    · have hT := HT.out
      have hn := HN.out
      have h0 : mask <<< (k - at_) = 0#32 := by rw [← HQ.out, hq0]
      have hcv := conv_text wr w.heap.size n g HG.out t (hT.1.trans hn) (fun i hi => by
        rw [hT.2 i (by rw [hn]; exact hi), HI.out i hi]
        by_cases h : i < k
        · simp [h]
        · rw [zero_tbit mask at_ k i hk1 h0 (by omega)]; simp) kb
      have hqn : ((q.toNat : Int) != 0) = false := by rw [hq0]; rfl
      clear hT hn h0
      go_wp2_with fail
      go_ret
      exact ⟨rfl, hB⟩
    · have hqn : ((q.toNat : Int) != 0) = true := by
        rw [bne_iff_ne]; intro h; apply hq0; apply BitVec.eq_of_toNat_eq; simp; omega
      by_cases hlt : k < 8 * n
      · have hj : k / 8 < n := by omega
        have c0 := kb.cell (k / 8)
        have f0 := kb.frozen (k / 8)
        rw [rowF_get _ _ _ _ hj] at c0
        have i1 : (0 : Int) ≤ (k : Int) / 8 := by omega
        have i2 : (k : Int) / 8 < (n : Int) := by omega
        have i3 : (0 : Int) ≤ 7 - (k : Int) % 8 := by omega
        have i4 : (7 - (k : Int) % 8) ≤ 7 := by omega
        have hx := turn_byte (g (k / 8)) q (7 - k % 8) (HG.out _) (by omega)
        obtain ⟨z, hz⟩ : ∃ z : Nat, g (k / 8) ^^^ (b01 q.msb * 2 ^ (7 - k % 8)) = z := ⟨_, rfl⟩
        rw [hz] at hx
        have hzl : z < 256 := by
          rw [← hz]
          refine Nat.xor_lt_two_pow (n := 8) (HG.out _) ?_
          have h2 : 2 ^ (7 - k % 8) ≤ 2 ^ 7 := Nat.pow_le_pow_right (by omega) (by omega)
          have hb : b01 q.msb ≤ 1 := by cases q.msb <;> decide
          exact Nat.lt_of_le_of_lt (Nat.mul_le_mul hb h2) (by decide)
        have hst := turn_step s at_ mask q k n g hk1 HQ.out HI.out
        have HZ := Lib.hid hz
        have HST := Lib.hid hst
        clear hz hst
        have hq1 : q <<< 1 = mask <<< (k + 1 - at_) := by
          rw [HQ.out, ← BitVec.shiftLeft_add]; congr 1; omega
        have HQ1 := Lib.hid hq1
        have hsh := bv_shl1 q
        clear hq1
        obtain ⟨q1, hqq⟩ : ∃ q1, q <<< 1 = q1 := ⟨_, rfl⟩
        rw [hqq] at hsh
        have HQQ := Lib.hid hqq
        have HSH := Lib.hid hsh
        clear hqq hsh
        go_upto_region 7 with fail
        go_region
        go_wp2_with fail
        go_roundw
        case rel =>
          refine ⟨k + 1, q1, fun j => if j = k / 8 then g j ^^^ (b01 q.msb * 2 ^ (7 - k % 8)) else g j, by omega, by omega, by go_num, congrArg (Value.int .u32) HSH.out, Lib.hid (by rw [← HQQ.out]; exact HQ1.out), ?_, Lib.hid ?_, HST, (hB.setCell (Nat.le_refl _) _).drew⟩
          · have := kb.set_ (k / 8) (.int .u8 (z : Int))
            rw [rowF_set] at this
            refine (show Blk _ _ _ _ from this.drew).trans ?_
            congr 2
            apply rowF_congr
            intro i hi
            simp only
            by_cases h : i = k / 8
            · subst h
              rw [if_pos rfl, if_pos rfl, HZ.out]
            · rw [if_neg h, if_neg h]
          · intro j
            simp only
            by_cases h : j = k / 8
            · subst h
              rw [if_pos rfl, HZ.out]; exact hzl
            · rw [if_neg h]; exact HG.out j
        case measure => simp only [intOf]; omega
      · obtain rfl : k = 8 * n := by omega
        have hT := HT.out
        have hn := HN.out
        have hcv := conv_text wr w.heap.size n g HG.out t (hT.1.trans hn) (fun i hi => by
          rw [hT.2 i (by rw [hn]; exact hi), HI.out i hi]
          simp [hi]) kb
        clear hT hn
        go_wp2_with fail
        go_ret
        exact ⟨rfl, hB⟩
end Go.Proofs.YtbibgffgljojgaaDoor
