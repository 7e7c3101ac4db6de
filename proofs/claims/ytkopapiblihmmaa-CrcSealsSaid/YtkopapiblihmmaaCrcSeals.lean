/- The statement CrcSeals, walked: it returns true. No condition but the frame's. -/
import Derived.Test.YtkopapiblihmmaaCrcSeal2
namespace Go.Proofs.Ytkopapiblihmmaa
open Go.RowKit
open Go.WideShapes (bytes_inj)
attribute [local go_sem ↓] Go.wp_at_zero Go.wp_at_succ

theorem seal_parts (s : ByteArray) (k : Nat) (h : k + 4 ≤ s.size) :
    (sealB s k).extract 0 k = s.extract 0 k ∧ (sealB s k).extract (k + 4) s.size = s.extract (k + 4) s.size := by
  have hl : s.data.toList.length = s.size := by simp
  have h1 : (s.data.toList.take k).length = k := by rw [List.length_take]; omega
  constructor
  · apply bytes_inj
    rw [Lib.extract_data, Lib.extract_data, sealB_list]
    unfold sealL
    rw [List.append_assoc]
    simp only [List.drop_zero, Nat.sub_zero]
    rw [List.take_append_of_le_length (by omega), List.take_of_length_le (by omega)]
  · apply bytes_inj
    have e : (sealB s k).extract (k + 4) s.size = (sealB s k).extract (k + 4) (sealB s k).size := by rw [sealB_size s k h]
    rw [e, Lib.extract_to_end, Lib.extract_to_end, sealB_list]
    unfold sealL
    have hf : (s.data.toList.take k ++ field (sealF (s.data.toList.take k) (s.data.toList.drop (k + 4)))).length = k + 4 := by rw [List.length_append, h1]; rfl
    exact List.drop_left' hf

set_option maxHeartbeats 8000000 in
theorem CrcSeals_walk (a0 : ByteArray) (a1 : Int) (w : World) (a0w : a0.size ≤ maxLen) (_a1w : (Lit.int .i64 a1).wf = true) :
    Calls Try.prog 7 #[.string a0, .int .i64 a1] w fun e w' => e = .returned (.bool true) ∧ Below w.heap.size w w' := by
  obtain ⟨s, hs⟩ : ∃ s, cutB a0 120 = s := ⟨_, rfl⟩
  have sz : s.size ≤ 120 := by rw [← hs]; exact (cutB_size a0 120).1
  have H0 := Lib.hid (fun W => law02_Cut a0 s 120 a0w (by omega) hs W)
  clear hs a0w _a1w
  by_cases hbad : a1 < 0 ∨ (s.size : Int) - 4 < a1
  · have H1 := Lib.hid (fun W => crc_Seal_no s a1 (by omega) hbad W)
    by_cases h1 : a1 < 0
    · clear hbad
      go_enter Try.func7, Try.ntmps7
      go_wp2_with fail
      refine (law02_awake _).mono ?_
      rintro e w1 ⟨rfl, hb1⟩
      go_wp2_with fail
      refine (H0.out _).mono ?_
      rintro e w' ⟨rfl, rfl⟩
      go_wp2_with fail
      refine (H1.out _).mono ?_
      rintro e w' ⟨rfl, rfl⟩
      go_wp2_with fail
      go_ret
      exact ⟨rfl, hb1⟩
    · have h2 : (s.size : Int) - 4 < a1 := by omega
      clear hbad
      go_enter Try.func7, Try.ntmps7
      go_wp2_with fail
      refine (law02_awake _).mono ?_
      rintro e w1 ⟨rfl, hb1⟩
      go_wp2_with fail
      refine (H0.out _).mono ?_
      rintro e w' ⟨rfl, rfl⟩
      go_wp2_with fail
      refine (H1.out _).mono ?_
      rintro e w' ⟨rfl, rfl⟩
      go_wp2_with fail
      go_ret
      exact ⟨rfl, hb1⟩
  · obtain ⟨k, rfl⟩ : ∃ k : Nat, a1 = (k : Int) := ⟨a1.toNat, by omega⟩
    have hk : k + 4 ≤ s.size := by omega
    clear hbad
    obtain ⟨t, ht⟩ : ∃ t, sealB s k = t := ⟨_, rfl⟩
    have zt : t.size = s.size := by rw [← ht]; exact sealB_size s k hk
    obtain ⟨p1, p2⟩ := seal_parts s k hk
    rw [ht] at p1 p2
    have hrem : remL 0#32 t.data.toList = 0#32 := by rw [← ht, sealB_list]; exact seal_rem _ _
    have H1 := Lib.hid (fun W => crc_Seal s t k (by omega) hk ht W)
    have H2 := Lib.hid (fun W => ref02_Seal s t k (by omega) hk ht W)
    have H3 := Lib.hid (fun W => ref02_Rem t 0#32 (by omega) hrem W)
    have H4 := Lib.hid (fun W => crc_Right t true W (by rw [maxLen_eq]; omega) (by rw [hrem]; rfl))
    have kt : k < t.size := by omega
    obtain ⟨A, hA⟩ : ∃ A, t.extract 0 k = A := ⟨_, rfl⟩
    obtain ⟨B, hB⟩ : ∃ B, t.extract (k + 1) t.size = B := ⟨_, rfl⟩
    obtain ⟨F, hF⟩ : ∃ F, strOfNums [((t[k].toNat ^^^ 1 : Nat) : Int)] = F := ⟨_, rfl⟩
    obtain ⟨u, hu⟩ : ∃ u, A ++ F ++ B = u := ⟨_, rfl⟩
    have zA : A.size ≤ 200 := by rw [← hA]; simp; omega
    have zB : B.size ≤ 200 := by rw [← hB]; simp; omega
    have zF : F.size ≤ 1 := by rw [← hF, strOfNums_size]; simp
    have hul : u.data.toList = t.data.toList.take k ++ [t[k] ^^^ 1] ++ t.data.toList.drop (k + 1) := by
      rw [← hu, ← hA, ← hB, ← hF]
      have e1 : (t.extract 0 k).data.toList = t.data.toList.take k := by rw [Lib.extract_data]; simp
      have e2 := Lib.extract_to_end t (k + 1)
      have e3 : UInt8.ofNat (t[k].toNat ^^^ 1) = t[k] ^^^ 1 := by
        apply UInt8.toNat_inj.1
        rw [UInt8.toNat_xor, UInt8.toNat_ofNat', Nat.mod_eq_of_lt (Nat.xor_lt_two_pow (n := 8) (UInt8.toNat_lt _) (by decide))]
        rfl
      rw [← e1, ← e2]
      simp [strOfNums_data, e3]
    have htl : t.data.toList = t.data.toList.take k ++ [t[k]] ++ t.data.toList.drop (k + 1) := by
      rw [← take_snoc t k kt, List.take_append_drop]
    have hne : remL 0#32 u.data.toList ≠ 0#32 := by
      rw [hul]
      apply flip_rem
      rw [← htl]; exact hrem
    have zu : u.size ≤ 100000 := by
      have h1 : u.size = u.data.toList.length := by simp
      rw [← hu]
      have h2 := ByteArray.size_append (a := A ++ F) (b := B)
      have h3 := ByteArray.size_append (a := A) (b := F)
      omega
    have H5 := Lib.hid (fun W => crc_Right u false W (by rw [maxLen_eq]; omega) (by rw [decide_eq_false_iff_not]; exact hne))
    have hx : bits .xor .u8 (t[k].toNat : Int) 1 = ((t[k].toNat ^^^ 1 : Nat) : Int) := by
      exact u8_xor_nat t[k].toNat 1 (UInt8.toNat_lt _) (by decide)
    have hcv : ∀ (W : World) (g : Nat), Blk W g 5 #[.int .u8 ((t[k].toNat ^^^ 1 : Nat) : Int)] → (convert 33 9 (.slice (some ⟨g, 0, none⟩) 1 1)).run Try.prog W = .ok (.string F) W := fun W g h => by
      rw [← hF]; exact conv_one W g _ h
    have HCV := Lib.hid hcv
    have HX := Lib.hid hx
    obtain ⟨C, hC⟩ : ∃ C, s.extract 0 k = C := ⟨_, rfl⟩
    obtain ⟨D, hD⟩ : ∃ D, s.extract (k + 4) s.size = D := ⟨_, rfl⟩
    have p3 : A = C := by rw [← hA, p1, hC]
    have p4 : t.extract (k + 4) t.size = D := by rw [zt, p2, hD]
    subst p3
    have i1 : (0 : Int) ≤ (k : Int) := by omega
    have i2 : (k : Int) ≤ (s.size : Int) - 4 := by omega
    have i3 : (k : Int) + 4 ≤ (t.size : Int) := by omega
    have zz : ((t.size : Int) == (s.size : Int)) = true := by rw [zt]; simp
    clear ht p1 p2 hrem hF hul htl hne zu hcv hx zt
    go_enter Try.func7, Try.ntmps7
    go_wp2_with fail
    refine (law02_awake _).mono ?_
    rintro e w1 ⟨rfl, hb1⟩
    go_wp2_with fail
    refine (H0.out _).mono ?_
    rintro e w' ⟨rfl, rfl⟩
    go_wp2_with fail
    refine (H1.out _).mono ?_
    rintro e w2 ⟨rfl, hb2⟩
    have B2 := below_then hb1 hb2 (Nat.le_refl _)
    clear hb1 hb2
    have hx := HX.out
    have hcv := HCV.out (w2.alloc (.cells #[.int .u8 ((t[k].toNat ^^^ 1 : Nat) : Int)] 5)).drew w2.heap.size (Blk.new _ _ _)
    have i5 : (k : Int) ≤ (t.size : Int) := by omega
    have i6 : (k : Int) < (t.size : Int) := by omega
    have i7 : (k : Int) + 1 ≤ (t.size : Int) := by omega
    go_upto_region 7 with fail
    go_region
    clear hcv hx
    go_wp2_with fail
    refine wp_region_ext (by kernel_rfl) (by kernel_rfl) ?_; (repeat (go_big_quiet_step ((first | (go_at_call 19; with_reducible exact calls_ext _ (H2.out _)) | (go_at_call 12; with_reducible exact calls_ext _ (H3.out _)) | (go_at_call 13; with_reducible exact calls_ext _ (H4.out _)) | (go_at_call 13; with_reducible exact calls_ext _ (H5.out _)))))); refine wpQuiet_nil ?_; rintro _ ⟨gq, rfl⟩
    go_wp2_with fail
    go_ret
    have B3 := (B2.alloc B2.size (.cells #[.int .u8 ((t[k].toNat ^^^ 1 : Nat) : Int)] 5)).drew
    exact ⟨rfl, B3.trans (gq.below.mono B3.size)⟩
end Go.Proofs.Ytkopapiblihmmaa
