/- The document's piece of a nack. No condition but the numbers' bounds. -/
import Derived.Test.YtmmoejnjajmnpaaNackD
namespace Go.Proofs.Ytmmoejnjajmnpaa
open Go.RowKit BigFrame
attribute [local go_sem ↓] Go.wp_at_zero Go.wp_at_succ

set_option maxRecDepth 8000 in
set_option maxHeartbeats 4000000 in
theorem ref10_PieceNo (fr ab : Int) (a : Option Addr) (n c : Nat) (w : World) (hn : n = 0 ∨ 300 < n) :
    Calls Try.prog 21 #[.int .i64 fr, .int .i64 ab, .slice a n c] w fun e w' => e = .returned (.agg #[.int .i64 0, .int .i64 0, .string ⟨#[]⟩]) ∧ Below w.heap.size w w' := by
  have K1 := Blk.new w 50 #[.int .i64 0, .int .i64 0, .string ⟨#[]⟩]
  have B1 : Below w.heap.size w (w.alloc (.cells #[.int .i64 0, .int .i64 0, .string ⟨#[]⟩] 50)) := (Below.refl _ w).alloc (Nat.le_refl _) _
  obtain ⟨t, ht, h2⟩ : ∃ t, decide ((n : Int) < 1) = t ∧ (t = false → (300 : Int) < (n : Int)) := by
    rcases hn with h | h
    · exact ⟨true, by simp [h], (fun e => by cases e)⟩
    · exact ⟨false, by simp; omega, fun _ => by omega⟩
  clear hn
  cases t
  all_goals
    try have h3 := h2 rfl
    clear h2
    go_enter Try.func21, Try.ntmps21
    go_upto_region 1 with fail
    generalize w.alloc (.cells #[.int .i64 0, .int .i64 0, .string ⟨#[]⟩] 50) = w1 at *
    have k1 := K1.cell
    have f1 := K1.frozen
    simp at k1
    obtain ⟨w3, e3, K3, B3, hk3⟩ := three_set K1 rfl (.int .i64 0) (.int .i64 0) (.string ⟨#[]⟩) w.heap.size (Nat.le_refl _)
    have k3 := K3.cell
    simp at k3
    simp at ht
    go_wp2_with fail
    refine bodyPost_ret (v := .agg #[.int .i64 0, .int .i64 0, .string ⟨#[]⟩]) ?_ rfl ⟨rfl, B1.trans B3⟩
    simp [results, Try.results21, go_sem, k3]
    try rfl
set_option maxRecDepth 8000 in
set_option maxHeartbeats 8000000 in
theorem ref10_PieceYes (fr ab : Int) (a : Option Addr) (n c : Nat) (ps : List (Int × Nat)) (w : World) (P : RefAt w a n c ps) (hok : PairsOk ps) (hn : 0 < n ∧ n ≤ 300) (hf : 0 ≤ fr ∧ fr < 4294967296) (ha : 0 ≤ ab ∧ ab < 4294967296) :
    Calls Try.prog 21 #[.int .i64 fr, .int .i64 ab, .slice a n c] w fun e w' => e = .returned (.agg #[.int .i64 1, .int .i64 205, .string (strOfNums (bodyL fr ab ps))]) ∧ Below w.heap.size w w' := by
  have HL := Lib.hid P.1
  have HOK := Lib.hid hok
  obtain ⟨n0, n1⟩ := hn
  have K1 := Blk.new w 50 #[.int .i64 0, .int .i64 0, .string ⟨#[]⟩]
  have B1 : Below w.heap.size w (w.alloc (.cells #[.int .i64 0, .int .i64 0, .string ⟨#[]⟩] 50)) := (Below.refl _ w).alloc (Nat.le_refl _) _
  have h1 : ¬ (n : Int) < 1 := by omega
  have h2 : ¬ (300 : Int) < (n : Int) := by omega
  obtain ⟨S, hS⟩ : ∃ S, strOfNums (bodyL fr ab ps) = S := ⟨_, rfl⟩
  rw [hS]
  have HS := Lib.hid hS
  obtain ⟨s1, hs1⟩ : ∃ z, strOfNums (beI fr 4) = z := ⟨_, rfl⟩
  obtain ⟨s2, hs2⟩ : ∃ z, strOfNums (beI ab 4) = z := ⟨_, rfl⟩
  have HP1 := Lib.hid (fun W => ref03_Put fr 4 W hf (by decide))
  have HP2 := Lib.hid (fun W => ref03_Put ab 4 W ha (by decide))
  rw [hs1] at HP1
  rw [hs2] at HP2
  have z1 : s1.size ≤ 4 := by rw [← hs1, strOfNums_size, beI_len]; exact Nat.le_refl _
  have z2 : s2.size ≤ 4 := by rw [← hs2, strOfNums_size, beI_len]; exact Nat.le_refl _
  have z12 : ¬ maxLen < s1.size + s2.size := by rw [maxLen_eq]; omega
  have z13 : s1.size + s2.size ≤ maxLen := by rw [maxLen_eq]; omega
  have HS0 := Lib.hid (show s1 ++ s2 = strOfNums (bodyL fr ab []) by rw [← hs1, ← hs2, str_app]; simp [bodyL, encP])
  clear hok hS hs1 hs2
  go_enter Try.func21, Try.ntmps21
  go_upto_region 1 with fail
  generalize w.alloc (.cells #[.int .i64 0, .int .i64 0, .string ⟨#[]⟩] 50) = w1 at *
  go_wp2_with fail
  refine (HP1.out _).mono ?_
  rintro e w2 ⟨rfl, B2⟩
  go_wp2_with fail
  refine (HP2.out _).mono ?_
  rintro e w3 ⟨rfl, B3⟩
  have K3 := (K1.below B2 K1.lt).below B3 (K1.below B2 K1.lt).lt
  have B03 := below_then (below_then B1 B2 (Nat.le_refl _)) B3 (Nat.le_refl _)
  clear K1 B1 B2 B3
  go_upto_region 4 with fail
  obtain ⟨s3, hs3⟩ : ∃ z, s1 ++ s2 = z := ⟨_, rfl⟩
  have HS3 := Lib.hid (show s3 = strOfNums (bodyL fr ab []) by rw [← hs3]; exact HS0.out)
  rw [hs3]
  clear hs3 HS0
  go_wp2_with fail
  go_loopw [7, 26] (fun x7 x26 wr => ∃ (k : Nat) (z : ByteArray), k ≤ n ∧ x26 = .int .i64 k ∧ x7 = .string z ∧ z = strOfNums (bodyL fr ab (ps.take k)) ∧ Blk wr w.heap.size 50 #[.int .i64 0, .int .i64 0, .string ⟨#[]⟩] ∧ Below w.heap.size w wr) (fun _ x26 _ => n - (intOf x26).toNat)
  case atStart => exact ⟨0, s3, by omega, rfl, rfl, by simpa using HS3.out, K3, B03⟩
  case round =>
    clear K3 B03
    obtain ⟨k, z, hk, rfl, rfl, hz, K, B⟩ := hrel
    have HZ := Lib.hid hz
    clear hz
    by_cases hlt : k < n
    · have hkl : k < ps.length := by have := HL.out; omega
      obtain ⟨x, hx⟩ : ∃ x, ps[k]? = some x := ⟨_, List.getElem?_eq_getElem hkl⟩
      obtain ⟨p, b⟩ := x
      obtain ⟨bb, off, rfl, hbb, hcell⟩ := P.get n0
      obtain ⟨d0, d1⟩ := hcell k _ hx
      have e0 := (B.cell (p := ⟨bb, off + k * 2, none⟩) hbb).trans d0
      have e1 := (B.cell (p := ⟨bb, off + k * 2 + 1, none⟩) hbb).trans d1
      obtain ⟨⟨p0, p1⟩, hb⟩ := HOK.out _ (List.mem_of_getElem? hx)
      simp only at e0 e1 p0 p1 hb
      have htk : bodyL fr ab (ps.take (k + 1)) = bodyL fr ab (ps.take k) ++ (beI p 2 ++ beI (b : Int) 2) := by
        unfold bodyL
        rw [List.take_add_one, hx, show (some (p, b)).toList = [(p, b)] from rfl, encP_snoc]
        simp
      obtain ⟨t1, ht1⟩ : ∃ z, strOfNums (beI p 2) = z := ⟨_, rfl⟩
      obtain ⟨t2, ht2⟩ : ∃ z, strOfNums (beI (b : Int) 2) = z := ⟨_, rfl⟩
      have HQ1 := Lib.hid (fun W => ref03_Put p 2 W (by omega) (by decide))
      have HQ2 := Lib.hid (fun W => ref03_Put (b : Int) 2 W (by omega) (by decide))
      rw [ht1] at HQ1
      rw [ht2] at HQ2
      have z1' : t1.size ≤ 2 := by rw [← ht1, strOfNums_size, beI_len]; exact Nat.le_refl _
      have z2' : t2.size ≤ 2 := by rw [← ht2, strOfNums_size, beI_len]; exact Nat.le_refl _
      have z3' : z.size ≤ 10000 := by rw [HZ.out, strOfNums_size, bodyL_len, List.length_take]; omega
      have y12 : ¬ maxLen < t1.size + t2.size := by rw [maxLen_eq]; omega
      have y13 : t1.size + t2.size ≤ maxLen := by rw [maxLen_eq]; omega
      have y22 : ¬ maxLen < z.size + (t1.size + t2.size) := by rw [maxLen_eq]; omega
      have y23 : z.size + (t1.size + t2.size) ≤ maxLen := by rw [maxLen_eq]; omega
      have HT := Lib.hid (show z ++ (t1 ++ t2) = strOfNums (bodyL fr ab (ps.take (k + 1))) by
        rw [HZ.out, ← ht1, ← ht2, str_app, str_app, htk])
      have i1 : (0 : Int) ≤ (k : Int) := by omega
      have i2 : (k : Int) < (n : Int) := by omega
      have wk : IntKind.i64.wrap ((k : Int) + 1) = ((k + 1 : Nat) : Int) := by rw [IntWalk.i64_in _ (by omega)]; omega
      have K4 := Blk.new wr 40 #[.int .i64 p, .int .i64 (b : Int)]
      have B4 : Below wr.heap.size wr (wr.alloc (.cells #[.int .i64 p, .int .i64 (b : Int)] 40)) := (Below.refl _ wr).alloc (Nat.le_refl _) _
      have BB := below_then B B4 (Nat.le_refl _)
      have K5 := K.below B4 K.lt
      clear hx hcell d0 d1 hkl htk ht1 ht2 K
      go_upto_region 7 with fail
      clear e0 e1
      obtain ⟨gp, hgp⟩ : ∃ gp, wr.heap.size = gp := ⟨_, rfl⟩
      rw [hgp] at K4 ⊢
      generalize wr.alloc (.cells #[.int .i64 p, .int .i64 (b : Int)] 40) = w4 at *
      have E0 := fun (gx : Ext w4) => gx.cell (K4.cell 0) K4.lt
      have E1 := fun (gx : Ext w4) => gx.cell (K4.cell 1) K4.lt
      simp at E0 E1
      clear hgp B4
      refine wp_region_ext (by kernel_rfl) (by kernel_rfl) ?_; (repeat (go_big_quiet_step ((first | (go_at_call 32; with_reducible exact calls_ext _ (HQ1.out _)) | (go_at_call 32; with_reducible exact calls_ext _ (HQ2.out _)))))); refine wpQuiet_nil ?_; rintro _ ⟨gq, rfl⟩
      have BX := gq.below
      generalize gq.world = w5 at *
      have K6 := K5.below BX K5.lt
      have BE := below_then BB BX (Nat.le_refl _)
      clear E0 E1 K4 K5 BB
      go_wp2_with fail
      go_roundw
      case rel => exact ⟨k + 1, _, by omega, by go_num, rfl, HT.out, K6, BE⟩
      case measure => simp only [intOf]; omega
    · obtain rfl : k = n := by omega
      have j1 : ¬ (k : Int) < (k : Int) := by omega
      have hall : ps.take k = ps := by have := HL.out; rw [← this]; exact List.take_length
      have hzs : z = S := by rw [HZ.out, hall]; exact HS.out
      subst hzs
      have k2 := K.cell
      have f2 := K.frozen
      simp at k2
      obtain ⟨w6, e6, K6, B6, hk6⟩ := three_set K rfl (.int .i64 1) (.int .i64 205) (.string z) w.heap.size (by omega)
      have k6 := K6.cell
      simp at k6
      clear hall
      go_wp2_with fail
      refine bodyPost_ret (v := .agg #[.int .i64 1, .int .i64 205, .string z]) ?_ rfl ⟨rfl, B.trans B6⟩
      simp [results, Try.results21, go_sem, k6]
end Go.Proofs.Ytmmoejnjajmnpaa
