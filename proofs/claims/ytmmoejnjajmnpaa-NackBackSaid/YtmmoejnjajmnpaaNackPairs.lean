/- NackPairs, walked. No condition. -/
import Derived.Test.YtmmoejnjajmnpaaNack9
namespace Go.Proofs.Ytmmoejnjajmnpaa
open Go.RowKit BigFrame
attribute [local go_sem ↓] Go.wp_at_zero Go.wp_at_succ
theorem rprec_eql (x0 y0 : Int) (x1 y1 : Int) (w : World) : (binOp .eql 40 (.agg #[.int .i64 x0, .int .i64 x1]) (.agg #[.int .i64 y0, .int .i64 y1])).run Try.prog w = .ok (.bool ((x0 == y0) && (x1 == y1))) w := by
  have hS : Try.prog.underlying 40 = some (.struct (Try.prog.fieldsOf 40)) := by kernel_rfl
  have hp : Try.prog.stoodInHeld 40 = false := by kernel_rfl
  have u3 := Try.underlying3
  have a3 := Try.isAgg3
  have z3 := Try.sizeOf3
  rw [run_eql_struct, show (10000 : Nat) = 9999 + 1 from rfl, run_equalIn_agg w 9999 40 _ _ hS hp]
  simp only [Program.fieldsOf, Try.underlying40]
  go_simp
  by_cases h0 : x0 = y0
  rotate_left
  · simp [h0]
  subst h0
  by_cases h1 : x1 = y1
  rotate_left
  · simp [h1]
  subst h1
  (try simp [])
theorem rprec_neq (x0 y0 : Int) (x1 y1 : Int) (w : World) : (binOp .neq 40 (.agg #[.int .i64 x0, .int .i64 x1]) (.agg #[.int .i64 y0, .int .i64 y1])).run Try.prog w = .ok (.bool (!((x0 == y0) && (x1 == y1)))) w := by
  have hS : Try.prog.underlying 40 = some (.struct (Try.prog.fieldsOf 40)) := by kernel_rfl
  have hp : Try.prog.stoodInHeld 40 = false := by kernel_rfl
  have u3 := Try.underlying3
  have a3 := Try.isAgg3
  have z3 := Try.sizeOf3
  rw [run_neq_struct, show (10000 : Nat) = 9999 + 1 from rfl, run_equalIn_agg w 9999 40 _ _ hS hp]
  simp only [Program.fieldsOf, Try.underlying40]
  go_simp
  by_cases h0 : x0 = y0
  rotate_left
  · simp [h0]
  subst h0
  by_cases h1 : x1 = y1
  rotate_left
  · simp [h1]
  subst h1
  (try simp [])
theorem rprec_guard (op : BinOp) (x y : Operand) (xs ys : Array Value) (w : World) : (eqGuard op 40 x y (.agg xs) (.agg ys)).run Try.prog w = .ok () w := run_eqGuard_agg w op 40 x y xs ys (by kernel_rfl)

attribute [local go_sem] rprec_eql rprec_neq rprec_guard

set_option maxRecDepth 8000 in
set_option maxHeartbeats 4000000 in
theorem law10_same (a b : Option Addr) (n ca cb : Nat) (l : List (Int × Nat)) (w : World) (A : RefAt w a n ca l) (B : RefAt w b n cb l) (hn : n ≤ 100000) :
    Calls Try.prog 17 #[.slice a n ca, .slice b n cb] w fun e w' => e = .returned (.bool true) ∧ Below w.heap.size w w' := by
  have HL := Lib.hid A.1
  go_enter Try.func17, Try.ntmps17
  go_wp2_with fail
  go_loopw [13] (fun x13 wr => ∃ k : Nat, k ≤ n ∧ x13 = .int .i64 k ∧ Below w.heap.size w wr) (fun x13 _ => n - (intOf x13).toNat)
  case atStart => exact ⟨0, by omega, rfl, Below.refl _ _⟩
  case round =>
    obtain ⟨k, hk, rfl, Bw⟩ := hrel
    by_cases hlt : k < n
    · have hkl : k < l.length := by have := HL.out; omega
      obtain ⟨x, hx⟩ : ∃ x, l[k]? = some x := ⟨_, List.getElem?_eq_getElem hkl⟩
      obtain ⟨p, q⟩ := x
      obtain ⟨bb, off, rfl, hbb, hcell⟩ := A.get (by omega)
      obtain ⟨b2, off2, rfl, hbb2, hcell2⟩ := B.get (by omega)
      obtain ⟨d0, d1⟩ := hcell k _ hx
      obtain ⟨d2, d3⟩ := hcell2 k _ hx
      have e0 := (Bw.cell (p := ⟨bb, off + k * 2, none⟩) hbb).trans d0
      have e1 := (Bw.cell (p := ⟨bb, off + k * 2 + 1, none⟩) hbb).trans d1
      have e2 := (Bw.cell (p := ⟨b2, off2 + k * 2, none⟩) hbb2).trans d2
      have e3 := (Bw.cell (p := ⟨b2, off2 + k * 2 + 1, none⟩) hbb2).trans d3
      have i1 : (0 : Int) ≤ (k : Int) := by omega
      have i2 : (k : Int) < (n : Int) := by omega
      have wk : IntKind.i64.wrap ((k : Int) + 1) = ((k + 1 : Nat) : Int) := by rw [IntWalk.i64_in _ (by omega)]; omega
      simp only at e0 e1 e2 e3
      clear hx hcell hcell2 d0 d1 d2 d3 hkl
      go_upto_region 6 with fail
      go_region
      all_goals
        go_wp2_with fail
        go_roundw
        case rel => exact ⟨k + 1, by omega, by go_num, Bw.drew⟩
        case measure => simp only [intOf]; omega
    · obtain rfl : k = n := by omega
      have j1 : ¬ (k : Int) < (k : Int) := by omega
      go_wp2_with fail
      go_ret
      exact ⟨rfl, Bw⟩
set_option maxRecDepth 8000 in
set_option maxHeartbeats 4000000 in
theorem nack_Ask (fr ab : Int) (a : Option Addr) (l c : Nat) (e : Nat → Int) (w : World) (S : SliceOf w a l c 1 (fun i => [.int .u16 (e i)])) (hl : l ≤ 10000) (he : ∀ i, i < l → 0 ≤ e i ∧ e i ≤ 65535) :
    Calls Try.prog 19 #[.int .u32 fr, .int .u32 ab, .slice a l c] w fun e' w' => ∃ v, e' = .returned (.agg #[.int .u32 fr, .int .u32 ab, v]) ∧ (∃ ao co, v = .slice ao (pairsL (dst e l)).length co) ∧ w'.ownsRow w.heap.size 30 2 v (pairsL (dst e l)).length (rowP (pairsL (dst e l))) ∧ Below w.heap.size w w' := by
  have K1 := Blk.new w 36 #[.int .u32 0, .int .u32 0, .slice none 0 0]
  have B1 : Below w.heap.size w (w.alloc (.cells #[.int .u32 0, .int .u32 0, .slice none 0 0] 36)) := (Below.refl _ w).alloc (Nat.le_refl _) _
  have HNP := Lib.hid (fun W S => nack_Pairs a l c e W S hl he)
  obtain ⟨ps, hps⟩ : ∃ m, pairsL (dst e l) = m := ⟨_, rfl⟩
  rw [hps] at HNP ⊢
  obtain ⟨m, hm⟩ : ∃ m, ps.length = m := ⟨_, rfl⟩
  rw [hm] at HNP ⊢
  clear hps hm
  go_enter Try.func19, Try.ntmps19
  go_upto_region 1 with fail
  generalize w.alloc (.cells #[.int .u32 0, .int .u32 0, .slice none 0 0] 36) = w1 at *
  go_wp2_with fail
  refine (HNP.out w1 (S.below B1)).mono ?_
  rintro e' w2 ⟨v, rfl, own, B2⟩
  obtain ⟨av, cv, rfl⟩ := own_any own
  have K2 := K1.below B2 K1.lt
  have B12 := below_then B1 B2 (Nat.le_refl _)
  have k2 := K2.cell
  have f2 := K2.frozen
  simp at k2
  have s1 := B1.size
  obtain ⟨w3, e3, K3, B3, hk3⟩ := three_set K2 rfl (.int .u32 fr) (.int .u32 ab) (.slice av m cv) w.heap.size (Nat.le_refl _)
  have own3 := own_at2 own (w' := w3) (fun j hj => hk3 j (by have := (own.lt j hj).1; have := K1.lt; omega))
  have k3 := K3.cell
  simp at k3
  go_wp2_with fail
  refine bodyPost_ret (v := .agg #[.int .u32 fr, .int .u32 ab, .slice av m cv]) ?_ rfl ⟨_, rfl, ⟨_, _, rfl⟩, own_down own3 s1, B12.trans B3⟩
  simp [results, Try.results19, go_sem, k3]
theorem dst_flat {e : Nat → Int} {n : Nat} (he : ∀ i, i < n → 0 ≤ e i ∧ e i ≤ 65535) (x : Int) : x ∈ dd (flatP (pairsL (dst e n))) ↔ ∃ i, i < n ∧ e i = x := by
  rw [dd_mem, show x ∈ flatP (pairsL (dst e n)) ↔ x ∈ dst e n from (pairsL_perm (dst_u16 he) (dst_nodup e n)).mem_iff, dst_mem]
set_option maxRecDepth 8000 in
set_option maxHeartbeats 8000000 in
theorem NackPairs_walk (a0a : Option Addr) (a0l a0c : Nat) (a0e0 : Nat → Int) (w : World) (a0S : SliceOf w a0a a0l a0c 1 (fun i => [.int .u16 (a0e0 i)])) (a0F0 : ∀ i, i < a0l → (Lit.int .u16 (a0e0 i)).wf = true) :
    Calls Try.prog 5 #[.slice a0a a0l a0c] w fun e w' => e = .returned (.bool true) ∧ Below w.heap.size w w' := by
  have hsz := a0S.size_le
  have hcap := a0S.1
  have hcm := a0S.2.1
  rw [maxLen_eq] at hcm
  obtain ⟨n, hn⟩ : ∃ n : Nat, min a0l 40 = n := ⟨_, rfl⟩
  have hm1 : (if 40 < (a0l : Int) then 40 else (a0l : Int)) = (n : Int) := by rw [← hn]; split <;> omega
  have hm2 : min (a0l : Int) 40 = (n : Int) := by omega
  have he : ∀ i, i < n → 0 ≤ a0e0 i ∧ a0e0 i ≤ 65535 := fun i hi => wf_u16 (a0F0 i (by omega))
  have S := a0S.upto n (by omega)
  have n60 : n ≤ 40 := by omega
  have nl : n ≤ a0l := by omega
  have HE := Lib.hid he
  have nc : (n : Int) ≤ (a0c : Int) := by omega
  clear hn a0F0 a0S he
  obtain ⟨e, hee⟩ : ∃ e, a0e0 = e := ⟨_, rfl⟩
  rw [hee] at S HE
  clear hee
  obtain ⟨ps, hps⟩ : ∃ ps, pairsL (dst e n) = ps := ⟨_, rfl⟩
  have hdl := dst_len e n
  have hpl := pairsL_len (dst e n)
  have hok : PairsOk ps := fun x hx => by
    rw [← hps] at hx
    exact ⟨dst_bd e n HE.out _ (pairsL_pid (dst_u16 HE.out) (dst_nodup e n) hx), pairsL_blp x hx⟩
  have hflat := dst_flat HE.out
  have hX : (lst e n).length = n := lst_len e n
  have hXd : dd (lst e n) = dst e n := (dst_dd e n).symm
  have hXu : U16s (lst e n) := fun x hx => by
    obtain ⟨i, hi, rfl⟩ := lst_mem.1 hx
    exact HE.out i hi
  obtain ⟨m, hm⟩ : ∃ m, ps.length = m := ⟨_, rfl⟩
  rw [hps] at hpl hflat
  rw [hm] at hpl
  have HNP := Lib.hid (fun W S => nack_Pairs a0a n a0c e W S (by omega) HE.out)
  have HAS := Lib.hid (fun W S => nack_Ask 1 2 a0a n a0c e W S (by omega) HE.out)
  have HIT := Lib.hid (fun W S => law01_Ints a0a n a0c e W S (by omega) HE.out)
  have HRP := Lib.hid (fun W a c (S : SliceOf W a n c 1 (fun i => [.int .i64 ((lst e n).getD i 0)])) => ref10_Pairs a n c (lst e n) W hX S (by omega) hXu)
  have HTO := Lib.hid (fun W a c (P : PairsAt W a m c ps) => law10_told a m c ps W P (by omega) hok)
  have HNN := Lib.hid (fun W a c (P : PairsAt W a m c ps) => nack_Numbers 1 2 a m c ps W P (by omega) hok)
  obtain ⟨nums, hnums⟩ : ∃ z, dd (flatP ps) = z := ⟨_, rfl⟩
  obtain ⟨q, hq⟩ : ∃ q, nums.length = q := ⟨_, rfl⟩
  have hfl := flatP_len ps
  have hfd := foldd_len (flatP ps) []
  rw [show (flatP ps).foldl ddp [] = nums from hnums, hq] at hfd
  simp at hfd
  rw [hm] at hfl
  have hnu : U16s nums := fun x hx => flatP_u16 hok x ((dd_mem _ x).1 (by rw [hnums]; exact hx))
  have HI2 := Lib.hid (fun W a c (S : SliceOf W a q c 1 (fun i => [.int .u16 (nums.getD i 0)])) => law01_Ints a q c (fun i => nums.getD i 0) W S (by omega) (fun i hi => by
    rw [List.getD_eq_getElem?_getD, List.getElem?_eq_getElem (by omega)]
    exact hnu _ (List.getElem_mem _)))
  rw [lst_getD2 nums q hq] at HI2
  rw [hXd, hps, hm] at HRP
  rw [hps, hm] at HNP HAS
  rw [hnums, hq] at HNN
  rw [hnums] at hflat
  have HM := Lib.hid hm
  have HQ := Lib.hid hq
  have HF := Lib.hid hflat
  clear hps hok hflat hX hXd hXu hm hnums hq hnu
  go_enter Try.func5, Try.ntmps5
  go_wp2_with fail
  refine (law10_awake _).mono ?_
  rintro e' w1 ⟨rfl, B1⟩
  go_wp2_with fail
  have S1 := S.below B1
  refine (HNP.out w1 S1).mono ?_
  rintro e' w2 ⟨v2, rfl, own2, B2⟩
  obtain ⟨a2, c2, rfl, P2⟩ := PairsAt.of_own own2 HM.out
  have B12 := below_then B1 B2 (Nat.le_refl _)
  go_wp2_with fail
  refine (HTO.out w2 _ _ P2).mono ?_
  rintro e' w3 ⟨v3, rfl, own3, B3⟩
  obtain ⟨a3, c3, rfl, R3⟩ := RefAt.of_own own3 HM.out
  have B13 := below_then B12 B3 (Nat.le_refl _)
  go_wp2_with fail
  have S3 := S.below B13
  refine (HIT.out w3 S3).mono ?_
  rintro e' w4 ⟨v4, rfl, own4, B4⟩
  obtain ⟨a4, c4, rfl, S4⟩ := SliceOf.of_own own4 (fun i => .int .i64 ((lst e n).getD i 0)) (fun i hi => cellsK_get .i64 (lst e n) i (by rw [lst_len]; exact hi))
  have B14 := below_then B13 B4 (Nat.le_refl _)
  go_wp2_with fail
  refine (HRP.out w4 _ _ S4).mono ?_
  rintro e' w5 ⟨v5, rfl, own5, B5⟩
  obtain ⟨a5, c5, rfl, R5⟩ := RefAt.of_own own5 HM.out
  have B15 := below_then B14 B5 (Nat.le_refl _)
  go_wp2_with fail
  refine (law10_same a3 a5 m c3 c5 ps w5 ((R3.below B4).below B5) R5 (by omega)).mono ?_
  rintro e' w6 ⟨rfl, B6⟩
  have B16 := below_then B15 B6 (Nat.le_refl _)
  clear own2 own3 own4 own5 B12 B13 B14 B15 P2 R3 S3 S4 R5 S1 B1 B2 B3 B4 B5 B6
  go_wp2_with fail
  have S6 := S.below B16
  refine (HAS.out w6 S6).mono ?_
  rintro e' w7 ⟨v7, rfl, ⟨a7, c7, rfl⟩, own7, B7⟩
  obtain ⟨a7', c7', hv, P7⟩ := PairsAt.of_own own7 HM.out
  injection hv with f1 f2 f3
  subst f1 f3
  have B17 := below_then B16 B7 (Nat.le_refl _)
  go_wp2_with fail
  refine (HNN.out w7 _ _ P7).mono ?_
  rintro e' w8 ⟨v8, rfl, own8, B8⟩
  obtain ⟨a8, c8, rfl, S8⟩ := own_rowI own8 HQ.out
  have B18 := below_then B17 B8 (Nat.le_refl _)
  go_wp2_with fail
  refine (HI2.out w8 _ _ S8).mono ?_
  rintro e' w9 ⟨v9, rfl, own9, B9⟩
  obtain ⟨a9, c9, rfl, S9⟩ := SliceOf.of_own own9 (fun i => .int .i64 (nums.getD i 0)) (fun i hi => cellsK_get .i64 nums i (by have := HQ.out; omega))
  have B19 := below_then B18 B9 (Nat.le_refl _)
  have SL := S.below B19
  clear own7 own8 own9 P7 S8 B7 B8 B9 B16 B17 B18 S6
  go_wp2_with fail
  go_loop [32] (fun x32 => ∃ k : Nat, k ≤ n ∧ x32 = .int .i64 k) (fun x32 => n - (intOf x32).toNat)
  case atStart => exact ⟨0, by omega, rfl⟩
  case round =>
    obtain ⟨k, hk, rfl⟩ := hrel
    by_cases hlt : k < n
    · obtain ⟨bb, off, rfl, hbb, hcell⟩ := SL.at1 (by omega)
      have d := hcell k hlt
      obtain ⟨x, hx⟩ : ∃ x, e k = x := ⟨_, rfl⟩
      obtain ⟨x0, x1⟩ := HE.out k hlt
      rw [hx] at d x0 x1
      have hin : x ∈ nums := (HF.out x).2 ⟨k, hlt, hx⟩
      have HIN := Lib.hid (ref10_In a9 q c9 (fun i => nums.getD i 0) x true w9 S9 (by omega) (by rw [lst_getD2 nums q HQ.out]; exact decide_eq_true hin))
      have i1 : (0 : Int) ≤ (k : Int) := by omega
      have i2 : (k : Int) < (n : Int) := by omega
      have wk : IntKind.i64.wrap ((k : Int) + 1) = ((k + 1 : Nat) : Int) := by rw [IntWalk.i64_in _ (by omega)]; omega
      clear hx hcell hin
      go_wp2_with fail
      refine HIN.out.mono ?_
      rintro e' w' ⟨rfl, rfl⟩
      go_wp2_with fail
      go_round
      case rel => exact ⟨k + 1, by omega, by go_num⟩
      case measure => simp only [intOf]; omega
    · obtain rfl : k = n := by omega
      have j1 : ¬ (k : Int) < (k : Int) := by omega
      go_wp2_with fail
      refine (HIT.out w9 SL).mono ?_
      rintro e' w10 ⟨v10, rfl, own10, B10⟩
      obtain ⟨a10, c10, rfl, S10⟩ := SliceOf.of_lst own10
      have B110 := below_then B19 B10 (Nat.le_refl _)
      have S9' := S9.below B10
      clear own10 S9 SL B19 j1
      go_wp2_with fail
      go_loop [46] (fun x46 => ∃ k : Nat, k ≤ q ∧ x46 = .int .i64 k) (fun x46 => q - (intOf x46).toNat)
      case atStart => exact ⟨0, by omega, rfl⟩
      case round =>
        obtain ⟨j, hj, rfl⟩ := hrel
        by_cases hlt : j < q
        · obtain ⟨bb, off, rfl, hbb, hcell⟩ := S9'.at1 (by omega)
          have d := hcell j hlt
          have hjl : j < nums.length := by have := HQ.out; omega
          obtain ⟨x, hx⟩ : ∃ x, nums.getD j 0 = x := ⟨_, rfl⟩
          have hmem : x ∈ nums := by
            rw [← hx, List.getD_eq_getElem?_getD, List.getElem?_eq_getElem hjl]
            exact List.getElem_mem _
          rw [hx] at d
          have HIN := Lib.hid (ref10_In a10 k c10 e x true w10 S10 (by omega) (decide_eq_true (lst_mem.2 ((HF.out x).1 hmem))))
          have i1 : (0 : Int) ≤ (j : Int) := by omega
          have i2 : (j : Int) < (q : Int) := by omega
          have wk : IntKind.i64.wrap ((j : Int) + 1) = ((j + 1 : Nat) : Int) := by rw [IntWalk.i64_in _ (by omega)]; omega
          clear hx hcell hmem hjl
          go_wp2_with fail
          refine HIN.out.mono ?_
          rintro e' w' ⟨rfl, rfl⟩
          go_wp2_with fail
          go_round
          case rel => exact ⟨j + 1, by omega, by go_num⟩
          case measure => simp only [intOf]; omega
        · obtain rfl : j = q := by omega
          have j1 : ¬ (j : Int) < (j : Int) := by omega
          go_wp2_with fail
          go_ret
          exact ⟨rfl, B110⟩
end Go.Proofs.Ytmmoejnjajmnpaa
