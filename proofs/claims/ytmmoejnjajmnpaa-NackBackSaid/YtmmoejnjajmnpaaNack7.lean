/- A nack's Numbers, the document's. No condition but the numbers' bounds. -/
import Derived.Test.YtmmoejnjajmnpaaSame
namespace Go.Proofs.Ytmmoejnjajmnpaa
open Go.RowKit BigFrame
attribute [local go_sem ↓] Go.wp_at_zero Go.wp_at_succ

set_option maxRecDepth 8000 in
set_option maxHeartbeats 8000000 in
theorem ref10_Numbers (a : Option Addr) (n c : Nat) (l : List (Int × Nat)) (w : World) (P : RefAt w a n c l) (hn : n ≤ 1000) (hok : PairsOk l) :
    Calls Try.prog 14 #[.slice a n c] w fun e w' => ∃ v, e = .returned v ∧ w'.ownsRow w.heap.size 3 1 v (dd (flatP l)).length (cellsK .i64 (dd (flatP l))) ∧ Below w.heap.size w w' := by
  obtain ⟨i0, hi0, hz0, hz1, hz2⟩ := info_parts (show (Try.prog.info? 3).map (fun i => (i.zero, i.size, i.bytes)) = some (some (.int .i64 0), 1, 8) by kernel_rfl)
  have HL := Lib.hid P.1
  have HOK := Lib.hid hok
  have ownl := own_lit w 3 1
  have Bl : Below w.heap.size w (w.alloc (.cells #[] 3)) := (Below.refl _ w).alloc (Nat.le_refl _) _
  clear hok
  go_enter Try.func14, Try.ntmps14
  go_wp2_with fail
  go_loopw [3, 12] (fun x3 x12 wr => ∃ (k : Nat) (out : List Int), k ≤ n ∧ x12 = .int .i64 k ∧ out = dd (flatP (l.take k)) ∧ (∃ ao co, x3 = .slice ao out.length co) ∧ wr.ownsRow w.heap.size 3 1 x3 out.length (cellsK .i64 out) ∧ Below w.heap.size w wr) (fun _ x12 _ => n - (intOf x12).toNat)
  case atStart => exact ⟨0, [], by omega, rfl, rfl, ⟨_, _, rfl⟩, by simpa [cellsK] using ownl, Bl⟩
  case round =>
    clear ownl Bl
    obtain ⟨k, out, hk, rfl, hout, ⟨ao, co, rfl⟩, own, B⟩ := hrel
    have HOUT := Lib.hid hout
    by_cases hlt : k < n
    · have hkl : k < l.length := by have := HL.out; omega
      obtain ⟨x, hx⟩ : ∃ x, l[k]? = some x := ⟨_, List.getElem?_eq_getElem hkl⟩
      obtain ⟨p, b⟩ := x
      obtain ⟨bb, off, rfl, hbb, hcell⟩ := P.get (by omega)
      obtain ⟨d0, d1⟩ := hcell k _ hx
      have e0 := (B.cell (p := ⟨bb, off + k * 2, none⟩) hbb).trans d0
      have e1 := (B.cell (p := ⟨bb, off + k * 2 + 1, none⟩) hbb).trans d1
      obtain ⟨⟨p0, p1⟩, hb⟩ := HOK.out _ (List.mem_of_getElem? hx)
      simp only at e0 e1 p0 p1 hb
      have htk : flatP (l.take (k + 1)) = flatP (l.take k) ++ numsB p b 16 := by rw [List.take_add_one, hx]; exact flatP_snoc _ _
      have HTK := Lib.hid htk
      have hol : out.length ≤ 17 * k := by
        rw [hout, ]
        have h1 := foldd_len (flatP (l.take k)) []
        have h2 := flatP_len (l.take k)
        rw [List.length_take] at h2
        unfold dd
        simp at h1
        omega
      have i1 : (0 : Int) ≤ (k : Int) := by omega
      have i2 : (k : Int) < (n : Int) := by omega
      have wk : IntKind.i64.wrap ((k : Int) + 1) = ((k + 1 : Nat) : Int) := by rw [IntWalk.i64_in _ (by omega)]; omega
      have K4 := Blk.new wr 40 #[.int .i64 p, .int .i64 (b : Int)]
      have B4 : Below wr.heap.size wr (wr.alloc (.cells #[.int .i64 p, .int .i64 (b : Int)] 40)) := (Below.refl _ wr).alloc (Nat.le_refl _) _
      have B04 := below_then B B4 (Nat.le_refl _)
      have own4 := ownsRow_alloc own (.cells #[.int .i64 p, .int .i64 (b : Int)] 40)
      clear hx hcell d0 d1 hkl htk own hout
      go_upto_region 5 with fail
      clear e0 e1
      obtain ⟨gp, hgp⟩ : ∃ gp, wr.heap.size = gp := ⟨_, rfl⟩
      rw [hgp] at K4 ⊢
      have hgw : w.heap.size ≤ gp := by have := B.size; omega
      generalize wr.alloc (.cells #[.int .i64 p, .int .i64 (b : Int)] 40) = w4 at *
      have k4 := K4.cell
      simp at k4
      have s4 := B04.size
      obtain ⟨ao', co', hv, SO⟩ := SliceOf.of_cells own4
      injection hv with f1 f2 f3
      subst f1 f3
      obtain ⟨t, ht⟩ : ∃ t, decide (p ∈ out) = t := ⟨_, rfl⟩
      have HIN := Lib.hid (ref10_In ao out.length co (fun i => out.getD i 0) p t w4 SO (by omega) (by rw [lst_getD]; exact ht))
      have HT := Lib.hid ht
      have hgl := K4.lt
      clear hgp B4 SO ht
      -- the first number
      cases t with
      | true =>
          go_wp2_with fail
          refine HIN.out.mono ?_
          rintro e' w' ⟨rfl, rfl⟩
          obtain ⟨out2, hout2⟩ : ∃ out2, out2 = out := ⟨_, rfl⟩
          have HO2 := Lib.hid (show out2 = (numsB p b (1 - 1)).foldl ddp out by
            rw [hout2]
            show out = ddp out p
            unfold ddp
            rw [if_pos (of_decide_eq_true HT.out)])
          have ownX := own4
          have BX := B04
          have KX := K4
          rw [← hout2] at ownX ⊢
          clear own4 B04 K4 hout2
          go_upto_region 9 with fail
          go_wp2_with fail
          go_loopw [3, 6, 7] (fun x3 x6 x7 wr => ∃ (i y : Nat) (o3 : List Int), 1 ≤ i ∧ i ≤ 17 ∧ x7 = .int .i64 i ∧ x6 = .int .i64 y ∧ y = b / 2 ^ (i - 1) ∧ o3 = (numsB p b (i - 1)).foldl ddp out ∧ (∃ ao co, x3 = .slice ao o3.length co) ∧ wr.ownsRow w.heap.size 3 1 x3 o3.length (cellsK .i64 o3) ∧ Below w.heap.size w wr ∧ Blk wr gp 40 #[.int .i64 p, .int .i64 (b : Int)]) (fun _ _ x7 _ => 17 - (intOf x7).toNat)
          case atStart => exact ⟨1, b, out2, by omega, by omega, rfl, rfl, by simp, HO2.out, ⟨_, _, rfl⟩, ownX, BX, KX⟩
          case round =>
            clear ownX BX KX
            obtain ⟨i, y, o3, hi1, hi17, rfl, rfl, hy, ho3, ⟨a3, c3, rfl⟩, own3, B3, K3⟩ := hrel
            have k3 := K3.cell
            simp at k3
            by_cases hi : i ≤ 16
            · have q1 : (i : Int) ≤ 16 := by omega
              have HY := Lib.hid hy
              have hyl : y ≤ 65535 := by
                rw [hy]
                exact Nat.le_trans (Nat.div_le_self _ _) (by omega)
              have hol3 : o3.length ≤ out.length + 17 := by
                rw [ho3]
                have h1 := foldd_len (numsB p b (i - 1)) out
                have h2 := numsB_len p b (i - 1)
                omega
              have HO3 := Lib.hid ho3
              obtain ⟨x, hx⟩ : ∃ x, (p + 1 + ((i - 1 : Nat) : Int)) % 65536 = x := ⟨_, rfl⟩
              have wx0 : IntKind.i64.wrap (p + (i : Int)) = p + (i : Int) := IntWalk.i64_in _ (by omega)
              have wx : (p + (i : Int)).tmod 65536 = x := by rw [Int.tmod_eq_emod_of_nonneg (by omega), ← hx]; omega
              have hxb : 0 ≤ x ∧ x ≤ 65535 := by omega
              obtain ⟨x0, x1⟩ := hxb
              have wx1 : IntKind.i64.wrap x = x := IntWalk.i64_in _ (by omega)
              have wi : IntKind.i64.wrap ((i : Int) + 1) = ((i + 1 : Nat) : Int) := by rw [IntWalk.i64_in _ (by omega)]; omega
              have hsucc := numsB_succ p b (i - 1)
              rw [hx, show i - 1 + 1 = i by omega] at hsucc
              obtain ⟨y2, hy2⟩ : ∃ y2, y / 2 = y2 := ⟨_, rfl⟩
              have wy2 : (y : Int).tdiv 2 = (y2 : Int) := by rw [Int.tdiv_eq_ediv_of_nonneg (by omega)]; omega
              have wy3 : IntKind.i64.wrap (y2 : Int) = (y2 : Int) := IntWalk.i64_in _ (by omega)
              have HY2 := Lib.hid (show y2 = b / 2 ^ (i + 1 - 1) by
                rw [← hy2, hy, Nat.div_div_eq_div_mul, ← Nat.pow_succ]
                congr 2; omega)
              have hbit : b.testBit (i - 1) = decide (y % 2 = 1) := by rw [Nat.testBit_eq_decide_div_mod_eq, ← hy]
              obtain ⟨a3', c3', hv3, SO3⟩ := SliceOf.of_cells own3
              injection hv3 with f1 f2 f3
              subst f1 f3
              obtain ⟨t3, ht3⟩ : ∃ t, decide (x ∈ o3) = t := ⟨_, rfl⟩
              have HIN3 := Lib.hid (ref10_In a3 o3.length c3 (fun i => o3.getD i 0) x t3 wr SO3 (by omega) (by rw [lst_getD]; exact ht3))
              have HT3 := Lib.hid ht3
              have s3 := B3.size
              clear hy ho3 hx hy2 SO3 ht3
              by_cases hb1 : y % 2 = 1
              · have wy1 : (y : Int).tmod 2 = 1 := by rw [Int.tmod_eq_emod_of_nonneg (by omega)]; omega
                rw [hbit, if_pos (decide_eq_true hb1)] at hsucc
                have HS := Lib.hid hsucc
                clear hsucc hbit hb1
                cases t3 with
                | true =>
                  go_wp2_with fail
                  refine HIN3.out.mono ?_
                  rintro e' w' ⟨rfl, rfl⟩
                  go_wp2_with fail
                  go_roundw
                  case rel =>
                    refine ⟨i + 1, y2, o3, by omega, by omega, by go_num, by go_num, HY2.out, ?_, ⟨_, _, rfl⟩, own3, B3, K3⟩
                    rw [show i + 1 - 1 = i by omega, HS.out, List.foldl_append, ← HO3.out]
                    show o3 = ddp o3 x
                    unfold ddp
                    rw [if_pos (of_decide_eq_true HT3.out)]
                  case measure => simp only [intOf]; omega
                | false =>
                  go_wp2_with fail
                  refine HIN3.out.mono ?_
                  rintro e' w' ⟨rfl, rfl⟩
                  have nb3 := own_ne_blk own3 K3 (by decide)
                  have hg3 := K3.lt
                  go_wp2_with (at_builtin; refine wpList_append_lies _ rfl _ _ 24 rfl w.heap.size 3 i0 (.int .i64 0) 1 8 Try.underlying24 hi0 hz0 hz1 hz2 rfl (by decide) _ _ _ rfl (own3.alloc _) ⟨wr.heap.size, 0, none⟩ 1 1 [.int .i64 x] rfl rfl (cell_one_new _ _ _) (by simp [Value.oneCell']) (by omega) (by rw [maxLen_eq]; omega) (by omega) (by simp; omega) _ rfl ?_; intro g7 cap7 w7 own7 hgrow7 hat7 hlt7)
                  have B7 : Below w.heap.size w w7 := (B3.alloc s3 _).grown hgrow7 (by simp; omega) (fun j hj => (own3.lt j hj).1)
                  have K7 : Blk w7 gp 40 _ := (hgrow7.block gp (by simp; omega) (fun e => nb3 e.symm)).trans ((Below.heap_alloc _ _ _ hg3).trans K3)
                  go_roundw
                  case rel =>
                    refine ⟨i + 1, y2, o3 ++ [x], by omega, by omega, by go_num, by go_num, HY2.out, ?_, ⟨_, _, by rw [List.length_append]; rfl⟩, by rw [List.length_append, cellsK_snoc]; exact own7, B7, K7⟩
                    rw [show i + 1 - 1 = i by omega, HS.out, List.foldl_append, ← HO3.out]
                    show o3 ++ [x] = ddp o3 x
                    unfold ddp
                    rw [if_neg (of_decide_eq_false HT3.out)]
                  case measure => simp only [intOf]; omega
              · have wy1 : (y : Int).tmod 2 = 0 := by rw [Int.tmod_eq_emod_of_nonneg (by omega)]; omega
                rw [hbit, if_neg (by simpa using hb1)] at hsucc
                have HS := Lib.hid hsucc
                clear hsucc hbit hb1
                go_wp2_with fail
                go_roundw
                case rel =>
                  refine ⟨i + 1, y2, o3, by omega, by omega, by go_num, by go_num, HY2.out, ?_, ⟨_, _, rfl⟩, own3, B3, K3⟩
                  rw [show i + 1 - 1 = i by omega, HS.out, ← HO3.out]
                case measure => simp only [intOf]; omega
            · obtain rfl : i = 17 := by omega
              go_wp2_with fail
              go_roundw
              case rel =>
                refine ⟨k + 1, o3, by omega, by go_num, ?_, ⟨_, _, rfl⟩, own3, B3⟩
                rw [HTK.out]
                unfold dd
                rw [List.foldl_append]
                have h0 := HOUT.out
                unfold dd at h0
                rw [← h0]
                exact ho3
              case measure => simp only [intOf]; omega
      | false =>
          go_wp2_with fail
          refine HIN.out.mono ?_
          rintro e' w' ⟨rfl, rfl⟩
          have nb := own_ne_blk own4 K4 (by decide)
          go_upto_region 6 with fail
          go_upto_region 7 with (at_builtin; refine wpList_append_lies _ rfl _ _ 24 rfl w.heap.size 3 i0 (.int .i64 0) 1 8 Try.underlying24 hi0 hz0 hz1 hz2 rfl (by decide) _ _ _ rfl (own4.alloc _) ⟨w4.heap.size, 0, none⟩ 1 1 [.int .i64 p] rfl rfl (cell_one_new _ _ _) (by simp [Value.oneCell']) (by omega) (by rw [maxLen_eq]; omega) (by omega) (by simp; omega) _ rfl ?_; intro g6 cap6 w6 own6 hgrow6 hat6 hlt6)
          have BX : Below w.heap.size w w6 := (B04.alloc s4 _).grown hgrow6 (by simp; omega) (fun j hj => (own4.lt j hj).1)
          have KX : Blk w6 gp 40 _ := (hgrow6.block gp (by simp; omega) (fun e => nb e.symm)).trans ((Below.heap_alloc _ _ _ hgl).trans K4)
          have kx := KX.cell
          simp at kx
          obtain ⟨out2, hout2⟩ : ∃ out2, out2 = out ++ [p] := ⟨_, rfl⟩
          have hl2 : out.length + 1 = out2.length := by rw [hout2, List.length_append]; rfl
          have HO2 := Lib.hid (show out2 = (numsB p b (1 - 1)).foldl ddp out by
            rw [hout2]
            show out ++ [p] = ddp out p
            unfold ddp
            rw [if_neg (of_decide_eq_false HT.out)])
          have ownX := own6
          rw [← cellsK_snoc, ← hout2, hl2] at ownX
          rw [hl2]
          clear own4 B04 K4 hout2 own6 hgrow6 k4
          go_upto_region 9 with fail
          go_wp2_with fail
          go_loopw [3, 6, 7] (fun x3 x6 x7 wr => ∃ (i y : Nat) (o3 : List Int), 1 ≤ i ∧ i ≤ 17 ∧ x7 = .int .i64 i ∧ x6 = .int .i64 y ∧ y = b / 2 ^ (i - 1) ∧ o3 = (numsB p b (i - 1)).foldl ddp out ∧ (∃ ao co, x3 = .slice ao o3.length co) ∧ wr.ownsRow w.heap.size 3 1 x3 o3.length (cellsK .i64 o3) ∧ Below w.heap.size w wr ∧ Blk wr gp 40 #[.int .i64 p, .int .i64 (b : Int)]) (fun _ _ x7 _ => 17 - (intOf x7).toNat)
          case atStart => exact ⟨1, b, out2, by omega, by omega, rfl, rfl, by simp, HO2.out, ⟨_, _, rfl⟩, ownX, BX, KX⟩
          case round =>
            clear ownX BX KX
            obtain ⟨i, y, o3, hi1, hi17, rfl, rfl, hy, ho3, ⟨a3, c3, rfl⟩, own3, B3, K3⟩ := hrel
            have k3 := K3.cell
            simp at k3
            by_cases hi : i ≤ 16
            · have q1 : (i : Int) ≤ 16 := by omega
              have HY := Lib.hid hy
              have hyl : y ≤ 65535 := by
                rw [hy]
                exact Nat.le_trans (Nat.div_le_self _ _) (by omega)
              have hol3 : o3.length ≤ out.length + 17 := by
                rw [ho3]
                have h1 := foldd_len (numsB p b (i - 1)) out
                have h2 := numsB_len p b (i - 1)
                omega
              have HO3 := Lib.hid ho3
              obtain ⟨x, hx⟩ : ∃ x, (p + 1 + ((i - 1 : Nat) : Int)) % 65536 = x := ⟨_, rfl⟩
              have wx0 : IntKind.i64.wrap (p + (i : Int)) = p + (i : Int) := IntWalk.i64_in _ (by omega)
              have wx : (p + (i : Int)).tmod 65536 = x := by rw [Int.tmod_eq_emod_of_nonneg (by omega), ← hx]; omega
              have hxb : 0 ≤ x ∧ x ≤ 65535 := by omega
              obtain ⟨x0, x1⟩ := hxb
              have wx1 : IntKind.i64.wrap x = x := IntWalk.i64_in _ (by omega)
              have wi : IntKind.i64.wrap ((i : Int) + 1) = ((i + 1 : Nat) : Int) := by rw [IntWalk.i64_in _ (by omega)]; omega
              have hsucc := numsB_succ p b (i - 1)
              rw [hx, show i - 1 + 1 = i by omega] at hsucc
              obtain ⟨y2, hy2⟩ : ∃ y2, y / 2 = y2 := ⟨_, rfl⟩
              have wy2 : (y : Int).tdiv 2 = (y2 : Int) := by rw [Int.tdiv_eq_ediv_of_nonneg (by omega)]; omega
              have wy3 : IntKind.i64.wrap (y2 : Int) = (y2 : Int) := IntWalk.i64_in _ (by omega)
              have HY2 := Lib.hid (show y2 = b / 2 ^ (i + 1 - 1) by
                rw [← hy2, hy, Nat.div_div_eq_div_mul, ← Nat.pow_succ]
                congr 2; omega)
              have hbit : b.testBit (i - 1) = decide (y % 2 = 1) := by rw [Nat.testBit_eq_decide_div_mod_eq, ← hy]
              obtain ⟨a3', c3', hv3, SO3⟩ := SliceOf.of_cells own3
              injection hv3 with f1 f2 f3
              subst f1 f3
              obtain ⟨t3, ht3⟩ : ∃ t, decide (x ∈ o3) = t := ⟨_, rfl⟩
              have HIN3 := Lib.hid (ref10_In a3 o3.length c3 (fun i => o3.getD i 0) x t3 wr SO3 (by omega) (by rw [lst_getD]; exact ht3))
              have HT3 := Lib.hid ht3
              have s3 := B3.size
              clear hy ho3 hx hy2 SO3 ht3
              by_cases hb1 : y % 2 = 1
              · have wy1 : (y : Int).tmod 2 = 1 := by rw [Int.tmod_eq_emod_of_nonneg (by omega)]; omega
                rw [hbit, if_pos (decide_eq_true hb1)] at hsucc
                have HS := Lib.hid hsucc
                clear hsucc hbit hb1
                cases t3 with
                | true =>
                  go_wp2_with fail
                  refine HIN3.out.mono ?_
                  rintro e' w' ⟨rfl, rfl⟩
                  go_wp2_with fail
                  go_roundw
                  case rel =>
                    refine ⟨i + 1, y2, o3, by omega, by omega, by go_num, by go_num, HY2.out, ?_, ⟨_, _, rfl⟩, own3, B3, K3⟩
                    rw [show i + 1 - 1 = i by omega, HS.out, List.foldl_append, ← HO3.out]
                    show o3 = ddp o3 x
                    unfold ddp
                    rw [if_pos (of_decide_eq_true HT3.out)]
                  case measure => simp only [intOf]; omega
                | false =>
                  go_wp2_with fail
                  refine HIN3.out.mono ?_
                  rintro e' w' ⟨rfl, rfl⟩
                  have nb3 := own_ne_blk own3 K3 (by decide)
                  have hg3 := K3.lt
                  go_wp2_with (at_builtin; refine wpList_append_lies _ rfl _ _ 24 rfl w.heap.size 3 i0 (.int .i64 0) 1 8 Try.underlying24 hi0 hz0 hz1 hz2 rfl (by decide) _ _ _ rfl (own3.alloc _) ⟨wr.heap.size, 0, none⟩ 1 1 [.int .i64 x] rfl rfl (cell_one_new _ _ _) (by simp [Value.oneCell']) (by omega) (by rw [maxLen_eq]; omega) (by omega) (by simp; omega) _ rfl ?_; intro g7 cap7 w7 own7 hgrow7 hat7 hlt7)
                  have B7 : Below w.heap.size w w7 := (B3.alloc s3 _).grown hgrow7 (by simp; omega) (fun j hj => (own3.lt j hj).1)
                  have K7 : Blk w7 gp 40 _ := (hgrow7.block gp (by simp; omega) (fun e => nb3 e.symm)).trans ((Below.heap_alloc _ _ _ hg3).trans K3)
                  go_roundw
                  case rel =>
                    refine ⟨i + 1, y2, o3 ++ [x], by omega, by omega, by go_num, by go_num, HY2.out, ?_, ⟨_, _, by rw [List.length_append]; rfl⟩, by rw [List.length_append, cellsK_snoc]; exact own7, B7, K7⟩
                    rw [show i + 1 - 1 = i by omega, HS.out, List.foldl_append, ← HO3.out]
                    show o3 ++ [x] = ddp o3 x
                    unfold ddp
                    rw [if_neg (of_decide_eq_false HT3.out)]
                  case measure => simp only [intOf]; omega
              · have wy1 : (y : Int).tmod 2 = 0 := by rw [Int.tmod_eq_emod_of_nonneg (by omega)]; omega
                rw [hbit, if_neg (by simpa using hb1)] at hsucc
                have HS := Lib.hid hsucc
                clear hsucc hbit hb1
                go_wp2_with fail
                go_roundw
                case rel =>
                  refine ⟨i + 1, y2, o3, by omega, by omega, by go_num, by go_num, HY2.out, ?_, ⟨_, _, rfl⟩, own3, B3, K3⟩
                  rw [show i + 1 - 1 = i by omega, HS.out, ← HO3.out]
                case measure => simp only [intOf]; omega
            · obtain rfl : i = 17 := by omega
              go_wp2_with fail
              go_roundw
              case rel =>
                refine ⟨k + 1, o3, by omega, by go_num, ?_, ⟨_, _, rfl⟩, own3, B3⟩
                rw [HTK.out]
                unfold dd
                rw [List.foldl_append]
                have h0 := HOUT.out
                unfold dd at h0
                rw [← h0]
                exact ho3
              case measure => simp only [intOf]; omega
    · obtain rfl : k = n := by omega
      have j1 : ¬ (k : Int) < (k : Int) := by omega
      have hall : l.take k = l := by have := HL.out; rw [← this]; exact List.take_length
      rw [hall] at hout
      subst hout
      go_wp2_with fail
      go_ret
      exact ⟨_, rfl, own, B⟩
end Go.Proofs.Ytmmoejnjajmnpaa
