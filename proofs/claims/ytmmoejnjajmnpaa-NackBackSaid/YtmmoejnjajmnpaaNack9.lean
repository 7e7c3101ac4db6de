/- The document's Pairs, walked. No condition but how many, and the numbers' bounds. -/
import Derived.Test.YtmmoejnjajmnpaaNackQ
import Derived.Test.YtmmoejnjajmnpaaNackNumbers
namespace Go.Proofs.Ytmmoejnjajmnpaa
open Go.RowKit BigFrame
attribute [local go_sem ↓] Go.wp_at_zero Go.wp_at_succ

set_option maxRecDepth 8000 in
set_option maxHeartbeats 16000000 in
theorem ref10_Pairs (a : Option Addr) (l c : Nat) (X : List Int) (w : World) (hX : X.length = l) (S : SliceOf w a l c 1 (fun i => [.int .i64 (X.getD i 0)])) (hl : l ≤ 100) (hu : U16s X) :
    Calls Try.prog 18 #[.slice a l c] w fun e' w' => ∃ v, e' = .returned v ∧ w'.ownsRow w.heap.size 40 2 v (pairsL (dd X)).length (rowQ (pairsL (dd X))) ∧ Below w.heap.size w w' := by
  obtain ⟨i0, hi0, hz0, hz1, hz2⟩ := info_parts (show (Try.prog.info? 3).map (fun i => (i.zero, i.size, i.bytes)) = some (some (.int .i64 0), 1, 8) by kernel_rfl)
  obtain ⟨iq, hq0, hq1, hq2, hq3⟩ := info_rpair
  have hlc := S.1
  have hcm := S.2.1
  rw [maxLen_eq] at hcm
  have HX := Lib.hid hX
  have HU := Lib.hid hu
  have own1 := own_lit w 40 2
  have B1 : Below w.heap.size w (w.alloc (.cells #[] 40)) := (Below.refl _ w).alloc (Nat.le_refl _) _
  have own2 := own_down (own_lit (w.alloc (.cells #[] 40)) 3 1) (show w.heap.size ≤ (w.alloc (.cells #[] 40)).heap.size by simp)
  have own1' := ownsRow_alloc own1 (.cells #[] 3)
  have B2 : Below w.heap.size w ((w.alloc (.cells #[] 40)).alloc (.cells #[] 3)) := B1.alloc (by simp) _
  clear hX hu
  go_enter Try.func18, Try.ntmps18
  go_wp2_with fail
  go_loopw [3, 4, 17] (fun x3 x4 x17 wr => ∃ (i : Nat) (out : List (Int × Nat)) (done : List Int), i ≤ l ∧ x17 = .int .i64 i ∧ pairsL (dd X) = out ++ pairsL (rest done (X.drop i)) ∧ out.length ≤ i ∧ done.length ≤ 200 * i ∧ (∃ ao co, x3 = .slice ao out.length co) ∧ wr.ownsRow w.heap.size 40 2 x3 out.length (rowQ out) ∧ (∃ ad cd, x4 = .slice ad done.length cd) ∧ wr.ownsRow w.heap.size 3 1 x4 done.length (cellsK .i64 done) ∧ Below w.heap.size w wr) (fun _ _ x17 _ => l - (intOf x17).toNat)
  case atStart => exact ⟨0, [], [], by omega, rfl, by rw [List.drop_zero, rest_all]; rfl, by simp, by simp, ⟨_, _, rfl⟩, by simpa [rowQ] using own1', ⟨_, _, rfl⟩, by simpa [cellsK] using own2, B2⟩
  case round =>
    clear own1 own1' own2 B1 B2
    obtain ⟨i, out, done, hi, rfl, hpl, hol, hdl, ⟨ao, co, rfl⟩, owno, ⟨ad, cd, rfl⟩, ownd, B⟩ := hrel
    have HPL := Lib.hid hpl
    clear hpl
    by_cases hlt : i < l
    · have hil : i < X.length := by have := HX.out; omega
      obtain ⟨n, hn⟩ : ∃ n, X[i]? = some n := ⟨_, List.getElem?_eq_getElem hil⟩
      have hnd : X.getD i 0 = n := by rw [List.getD_eq_getElem?_getD, hn]; rfl
      obtain ⟨n0, n1⟩ := HU.out n (List.mem_of_getElem? hn)
      have hdrop : X.drop i = n :: X.drop (i + 1) := by
        rw [List.drop_eq_getElem_cons hil]
        congr 1
        rw [List.getElem?_eq_getElem hil] at hn
        injection hn
      have HDR := Lib.hid hdrop
      obtain ⟨bb, off, rfl, hbb, hcell⟩ := S.at1 (by omega)
      have d := (B.cell (p := ⟨bb, off + i, none⟩) hbb).trans (hcell i hlt)
      rw [hnd] at d
      have HC := Lib.hid hcell
      obtain ⟨ad', cd', hv, SD⟩ := SliceOf.of_cells ownd
      injection hv with f1 f2 f3
      subst f1 f3
      obtain ⟨t, ht⟩ : ∃ t, decide (n ∈ done) = t := ⟨_, rfl⟩
      have HIN := Lib.hid (ref10_In ad done.length cd (fun i => done.getD i 0) n t wr SD (by omega) (by rw [lst_getD]; exact ht))
      have HT := Lib.hid ht
      have i1 : (0 : Int) ≤ (i : Int) := by omega
      have i2 : (i : Int) < (l : Int) := by omega
      have wk : IntKind.i64.wrap ((i : Int) + 1) = ((i + 1 : Nat) : Int) := by rw [IntWalk.i64_in _ (by omega)]; omega
      clear hn hnd hdrop hcell ht SD hil
      cases t with
      | true =>
        go_wp2_with fail
        refine HIN.out.mono ?_
        rintro e' w' ⟨rfl, rfl⟩
        go_wp2_with fail
        go_roundw
        case rel => exact ⟨i + 1, out, done, by omega, by go_num, by rw [HPL.out, HDR.out, rest_skip _ (of_decide_eq_true HT.out)], by omega, by omega, ⟨_, _, rfl⟩, owno, ⟨_, _, rfl⟩, ownd, B⟩
        case measure => simp only [intOf]; omega
      | false =>
        have hnot : n ∉ done := of_decide_eq_false HT.out
        have K0 := Blk.new wr 40 #[.int .i64 n, .int .i64 0]
        have B0 : Below wr.heap.size wr (wr.alloc (.cells #[.int .i64 n, .int .i64 0] 40)) := (Below.refl _ wr).alloc (Nat.le_refl _) _
        have sB := B.size
        have B00 := below_then B B0 (Nat.le_refl _)
        have owno0 := own_lasts owno B0
        have ownd0 := own_lasts ownd B0
        have hog := fun j (hj : (Value.slice ao out.length co).ownBlock = some j) => (owno.lt j hj).2
        have HPL2 := Lib.hid (show pairsL (dd X) = (out ++ [(n, blpOf n (takeT n (done ++ [n]) (X.drop i)))]) ++ pairsL (rest ((done ++ [n]) ++ takeT n (done ++ [n]) (X.drop i)) (X.drop (i + 1))) by
          rw [HPL.out, HDR.out, rest_take _ hnot]
          simp)
        clear HPL HDR hnot
        go_wp2_with fail
        refine HIN.out.mono ?_
        rintro e' w' ⟨rfl, rfl⟩
        go_upto_region 8 with fail
        obtain ⟨gp, hgp⟩ : ∃ gp, wr.heap.size = gp := ⟨_, rfl⟩
        have hwg : w.heap.size ≤ gp := by omega
        rw [hgp] at K0 hog ⊢
        generalize wr.alloc (.cells #[.int .i64 n, .int .i64 0] 40) = w0 at *
        have s0 := B00.size
        have nb0 := own_ne_blk ownd0 K0 (by decide)
        have no0 := fun j (hj : (Value.slice ao out.length co).ownBlock = some j) => own_ne_own owno0 ownd0 (by decide) j hj
        have hg0 := K0.lt
        clear owno ownd B0 d
        go_upto_region 9 with (at_builtin; refine wpList_append_lies _ rfl _ _ 24 rfl w.heap.size 3 i0 (.int .i64 0) 1 8 Try.underlying24 hi0 hz0 hz1 hz2 rfl (by decide) _ _ _ rfl (ownd0.alloc _) ⟨w0.heap.size, 0, none⟩ 1 1 [.int .i64 n] rfl rfl (cell_one_new _ _ _) (by simp [Value.oneCell']) (by omega) (by rw [maxLen_eq]; omega) (by omega) (by simp; omega) _ rfl ?_; intro g3 cap3 w3 own3 hgrow3 hat3 hlt3)
        have K3 : Blk w3 gp 40 _ := (hgrow3.block gp (by simp; omega) (fun e => nb0 e.symm)).trans ((Below.heap_alloc _ _ _ hg0).trans K0)
        have owno3 := own_at2 owno0 (w' := w3) (fun j hj => (hgrow3.block j (by have := (owno0.lt j hj).2; simp; omega) (fun e => no0 j hj e.symm)).trans (Below.heap_alloc _ _ _ (owno0.lt j hj).2))
        have B3 : Below w.heap.size w w3 := (B00.alloc s0 _).grown hgrow3 (by simp; omega) (fun j hj => (ownd0.lt j hj).1)
        clear hgrow3 hat3 owno0 ownd0 K0 B00 nb0 no0 hg0
        rw [← cellsK_snoc] at own3
        obtain ⟨d0, hd0⟩ : ∃ d0, done ++ [n] = d0 := ⟨_, rfl⟩
        obtain ⟨zd, hzd⟩ : ∃ zd, done.length + 1 = zd := ⟨_, rfl⟩
        have HZD := Lib.hid (show d0.length = zd by rw [← hd0, List.length_append, ← hzd]; rfl)
        have hzl : zd ≤ 200 * i + 1 := by omega
        rw [hd0] at own3 HPL2
        rw [hzd] at own3 ⊢
        have HD0 := Lib.hid hd0
        clear hzd
        obtain ⟨r, hr⟩ : ∃ r, l - i = r := ⟨_, rfl⟩
        obtain ⟨rc, hrc⟩ : ∃ r, c - i = r := ⟨_, rfl⟩
        have hci : ¬ c = i := by omega
        have q1 : (i : Int) ≤ (l : Int) := by omega
        obtain ⟨Y, hY⟩ : ∃ Y, X.drop i = Y := ⟨_, rfl⟩
        rw [hY] at HPL2
        have HY := Lib.hid hY
        have hYl : Y.length = r := by rw [← hY, List.length_drop, HX.out]; exact hr
        have HYL := Lib.hid hYl
        have hYu : U16s Y := fun x hx => HU.out x (by rw [← hY] at hx; exact List.drop_subset _ _ hx)
        have HYU := Lib.hid hYu
        obtain ⟨wl, hwl⟩ : ∃ wl, wl = w3 := ⟨_, rfl⟩
        have sl := B3.size
        clear hd0 hY hYl hYu HIN HT
        subst hwl
        go_wp2_with fail
        have hrl : i + r ≤ l := by omega
        clear hr hrc hci q1 hgp
        go_loopw [4, 35] (fun x4 x35 wr => ∃ (j z : Nat) (T : List Int), j ≤ r ∧ x35 = .int .i64 j ∧ T = takeT n d0 (Y.take j) ∧ T.length ≤ j ∧ z = (d0 ++ T).length ∧ (∃ ad cd, x4 = .slice ad z cd) ∧ wr.ownsRow w.heap.size 3 1 x4 z (cellsK .i64 (d0 ++ T)) ∧ wr.ownsRow w.heap.size 40 2 (.slice ao out.length co) out.length (rowQ out) ∧ Blk wr gp 40 #[.int .i64 n, .int .i64 (blpOf n T : Nat)] ∧ Below w.heap.size w wr) (fun _ x35 _ => r - (intOf x35).toNat)
        case atStart => exact ⟨0, zd, [], by omega, rfl, rfl, by simp, by rw [List.append_nil, HZD.out], ⟨_, _, rfl⟩, by rw [List.append_nil]; exact own3, owno3, by simpa [blpOf] using K3, B3⟩
        case round =>
          clear own3 owno3 K3 B3
          obtain ⟨j, z, T, hj, rfl, hT, hTl, hz, ⟨ad, cd, rfl⟩, ownd, owno, K, Bw⟩ := hrel
          have hzb : z ≤ 200 * i + 101 := by rw [hz, List.length_append, HZD.out]; omega
          have HZ := Lib.hid hz
          clear hz
          have hTT := Lib.hid hT
          by_cases hjr : j < r
          · have hjY : j < Y.length := by have := HYL.out; omega
            obtain ⟨m, hm⟩ : ∃ m, Y[j]? = some m := ⟨_, List.getElem?_eq_getElem hjY⟩
            obtain ⟨m0, m1⟩ := HYU.out m (List.mem_of_getElem? hm)
            have htk : Y.take (j + 1) = Y.take j ++ [m] := by rw [List.take_add_one, hm]; rfl
            have hts := takeT_snoc n d0 (Y.take j) m
            rw [← htk, ← hT] at hts
            have HTS := Lib.hid hts
            have d := (Bw.cell (p := ⟨bb, off + (i + j), none⟩) hbb).trans (HC.out (i + j) (by omega))
            have hxm : X.getD (i + j) 0 = m := by
              have := HY.out
              rw [← this, List.getElem?_drop] at hm
              rw [List.getD_eq_getElem?_getD, hm]; rfl
            rw [hxm, ← Nat.add_assoc] at d
            have hTu : U16s T := fun x hx => by
              rw [hT] at hx
              exact HYU.out x (List.take_subset _ _ (takeT_mem hx).1)
            obtain ⟨dd0, hdd⟩ : ∃ dd0, diffI n m = dd0 := ⟨_, rfl⟩
            have HDF := Lib.hid (fun W => ref01_Diff n m dd0 n0 n1 m0 m1 hdd W)
            have HDD := Lib.hid hdd
            have j0 : (0 : Int) ≤ (j : Int) := by omega
            have j1 : (j : Int) < (r : Int) := by omega
            have wj : IntKind.i64.wrap ((j : Int) + 1) = ((j + 1 : Nat) : Int) := by rw [IntWalk.i64_in _ (by omega)]; omega
            have HTU := Lib.hid hTu
            clear hm htk hts hxm hTu hdd hT hjY
            by_cases hin : inR n m = true
            · have hdb : 1 ≤ dd0 ∧ dd0 ≤ 16 := by rw [← HDD.out]; exact of_decide_eq_true hin
              obtain ⟨dn, hdn⟩ : ∃ dn : Nat, dd0 = (dn : Int) := ⟨dd0.toNat, by omega⟩
              obtain ⟨b1, b2⟩ := hdb
              have hnd0 : n ∈ d0 := by rw [← HD0.out]; simp
              obtain ⟨t2, ht2⟩ : ∃ t, decide (m ∈ d0 ++ T) = t := ⟨_, rfl⟩
              obtain ⟨ad', cd', hv, SD⟩ := SliceOf.of_own ownd (fun i => .int .i64 ((d0 ++ T).getD i 0)) (fun i hi => cellsK_get .i64 (d0 ++ T) i (by have := HZ.out; omega))
              injection hv with f1 f2 f3
              subst f1 f3
              have HIN2 := Lib.hid (ref10_In ad z cd (fun i => (d0 ++ T).getD i 0) m t2 wr SD (by omega) (by rw [lst_getD2 (d0 ++ T) z HZ.out.symm]; exact ht2))
              have HT2 := Lib.hid ht2
              subst hdn
              clear SD ht2
              cases t2 with
              | true =>
                go_wp2_with fail
                refine (HDF.out wr).mono ?_
                rintro e' w' ⟨rfl, rfl⟩
                go_wp2_with fail
                refine HIN2.out.mono ?_
                rintro e' w' ⟨rfl, rfl⟩
                go_wp2_with fail
                go_roundw
                case rel =>
                  refine ⟨j + 1, z, T, by omega, by go_num, ?_, by omega, HZ.out, ⟨_, _, rfl⟩, ownd, owno, K, Bw⟩
                  rw [HTS.out]
                  have hmem : m ∈ d0 ∨ m ∈ T := List.mem_append.1 (of_decide_eq_true HT2.out)
                  by_cases hm0 : m ∈ d0
                  · rw [if_neg (by simp [hm0])]
                  · rcases hmem with h | h
                    · exact absurd h hm0
                    · split
                      · unfold ddp; rw [if_pos h]
                      · rfl
                case measure => simp only [intOf]; omega
              | false =>
                have hmno : m ∉ d0 ++ T := of_decide_eq_false HT2.out
                have hm0 : m ∉ d0 := fun h => hmno (List.mem_append_left _ h)
                have hmT : m ∉ T := fun h => hmno (List.mem_append_right _ h)
                have hT1 : takeT n d0 (Y.take (j + 1)) = T ++ [m] := by
                  rw [HTS.out, if_pos (by simp [hm0, hin])]
                  unfold ddp
                  rw [if_neg hmT]
                have HT1 := Lib.hid hT1
                have hbl := blp_add ⟨n0, n1⟩ ⟨m0, m1⟩ HTU.out hin hmT
                rw [HDD.out] at hbl
                have hblt := blpOf_lt n (T ++ [m])
                obtain ⟨bl, hbl0⟩ : ∃ bl, blpOf n T = bl := ⟨_, rfl⟩
                obtain ⟨bl2, hbl2⟩ : ∃ bl, blpOf n (T ++ [m]) = bl := ⟨_, rfl⟩
                obtain ⟨bt, hbt⟩ : ∃ bt, 2 ^ ((dn : Int) - 1).toNat = bt := ⟨_, rfl⟩
                rw [hbl0] at K hbl
                rw [hbl2] at hbl hblt
                rw [hbt] at hbl
                have HB2 := Lib.hid hbl2
                have hbt2 : 2 ^ (dn - 1) = bt := by rw [← hbt]; congr 1; omega
                have HBT := Lib.hid hbt2
                have wbl : IntKind.i64.wrap ((bl : Int) + (bt : Int)) = (bl2 : Int) := by rw [IntWalk.i64_in _ (by omega)]; omega
                have k0 := K.cell
                have f0 := K.frozen
                simp at k0
                clear hmno hm0 hmT hT1 hbl0 hbl2 hbt hbt2 hbl
                go_wp2_with fail
                refine (HDF.out wr).mono ?_
                rintro e' w' ⟨rfl, rfl⟩
                go_wp2_with fail
                refine HIN2.out.mono ?_
                rintro e' w' ⟨rfl, rfl⟩
                go_upto_region 15 with fail
                go_wp2_with fail
                obtain ⟨wj2, hwj2⟩ : ∃ wl, wl = wr := ⟨_, rfl⟩
                subst hwj2
                go_loop [11, 12] (fun x11 x12 => ∃ (k bt0 : Nat), 1 ≤ k ∧ k ≤ dn ∧ x12 = .int .i64 k ∧ x11 = .int .i64 bt0 ∧ 2 ^ (k - 1) = bt0) (fun _ x12 => dn - (intOf x12).toNat)
                case atStart => exact ⟨1, 1, by omega, by omega, rfl, rfl, rfl⟩
                case round =>
                  obtain ⟨k, bt0, hk1, hkd, rfl, rfl, hbk⟩ := hrel
                  have hb15 : bt0 ≤ 32768 := by
                    rw [← hbk]
                    exact Nat.le_trans (Nat.pow_le_pow_right (by decide) (show k - 1 ≤ 15 by omega)) (by decide)
                  by_cases hkl : k < dn
                  · have z1 : (k : Int) < (dn : Int) := by omega
                    have z2 : IntKind.i64.wrap ((k : Int) + 1) = ((k + 1 : Nat) : Int) := by rw [IntWalk.i64_in _ (by omega)]; omega
                    have z3 : IntKind.i64.wrap (2 * (bt0 : Int)) = ((2 * bt0 : Nat) : Int) := by rw [IntWalk.i64_in _ (by omega)]; omega
                    have HBK := Lib.hid hbk
                    clear hbk
                    go_wp2_with fail
                    go_round
                    case rel => exact ⟨k + 1, 2 * bt0, by omega, by omega, by go_num, by go_num, by
                      rw [← HBK.out, show k + 1 - 1 = (k - 1) + 1 by omega, Nat.pow_succ, Nat.mul_comm]⟩
                    case measure => simp only [intOf]; omega
                  · obtain rfl : k = dn := by omega
                    obtain rfl : bt0 = bt := by rw [← hbk]; exact HBT.out
                    have z1 : ¬ (k : Int) < (k : Int) := by omega
                    have HBK := Lib.hid hbk
                    clear hbk
                    have K5 := K.set_ 1 (.int .i64 (bl2 : Int))
                    simp at K5
                    have B5 : Below w.heap.size w (wj2.setCell ⟨gp, 1, none⟩ (.int .i64 (bl2 : Int))) := Bw.setCell (p := ⟨gp, 1, none⟩) (by show w.heap.size ≤ gp; omega) _
                    have nbd := own_ne_blk ownd K (by decide)
                    have ownd5 := own_at2 ownd (w' := wj2.setCell ⟨gp, 1, none⟩ (.int .i64 (bl2 : Int))) (fun j hj => Below.heap_setCell _ ⟨gp, 1, none⟩ _ j (fun e => nbd (by rw [hj, e])))
                    have owno5 := own_at2 owno (w' := wj2.setCell ⟨gp, 1, none⟩ (.int .i64 (bl2 : Int))) (fun j hj => Below.heap_setCell _ ⟨gp, 1, none⟩ _ j (by have := hog j hj; simp; omega))
                    go_upto_region 20 with fail
                    generalize wj2.setCell ⟨gp, 1, none⟩ (.int .i64 (bl2 : Int)) = w5 at *
                    have s5 := B5.size
                    have nb5 := own_ne_blk ownd5 K5 (by decide)
                    have no5 := fun j (hj : (Value.slice ao out.length co).ownBlock = some j) => own_ne_own owno5 ownd5 (by decide) j hj
                    have hg5 := K5.lt
                    clear K ownd owno Bw z1 k0 f0
                    go_wp2_with (at_builtin; refine wpList_append_lies _ rfl _ _ 24 rfl w.heap.size 3 i0 (.int .i64 0) 1 8 Try.underlying24 hi0 hz0 hz1 hz2 rfl (by decide) _ _ _ rfl (ownd5.alloc _) ⟨w5.heap.size, 0, none⟩ 1 1 [.int .i64 m] rfl rfl (cell_one_new _ _ _) (by simp [Value.oneCell']) (by omega) (by rw [maxLen_eq]; omega) (by omega) (by simp; omega) _ rfl ?_; intro g7 cap7 w7 own7 hgrow7 hat7 hlt7)
                    have K7 : Blk w7 gp 40 _ := (hgrow7.block gp (by simp; omega) (fun e => nb5 e.symm)).trans ((Below.heap_alloc _ _ _ hg5).trans K5)
                    have owno7 := own_at2 owno5 (w' := w7) (fun j hj => (hgrow7.block j (by have := (owno5.lt j hj).2; simp; omega) (fun e => no5 j hj e.symm)).trans (Below.heap_alloc _ _ _ (owno5.lt j hj).2))
                    have B7 : Below w.heap.size w w7 := (B5.alloc s5 _).grown hgrow7 (by simp; omega) (fun j hj => (ownd5.lt j hj).1)
                    rw [← cellsK_snoc] at own7
                    go_roundw
                    case rel =>
                      refine ⟨j + 1, z + 1, T ++ [m], by omega, by go_num, HT1.out.symm, by rw [List.length_append, List.length_singleton]; omega, by rw [← List.append_assoc, @List.length_append _ (d0 ++ T) [m], ← HZ.out]; rfl, ⟨_, _, rfl⟩, ?_, owno7, by rw [HB2.out]; exact K7, B7⟩
                      rw [← List.append_assoc]
                      exact own7
                    case measure => simp only [intOf]; omega
            · have hnd : ¬ (1 ≤ dd0 ∧ dd0 ≤ 16) := by
                rw [← HDD.out]
                exact fun h => hin (decide_eq_true h)
              by_cases hd1 : 1 ≤ dd0
              · have hd2 : ¬ dd0 ≤ 16 := fun h => hnd ⟨hd1, h⟩
                go_wp2_with fail
                refine (HDF.out wr).mono ?_
                rintro e' w' ⟨rfl, rfl⟩
                go_wp2_with fail
                go_roundw
                case rel =>
                  refine ⟨j + 1, z, T, by omega, by go_num, ?_, by omega, HZ.out, ⟨_, _, rfl⟩, ownd, owno, K, Bw⟩
                  rw [HTS.out, if_neg (by simp [hin])]
                case measure => simp only [intOf]; omega
              · go_wp2_with fail
                refine (HDF.out wr).mono ?_
                rintro e' w' ⟨rfl, rfl⟩
                go_wp2_with fail
                go_roundw
                case rel =>
                  refine ⟨j + 1, z, T, by omega, by go_num, ?_, by omega, HZ.out, ⟨_, _, rfl⟩, ownd, owno, K, Bw⟩
                  rw [HTS.out, if_neg (by simp [hin])]
                case measure => simp only [intOf]; omega
          · obtain rfl : j = r := by omega
            have hall : Y.take j = Y := by have := HYL.out; rw [← this]; exact List.take_length
            have hT2 : T = takeT n d0 Y := by rw [hT, hall]
            have hpl2 := HPL2.out
            rw [← hT2] at hpl2
            obtain ⟨bl, hbl0⟩ : ∃ bl, blpOf n T = bl := ⟨_, rfl⟩
            rw [hbl0] at K hpl2
            have HP3 := Lib.hid hpl2
            have k0 := K.cell
            simp at k0
            have j1 : ¬ (j : Int) < (j : Int) := by omega
            have sw := Bw.size
            have hnew := World.news_of_block (Blk.new wr 40 #[.int .i64 n, .int .i64 (bl : Int)])
            have owno3 := ownsRow_alloc owno (.cells #[.int .i64 n, .int .i64 (bl : Int)] 40)
            have ownd3 := ownsRow_alloc ownd (.cells #[.int .i64 n, .int .i64 (bl : Int)] 40)
            have no3 := fun j (hj : (Value.slice ad z cd).ownBlock = some j) => own_ne_own ownd3 owno3 (by decide) j hj
            have HZ2 := HZ
            clear hT hT2 hall hpl2 hbl0
            go_wp2_with (at_builtin; refine wpList_append_lies _ rfl _ _ 41 rfl w.heap.size 40 iq (.agg #[.int .i64 0, .int .i64 0]) 2 16 Try.underlying41 hq0 hq1 hq2 hq3 rfl (by decide) _ _ _ rfl owno3 ⟨wr.heap.size, 0, none⟩ 1 1 [.int .i64 n, .int .i64 (bl : Int)] rfl rfl hnew (by simp [Value.oneCell']) (by omega) (by rw [maxLen_eq]; omega) (by omega) (by simp; omega) _ rfl ?_; intro g4 k4 w4 own4 hgrow4 hat4 hlt4)
            have ownd4 := own_at2 ownd3 (w' := w4) (fun j hj => hgrow4.block j (ownd3.lt j hj).2 (fun e => no3 j hj e.symm))
            have B4 : Below w.heap.size w w4 := (Bw.alloc sw _).grown hgrow4 (by simp; omega) (fun j hj => (owno3.lt j hj).1)
            go_roundw
            case rel =>
              refine ⟨i + 1, out ++ [(n, bl)], d0 ++ T, by omega, by go_num, HP3.out, by rw [List.length_append, List.length_singleton]; omega, by have := HZ.out; omega, ⟨_, _, by rw [List.length_append]; rfl⟩, ?_, ⟨_, _, by rw [← HZ.out]⟩, by rw [← HZ.out]; exact ownd4, B4⟩
              rw [List.length_append, rowQ_append]
              exact own4
            case measure => simp only [intOf]; omega
    · obtain rfl : i = l := by omega
      have j1 : ¬ (i : Int) < (i : Int) := by omega
      have e0 : pairsL (dd X) = out := by
        rw [HPL.out, List.drop_of_length_le (by have := HX.out; omega)]
        simp [rest, dd, pairsL, pairsF]
      have HE := Lib.hid e0
      clear e0
      go_wp2_with fail
      go_ret
      exact ⟨_, rfl, by rw [HE.out]; exact owno, B⟩
end Go.Proofs.Ytmmoejnjajmnpaa
