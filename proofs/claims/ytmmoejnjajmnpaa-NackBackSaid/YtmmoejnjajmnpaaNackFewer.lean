/- NackFewer, walked. No condition. -/
import Derived.Test.YtmmoejnjajmnpaaNack5
namespace Go.Proofs.Ytmmoejnjajmnpaa
open Go.RowKit BigFrame
attribute [local go_sem ↓] Go.wp_at_zero Go.wp_at_succ

theorem wf_u16 {x : Int} (h : (Lit.int .u16 x).wf = true) : 0 ≤ x ∧ x ≤ 65535 := by
  simp [Lit.wf, IntKind.min, IntKind.max, IntKind.signed, IntKind.bits] at h
  omega
theorem lst_mem {e : Nat → Int} {n : Nat} {x : Int} : x ∈ lst e n ↔ ∃ i, i < n ∧ e i = x := by
  unfold lst
  simp [List.mem_map, List.mem_range]
theorem lst_getD (l : List Int) : lst (fun i => l.getD i 0) l.length = l := by
  unfold lst
  apply List.ext_getElem
  · simp
  · intro i h1 h2
    simp [h2]
set_option maxRecDepth 8000 in
set_option maxHeartbeats 8000000 in
theorem NackFewer_walk (a0a : Option Addr) (a0l a0c : Nat) (a0e0 : Nat → Int) (w : World) (a0S : SliceOf w a0a a0l a0c 1 (fun i => [.int .u16 (a0e0 i)])) (a0F0 : ∀ i, i < a0l → (Lit.int .u16 (a0e0 i)).wf = true) :
    Calls Try.prog 3 #[.slice a0a a0l a0c] w fun e w' => e = .returned (.bool true) ∧ Below w.heap.size w w' := by
  obtain ⟨i0, hi0, hz0, hz1, hz2⟩ := info_parts (show (Try.prog.info? 3).map (fun i => (i.zero, i.size, i.bytes)) = some (some (.int .i64 0), 1, 8) by kernel_rfl)
  have hsz := a0S.size_le
  have hcap := a0S.1
  have hcm := a0S.2.1
  rw [maxLen_eq] at hcm
  obtain ⟨n, hn⟩ : ∃ n : Nat, min a0l 60 = n := ⟨_, rfl⟩
  have hm1 : (if 60 < (a0l : Int) then 60 else (a0l : Int)) = (n : Int) := by rw [← hn]; split <;> omega
  have hm2 : min (a0l : Int) 60 = (n : Int) := by omega
  have he : ∀ i, i < n → 0 ≤ a0e0 i ∧ a0e0 i ≤ 65535 := fun i hi => wf_u16 (a0F0 i (by omega))
  have S := a0S.upto n (by omega)
  have n60 : n ≤ 60 := by omega
  have nl : n ≤ a0l := by omega
  have HE := Lib.hid he
  have nc : (n : Int) ≤ (a0c : Int) := by omega
  clear hn a0F0 a0S he
  obtain ⟨e, hee⟩ : ∃ e, a0e0 = e := ⟨_, rfl⟩
  rw [hee] at S HE
  clear hee
  go_enter Try.func3, Try.ntmps3
  go_wp2_with fail
  refine (law10_awake _).mono ?_
  rintro e' w1 ⟨rfl, B1⟩
  go_wp2_with fail
  have S1 := S.below B1
  refine (law01_Ints a0a n a0c e w1 S1 (by omega) HE.out).mono ?_
  rintro e' w2 ⟨v2, rfl, own2, B2⟩
  obtain ⟨a2, c2, rfl, SI⟩ := SliceOf.of_lst own2
  go_wp2_with fail
  have S2 := S1.below B2
  refine (nack_Pairs a0a n a0c e w2 S2 (by omega) HE.out).mono ?_
  rintro e' w3 ⟨v3, rfl, own3, B3⟩
  obtain ⟨ps, hps⟩ : ∃ ps, pairsL (dst e n) = ps := ⟨_, rfl⟩
  have hu := dst_u16 HE.out
  have hnd := dst_nodup e n
  have hcnt := cntP_all hu hnd
  have hpid := fun x => @pairsL_pid (dst e n) hu hnd x
  have hblp := @pairsL_blp (dst e n)
  have hpl := pairsL_len (dst e n)
  have hdl := dst_len e n
  rw [hps] at hcnt hpid hblp hpl own3
  obtain ⟨m, hm⟩ : ∃ m, ps.length = m := ⟨_, rfl⟩
  have HM := Lib.hid hm
  rw [hm] at own3 hpl hcnt
  obtain ⟨a3, c3, rfl, P⟩ := PairsAt.of_own own3 hm
  have HPID := Lib.hid hpid
  have HBLP := Lib.hid hblp
  have HCNT := Lib.hid hcnt
  have hemp : m = 0 ↔ n = 0 := by
    rw [← dst_empty e n]
    constructor
    · intro h0
      have h1 : (dst e n).length = 0 := by rw [← hcnt, h0]; simp [cntP]
      exact List.length_eq_zero_iff.1 h1
    · intro h0
      rw [h0] at hpl
      simpa using hpl
  have HEMP := Lib.hid hemp
  have SI3 := SI.below B3
  have B13 := below_then (below_then B1 B2 (Nat.le_refl _)) B3 (Nat.le_refl _)
  clear own2 own3 hps hu hnd hcnt hpid hblp hm hemp S S1 S2 SI
  go_wp2_with fail
  go_loopw [5, 24] (fun x5 x24 wr => ∃ k : Nat, k ≤ m ∧ x24 = .int .i64 k ∧ x5 = .int .i64 (cntP ps k : Nat) ∧ Below w3.heap.size w3 wr) (fun _ x24 _ => m - (intOf x24).toNat)
  case atStart => exact ⟨0, by omega, rfl, by simp [cntP], Below.refl _ _⟩
  case round =>
    obtain ⟨k, hk, rfl, rfl, B⟩ := hrel
    by_cases hlt : k < m
    · have hkl : k < ps.length := by have := HM.out; omega
      obtain ⟨x, hx⟩ : ∃ x, ps[k]? = some x := ⟨_, List.getElem?_eq_getElem hkl⟩
      obtain ⟨p, b⟩ := x
      obtain ⟨bb, off, rfl, hbb, hcell⟩ := P.get (by omega)
      obtain ⟨d0, d1⟩ := hcell k _ hx
      have e0 := (B.cell (p := ⟨bb, off + k * 2, none⟩) hbb).trans d0
      have e1 := (B.cell (p := ⟨bb, off + k * 2 + 1, none⟩) hbb).trans d1
      have hpm := HPID.out _ (List.mem_of_getElem? hx)
      have hbl := HBLP.out _ (List.mem_of_getElem? hx)
      have hpb := dst_bd e n HE.out _ hpm
      have hcs := cntP_succ ps k _ hx
      have hcl := cntP_le ps k
      have hnl := numsB_len p b 16
      simp only at e0 e1 hpm hbl hpb hcs
      obtain ⟨p0, p1⟩ := hpb
      have HIN := Lib.hid (fun W (h : SliceOf W a2 n c2 1 (fun i => [.int .i64 (e i)])) => ref10_In a2 n c2 e p true W h (by omega) (decide_eq_true (lst_mem.2 ((dst_mem e p n).1 hpm))))
      have HNU := Lib.hid (fun W => pair_Numbers p b ⟨p0, p1⟩ hbl W)
      obtain ⟨q, hq⟩ : ∃ q, (numsB p b 16).length = q := ⟨_, rfl⟩
      rw [hq] at hcs HNU hnl
      obtain ⟨z, hz⟩ : ∃ z, cntP ps k = z := ⟨_, rfl⟩
      rw [hz] at hcs hcl ⊢
      have HCS := Lib.hid hcs
      have wz : IntKind.i64.wrap ((z : Int) + (q : Int)) = ((z + q : Nat) : Int) := by rw [IntWalk.i64_in _ (by omega)]; omega
      have i1 : (0 : Int) ≤ (k : Int) := by omega
      have i2 : (k : Int) < (m : Int) := by omega
      have wk : IntKind.i64.wrap ((k : Int) + 1) = ((k + 1 : Nat) : Int) := by rw [IntWalk.i64_in _ (by omega)]; omega
      have K4 := Blk.new wr 30 #[.int .u16 p, .int .u16 (b : Int)]
      have B4 : Below wr.heap.size wr (wr.alloc (.cells #[.int .u16 p, .int .u16 (b : Int)] 30)) := (Below.refl _ wr).alloc (Nat.le_refl _) _
      have B04 := below_then B B4 (Nat.le_refl _)
      clear hx hcell d0 d1 hpm hbl hkl hq hz hcs
      go_upto_region 10 with fail
      clear e0 e1
      obtain ⟨gp, hgp⟩ : ∃ gp, wr.heap.size = gp := ⟨_, rfl⟩
      rw [hgp] at K4 ⊢
      generalize wr.alloc (.cells #[.int .u16 p, .int .u16 (b : Int)] 30) = w4 at *
      have k4 := K4.cell
      simp at k4
      clear hgp B4
      go_wp2_with fail
      refine (HIN.out w4 (SI3.below B04)).mono ?_
      rintro e' w' ⟨rfl, rfl⟩
      go_wp2_with fail
      refine (HNU.out w4).mono ?_
      rintro e' w5 ⟨v5, rfl, own5, B5⟩
      obtain ⟨a5, c5, rfl⟩ := own_any own5
      have B05 := below_then B04 B5 (Nat.le_refl _)
      go_wp2_with fail
      go_roundw
      case rel => exact ⟨k + 1, by omega, by go_num, by rw [HCS.out]; go_num, B05⟩
      case measure => simp only [intOf]; omega
    · obtain rfl : k = m := by omega
      have j1 : ¬ (k : Int) < (k : Int) := by omega
      rw [HCNT.out]
      obtain ⟨wl, hwl⟩ : ∃ wl, wl = wr := ⟨_, rfl⟩
      subst hwl
      have SI4 := SI3.below B
      have B14 := below_then B13 B (Nat.le_refl _)
      obtain ⟨dl, hdl2⟩ : ∃ dl, (dst e n).length = dl := ⟨_, rfl⟩
      have HDL := Lib.hid hdl2
      rw [hdl2] at hpl hdl ⊢
      clear P SI3 B13 B hdl2
      go_wp2_with fail
      clear j1
      go_loopw [8, 42] (fun x8 x42 wr => ∃ k : Nat, k ≤ n ∧ x42 = .int .i64 k ∧ (∃ ao co, x8 = .slice ao (dst e k).length co) ∧ wr.ownsRow wl.heap.size 3 1 x8 (dst e k).length (cellsK .i64 (dst e k)) ∧ Below wl.heap.size wl wr) (fun _ x42 _ => n - (intOf x42).toNat)
      case atStart => exact ⟨0, by omega, rfl, ⟨_, _, rfl⟩, ⟨rfl, .inl ⟨rfl, rfl⟩⟩, Below.refl _ _⟩
      case round =>
        obtain ⟨j, hj, rfl, ⟨ao, co, rfl⟩, own, B⟩ := hrel
        by_cases hlt : j < n
        · obtain ⟨bb, off, rfl, hbb, hcell⟩ := SI4.at1 (by omega)
          obtain ⟨x, hx⟩ : ∃ x, e j = x := ⟨_, rfl⟩
          have d := (B.cell (p := ⟨bb, off + j, none⟩) hbb).trans (hcell j hlt)
          rw [hx] at d
          obtain ⟨ao', co', hv, SO⟩ := SliceOf.of_cells own
          injection hv with e1 e2 e3
          subst e1 e3
          obtain ⟨t, ht⟩ : ∃ t, decide (x ∈ dst e j) = t := ⟨_, rfl⟩
          have HIN := Lib.hid (ref10_In ao _ co (fun i => (dst e j).getD i 0) x t wr SO (by have := dst_len e j; omega) (by rw [lst_getD]; exact ht))
          have hds : dst e (j + 1) = if x ∈ dst e j then dst e j else dst e j ++ [x] := by rw [← hx]; rfl
          have hjl := dst_len e j
          have i1 : (0 : Int) ≤ (j : Int) := by omega
          have i2 : (j : Int) < (n : Int) := by omega
          have wk : IntKind.i64.wrap ((j : Int) + 1) = ((j + 1 : Nat) : Int) := by rw [IntWalk.i64_in _ (by omega)]; omega
          have HDS := Lib.hid hds
          have HT := Lib.hid ht
          have sB := B.size
          have s14 := B14.size
          clear hcell hx ht hds SO
          cases t with
          | true =>
            go_wp2_with fail
            refine HIN.out.mono ?_
            rintro e' w' ⟨rfl, rfl⟩
            go_wp2_with fail
            go_roundw
            case rel => exact ⟨j + 1, by omega, by go_num, ⟨_, _, by rw [HDS.out, if_pos (of_decide_eq_true HT.out)]⟩, by rw [HDS.out, if_pos (of_decide_eq_true HT.out)]; exact own, B⟩
            case measure => simp only [intOf]; omega
          | false =>
            go_wp2_with fail
            refine HIN.out.mono ?_
            rintro e' w' ⟨rfl, rfl⟩
            go_wp2_with (at_builtin; refine wpList_append_lies _ rfl _ _ 24 rfl wl.heap.size 3 i0 (.int .i64 0) 1 8 Try.underlying24 hi0 hz0 hz1 hz2 rfl (by decide) _ _ _ rfl (own.alloc _) ⟨wr.heap.size, 0, none⟩ 1 1 [.int .i64 x] rfl rfl (cell_one_new _ _ _) (by simp [Value.oneCell']) (by omega) (by rw [maxLen_eq]; omega) (by omega) (by simp; omega) _ rfl ?_; intro g2 cap w6 own6 hgrow hat hlt6)
            have hB6 : Below wl.heap.size wl w6 := (B.alloc sB _).grown hgrow (by simp; omega) (fun j hj => (own.lt j hj).1)
            go_roundw
            case rel =>
              have e2 : dst e (j + 1) = dst e j ++ [x] := by rw [HDS.out, if_neg (of_decide_eq_false HT.out)]
              exact ⟨j + 1, by omega, by go_num, ⟨_, _, by rw [e2, List.length_append]; rfl⟩, by rw [e2, List.length_append, cellsK_snoc]; exact own6, hB6⟩
            case measure => simp only [intOf]; omega
        · obtain rfl : j = n := by omega
          have j1 : ¬ (j : Int) < (j : Int) := by omega
          have BE := below_then B14 B (Nat.le_refl _)
          have q1 : (k : Int) ≤ (dl : Int) := by omega
          have hjz := HEMP.out
          rw [HDL.out]
          by_cases hz : j = 0
          · obtain rfl := hz
            obtain rfl : k = 0 := hjz.2 rfl
            go_wp2_with fail
            go_ret
            exact ⟨by first | rfl | simp, BE⟩
          · have hk0 : ¬ k = 0 := fun h => hz (hjz.1 h)
            have z1 : ((j : Int) == 0) = false := by simp; omega
            have z2 : ((k : Int) == 0) = false := by simp; omega
            go_wp2_with fail
            go_ret
            exact ⟨by first | rfl | simp, BE⟩
end Go.Proofs.Ytmmoejnjajmnpaa
