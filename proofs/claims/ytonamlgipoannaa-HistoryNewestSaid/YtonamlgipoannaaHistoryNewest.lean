/- HistoryNewest, walked. No condition. -/
import Derived.Test.YtonamlgipoannaaHist8
namespace Go.Proofs.Ytonamlgipoannaa
open Go.RowKit BigFrame
attribute [local go_sem ↓] Go.wp_at_zero Go.wp_at_succ
attribute [local go_sem] i64_and31 i64_and63 i64_and7

def nrec (st : Int) (k : Nat) : HR := ⟨st * k, 0, 1, ⟨#[120]⟩⟩
def nl (st : Int) (M i : Nat) : List HR := ((List.range i).map (nrec st)).drop (i - M)
theorem nl_len (st : Int) (M i : Nat) : (nl st M i).length = min M i := by simp [nl]; omega
theorem nl_get (st : Int) (M i j : Nat) (h : j < min M i) : (nl st M i)[j]? = some (nrec st (i - M + j)) := by
  unfold nl
  rw [List.getElem?_drop, List.getElem?_map, List.getElem?_range (by omega)]
  rfl
theorem nl_succ (st : Int) (M i : Nat) (hM : 1 ≤ M) : nl st M (i + 1) = (if ((nl st M i).length : Int) = M then (nl st M i).drop 1 else nl st M i) ++ [nrec st i] := by
  rw [nl_len]
  unfold nl
  rw [List.range_succ, List.map_append]
  rcases Nat.lt_or_ge i M with h | h
  · rw [if_neg (by omega)]
    have e1 : i + 1 - M = 0 := by omega
    have e2 : i - M = 0 := by omega
    rw [e1, e2]
    simp
  · rw [if_pos (by omega), List.drop_drop, List.drop_append]
    have e1 : i + 1 - M = i - M + 1 := by omega
    have e2 : i - M + 1 - ((List.range i).map (nrec st)).length = 0 := by simp; omega
    rw [e1, e2]
    rfl

set_option maxRecDepth 8000 in
set_option maxHeartbeats 4000000 in
theorem HistoryNewest_walk (a0 : Int) (a1 : Int) (a2 : Int) (w : World) (a0w : (Lit.int .i64 a0).wf = true) (a1w : (Lit.int .i64 a1).wf = true) (a2w : (Lit.int .i64 a2).wf = true) :
    Calls Try.prog 4 #[.int .i64 a0, .int .i64 a1, .int .i64 a2] w fun e w' => e = .returned (.bool true) ∧ Below w.heap.size w w' := by
  obtain ⟨i0, hi0, hz0, hz1, hz2⟩ := info_parts (show (Try.prog.info? 3).map (fun i => (i.zero, i.size, i.bytes)) = some (some (.int .i64 0), 1, 8) by kernel_rfl)
  obtain ⟨M, hM⟩ : ∃ M : Nat, 1 + a0 % 32 = M := ⟨(1 + a0 % 32).toNat, by omega⟩
  obtain ⟨C, hC⟩ : ∃ C : Nat, a1 % 64 = C := ⟨(a1 % 64).toNat, by omega⟩
  obtain ⟨st, hst⟩ : ∃ st : Int, 1 + a2 % 8 = st := ⟨_, rfl⟩
  have M1 : 1 ≤ M ∧ M ≤ 32 := by omega
  have C1 : C ≤ 63 := by omega
  have st1 : 1 ≤ st ∧ st ≤ 8 := by omega
  have w0 : IntKind.i64.wrap (1 + a0 % 32) = (M : Int) := by rw [hM]; exact IntWalk.i64_in _ (by omega)
  have w2 : IntKind.i64.wrap (1 + a2 % 8) = st := by rw [hst]; exact IntWalk.i64_in _ (by omega)
  have HNW := Lib.hid (fun W => hist_New (M : Int) 1 (M : Int) 1 (by unfold clipI; omega) (by decide) W)
  obtain ⟨mn, hmn⟩ : ∃ mn : Nat, min M C = mn := ⟨_, rfl⟩
  have hmi : (if (C : Int) < (M : Int) then (C : Int) else (M : Int)) = (mn : Int) := by split <;> omega
  have hmi2 : (if C < M then (C : Int) else (M : Int)) = (mn : Int) := by split <;> omega
  clear hM hst a0w a1w a2w
  have hC' := hC
  go_enter Try.func4, Try.ntmps4
  go_wp2_with fail
  refine (law21_awake w).mono ?_
  rintro e w1 ⟨rfl, B1⟩
  go_wp2_with fail
  refine (HNW.out w1).mono ?_
  rintro e w2' ⟨rfl, h2, B2⟩
  obtain ⟨g, hg⟩ : ∃ g, w1.heap.size = g := ⟨_, rfl⟩
  rw [hg] at h2 B2 ⊢
  have s1 := B1.size
  have gw : w.heap.size ≤ g := by omega
  have gl := h2.blk.lt
  have B02 : Below w.heap.size w w2' := B1.trans (B2.mono gw)
  clear hg B1 B2 hC' HNW
  go_wp2_with fail
  go_loopw [27] (fun x27 wr => ∃ (i : Nat) (v : Value), i ≤ C ∧ x27 = .int .i64 i ∧ HV wr g M 1 0 (nl st M i) v ∧ (∀ k, v.ownBlock = some k → w.heap.size ≤ k) ∧ Below w.heap.size w wr) (fun x27 _ => C - (intOf x27).toNat)
  case atStart =>
    have e : nl st M 0 = [] := by simp [nl]
    exact ⟨0, .slice none 0 0, by omega, rfl, by rw [e]; exact h2, (fun k e => by cases e), B02⟩
  case round =>
    clear h2 B02
    obtain ⟨i, v, hi, rfl, h, hv, B⟩ := hrel
    by_cases hlt : i < C
    · have i1 : (i : Int) < (C : Int) := by omega
      have i0' : (0 : Int) ≤ (i : Int) := by omega
      have wk : IntKind.i64.wrap ((i : Int) + 1) = ((i + 1 : Nat) : Int) := by rw [IntWalk.i64_in _ (by omega)]; omega
      have hll := nl_len st M i
      have hmul : 0 ≤ st * (i : Int) ∧ st * (i : Int) ≤ 504 := by
        refine ⟨Int.mul_nonneg (by omega) (by omega), ?_⟩
        have h1 : st * (i : Int) ≤ 8 * (i : Int) := Int.mul_le_mul_of_nonneg_right (by omega) (by omega)
        omega
      obtain ⟨sq, hsq⟩ : ∃ sq, st * (i : Int) = sq := ⟨_, rfl⟩
      have wsq : IntKind.i64.wrap (st * (i : Int)) = sq := by rw [hsq]; exact IntWalk.i64_in _ (by omega)
      have hlo : lastOk (nl st M i) sq := fun r hr h0 => by
        rw [hll] at hr h0
        rw [nl_get st M i _ (by omega)] at hr
        injection hr with hr
        subst hr
        show st * ((i - M + (min M i - 1) : Nat) : Int) < sq
        rw [← hsq]
        have : ((i - M + (min M i - 1) : Nat) : Int) = (i : Int) - 1 := by omega
        rw [this, Int.mul_sub]
        omega
      have hs := nl_succ st M i M1.1
      have HNL := Lib.hid (show (if ((nl st M i).length : Int) = M then (nl st M i).drop 1 else nl st M i) ++ [⟨sq, 0, 1, ⟨#[120]⟩⟩] = nl st M (i + 1) by rw [hs, ← hsq]; rfl)
      have HP := Lib.hid (hist_PutYes g M 1 0 (nl st M i) _ v sq 1 ⟨#[120]⟩ wr h (by omega) (by rw [hll]; omega) (by rw [hll]; omega) hlo rfl)
      have hgl := h.blk.lt
      clear hs hlo hsq hll
      go_wp2_with fail
      refine HP.out.mono ?_
      rintro e w3 ⟨rfl, v3, h3, M3⟩
      rw [HNL.out] at h3
      have sB := B.size
      have B3 := B.trans (M3.down sB gw hv)
      have hv3 := M3.base sB hv
      go_wp2_with fail
      go_roundw
      case rel => exact ⟨i + 1, v3, by omega, by go_num, h3, hv3, B3⟩
      case measure => simp only [intOf]; omega
    · obtain rfl : i = C := by omega
      have i1 : ¬ (i : Int) < (i : Int) := by omega
      have hll := nl_len st M i
      rw [hmn] at hll
      have HSQ := Lib.hid (hist_Seqs g M 1 0 (nl st M i) v wr h (by omega))
      rw [hll] at HSQ
      obtain ⟨wl, hwl⟩ : ∃ wl, wl = wr := ⟨_, rfl⟩
      subst hwl
      have hcell : ∀ j, j < mn → (seqC (nl st M i))[j]? = some (.int .i64 (st * ((i : Int) - (mn : Int) + (j : Int)))) := fun j hj => by
        unfold seqC
        rw [List.getElem?_map, nl_get st M i j (by omega)]
        show some (Value.int .i64 (st * ((i - M + j : Nat) : Int))) = _
        congr 3
        omega
      have HCELL := Lib.hid hcell
      have d1 : IntKind.i64.wrap ((i : Int) - (mn : Int)) = (i : Int) - (mn : Int) := IntWalk.i64_in _ (by omega)
      have hmn2 : mn ≤ i := by omega
      clear hcell hll hmn hC
      go_wp2_with fail
      refine HSQ.out.mono ?_
      rintro e w3 ⟨v3, rfl, own3, B3⟩
      obtain ⟨va, vc, rfl, S3⟩ := SliceOf.of_own own3 (fun j => .int .i64 (st * ((i : Int) - (mn : Int) + (j : Int)))) (fun j hj => HCELL.out j hj)
      have BE := B.trans (B3.mono (B.size))
      clear own3
      go_wp2_with fail
      go_loopw [47] (fun x47 wr => ∃ j : Nat, j ≤ mn ∧ x47 = .int .i64 j ∧ w3 = wr) (fun x47 _ => mn - (intOf x47).toNat)
      case atStart => exact ⟨0, by omega, rfl, rfl⟩
      case round =>
        obtain ⟨j, hj, rfl, rfl⟩ := hrel
        by_cases hlt2 : j < mn
        · obtain ⟨bb, off, rfl, hbb, hc⟩ := S3.at1 (by omega)
          have d := hc j hlt2
          have j1 : (j : Int) < (mn : Int) := by omega
          have j0 : (0 : Int) ≤ (j : Int) := by omega
          have wk : IntKind.i64.wrap ((j : Int) + 1) = ((j + 1 : Nat) : Int) := by rw [IntWalk.i64_in _ (by omega)]; omega
          obtain ⟨df, hdf⟩ : ∃ df, (i : Int) - (mn : Int) + (j : Int) = df := ⟨_, rfl⟩
          have wd : IntKind.i64.wrap ((i : Int) - (mn : Int) + (j : Int)) = df := by rw [hdf]; exact IntWalk.i64_in _ (by omega)
          have hdb : 0 ≤ df ∧ df ≤ 63 := by omega
          obtain ⟨pr, hpr⟩ : ∃ pr, st * df = pr := ⟨_, rfl⟩
          rw [hdf, hpr] at d
          have hpb : 0 ≤ pr ∧ pr ≤ 504 := by
            rw [← hpr]
            refine ⟨Int.mul_nonneg (by omega) (by omega), ?_⟩
            have h1 : st * df ≤ 8 * df := Int.mul_le_mul_of_nonneg_right (by omega) (by omega)
            omega
          have wpr : IntKind.i64.wrap (st * df) = pr := by rw [hpr]; exact IntWalk.i64_in _ (by omega)
          clear hc hdf hpr
          go_wp2_with fail
          go_roundw
          case rel => exact ⟨j + 1, by omega, by go_num, by trivial⟩
          case measure => simp only [intOf]; omega
        · obtain rfl : j = mn := by omega
          have j1 : ¬ (j : Int) < (j : Int) := by omega
          go_wp2_with fail
          go_ret
          exact ⟨rfl, BE⟩
end Go.Proofs.Ytonamlgipoannaa
