/- Package split: the statements' fixed facts, and the statements' Cut, walked. No condition but the texts' lengths. -/
import Derived.Test.YtagponhnkodjhaaSplit2
namespace Go.Proofs.Ytagponhnkodjhaa
open Go.RowKit Go.Maps BigFrame
attribute [local go_sem ↓] Go.wp_at_zero Go.wp_at_succ

def cutB (s : ByteArray) (n : Nat) : ByteArray := if n < s.size then s.extract 0 n else s
theorem cutB_size (s : ByteArray) (n : Nat) : (cutB s n).size ≤ n ∧ (cutB s n).size ≤ s.size := by
  unfold cutB
  split
  · simp; omega
  · omega
set_option maxHeartbeats 400000 in
theorem law02_Cut (s c : ByteArray) (n : Nat) (hs : s.size ≤ maxLen) (hn : n ≤ 100000) (h : cutB s n = c) (w : World) :
    Calls Try.prog 8 #[.string s, .int .i64 (n : Int)] w fun e w' => e = .returned (.string c) ∧ w = w' := by
  subst h
  rw [maxLen_eq] at hs
  by_cases hlt : n < s.size
  · have hc : cutB s n = s.extract 0 n := if_pos hlt
    have HC := Lib.hid hc
    clear hc
    go_enter Try.func8, Try.ntmps8
    go_wp2
    go_ret
    exact ⟨by rw [HC.out]; rfl, rfl⟩
  · have hc : cutB s n = s := if_neg hlt
    have HC := Lib.hid hc
    clear hc
    go_enter Try.func8, Try.ntmps8
    go_wp2
    go_ret
    exact ⟨by rw [HC.out]; rfl, rfl⟩

set_option maxHeartbeats 4000000 in
theorem law23_awake (w : World) :
    Calls Try.prog 7 #[] w fun e w' => e = .returned (.bool true) ∧ Below w.heap.size w w' := by
  have HS := Lib.hid (split_Split (⟨#[97, 98, 99, 100, 101]⟩ : ByteArray) 2 2 (by decide) (by decide) (by decide) w)
  have hp : partCells (⟨#[97, 98, 99, 100, 101]⟩ : ByteArray) 2 3 = [.string ⟨#[97, 98]⟩, .string ⟨#[99, 100]⟩, .string ⟨#[101]⟩] := by rfl
  have hc : countB (⟨#[97, 98, 99, 100, 101]⟩ : ByteArray) 2 = 3 := by decide
  rw [hc, hp] at HS
  clear hp hc
  go_enter Try.func7, Try.ntmps7
  go_wp2_with fail
  refine HS.out.mono ?_
  rintro e w1 ⟨v, rfl, own, B1⟩
  obtain ⟨a, c, rfl, S⟩ := SliceOf.of_own own (fun i => ([.string ⟨#[97, 98]⟩, .string ⟨#[99, 100]⟩, .string ⟨#[101]⟩] : List Value).getD i undef) (fun i hi => by
    match i, hi with
    | 0, _ => rfl
    | 1, _ => rfl
    | 2, _ => rfl)
  obtain ⟨b0, off, rfl, hb, hcell⟩ := S.at1 (by omega)
  have d2 := hcell 2 (by omega)
  simp at d2
  clear HS own S hcell
  go_wp2_with fail
  refine (split_New 7 1 3 1 (by decide) w1).mono ?_
  rintro e w2 ⟨rfl, hF, hb2⟩
  have d3 := (hb2.cell (p := ⟨b0, off + 2, none⟩) hb).trans d2
  have B2 := below_then B1 hb2 (Nat.le_refl _)
  have HP := Lib.hid (split_PutOk (w1.heap.size + 1) w1.heap.size 0 7 1 3 0 0 (.map []) ⟨#[120]⟩ 2 w2 hF (by omega) (by omega) (by omega) (by omega) (by omega) rfl (by decide) (by omega) (by omega) (by rfl))
  clear d2 hF
  go_wp2_with fail
  refine HP.out.mono ?_
  rintro e w3 ⟨rfl, hF, hk3⟩
  have B3 : Below w.heap.size w w3 := B2.trans (hk3 _ (by have := B1.size; omega) B1.size B2.size)
  clear hk3 HP
  have HT := Lib.hid (split_Time _ _ _ _ _ _ _ _ w3 hF)
  have HF := Lib.hid (split_First _ _ _ _ _ _ _ _ w3 hF)
  clear hF
  go_wp2_with fail
  refine HT.out.mono ?_
  rintro e w' ⟨rfl, rfl⟩
  go_wp2_with fail
  refine HF.out.mono ?_
  rintro e w' ⟨rfl, rfl⟩
  go_wp2_with fail
  go_ret
  exact ⟨rfl, B3⟩
end Go.Proofs.Ytagponhnkodjhaa
