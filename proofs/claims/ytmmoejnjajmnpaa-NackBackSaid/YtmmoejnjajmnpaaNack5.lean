/- The statements' awake of package nack, the document's In. No condition but how many. -/
import Derived.Test.YtmmoejnjajmnpaaNackP
namespace Go.Proofs.Ytmmoejnjajmnpaa
open Go.RowKit BigFrame
attribute [local go_sem ↓] Go.wp_at_zero Go.wp_at_succ
theorem prec_eql (x0 y0 : Int) (x1 y1 : Int) (w : World) : (binOp .eql 30 (.agg #[.int .u16 x0, .int .u16 x1]) (.agg #[.int .u16 y0, .int .u16 y1])).run Try.prog w = .ok (.bool ((x0 == y0) && (x1 == y1))) w := by
  have hS : Try.prog.underlying 30 = some (.struct (Try.prog.fieldsOf 30)) := by kernel_rfl
  have hp : Try.prog.stoodInHeld 30 = false := by kernel_rfl
  have u28 := Try.underlying28
  have a28 := Try.isAgg28
  have z28 := Try.sizeOf28
  rw [run_eql_struct, show (10000 : Nat) = 9999 + 1 from rfl, run_equalIn_agg w 9999 30 _ _ hS hp]
  simp only [Program.fieldsOf, Try.underlying30]
  go_simp
  by_cases h0 : x0 = y0
  rotate_left
  · simp [h0]
  subst h0
  by_cases h1 : x1 = y1
  rotate_left
  · simp [h1]
  subst h1
  (try simp [])
theorem prec_neq (x0 y0 : Int) (x1 y1 : Int) (w : World) : (binOp .neq 30 (.agg #[.int .u16 x0, .int .u16 x1]) (.agg #[.int .u16 y0, .int .u16 y1])).run Try.prog w = .ok (.bool (!((x0 == y0) && (x1 == y1)))) w := by
  have hS : Try.prog.underlying 30 = some (.struct (Try.prog.fieldsOf 30)) := by kernel_rfl
  have hp : Try.prog.stoodInHeld 30 = false := by kernel_rfl
  have u28 := Try.underlying28
  have a28 := Try.isAgg28
  have z28 := Try.sizeOf28
  rw [run_neq_struct, show (10000 : Nat) = 9999 + 1 from rfl, run_equalIn_agg w 9999 30 _ _ hS hp]
  simp only [Program.fieldsOf, Try.underlying30]
  go_simp
  by_cases h0 : x0 = y0
  rotate_left
  · simp [h0]
  subst h0
  by_cases h1 : x1 = y1
  rotate_left
  · simp [h1]
  subst h1
  (try simp [])
theorem prec_guard (op : BinOp) (x y : Operand) (xs ys : Array Value) (w : World) : (eqGuard op 30 x y (.agg xs) (.agg ys)).run Try.prog w = .ok () w := run_eqGuard_agg w op 30 x y xs ys (by kernel_rfl)

attribute [local go_sem] prec_eql prec_neq prec_guard

set_option maxHeartbeats 2000000 in
theorem ref10_In (a : Option Addr) (l c : Nat) (e : Nat → Int) (x : Int) (r : Bool) (w : World) (S : SliceOf w a l c 1 (fun i => [.int .i64 (e i)])) (hl : l ≤ 100000) (hr : decide (x ∈ lst e l) = r) :
    Calls Try.prog 11 #[.slice a l c, .int .i64 x] w fun e' w' => e' = .returned (.bool r) ∧ w = w' := by
  have HR := Lib.hid hr
  clear hr
  go_enter Try.func11, Try.ntmps11
  go_wp2_with fail
  go_loop [9] (fun x9 => ∃ k : Nat, k ≤ l ∧ x9 = .int .i64 k ∧ ∀ i, i < k → e i ≠ x) (fun x9 => l - (intOf x9).toNat)
  case atStart => exact ⟨0, by omega, rfl, fun i h => absurd h (by omega)⟩
  case round =>
    obtain ⟨k, hk, rfl, hno⟩ := hrel
    have HNO := Lib.hid hno
    clear hno
    by_cases hlt : k < l
    · obtain ⟨b, off, rfl, hbb, hcell⟩ := S.at1 (by omega)
      have d := hcell k hlt
      obtain ⟨y, hy⟩ : ∃ y, e k = y := ⟨_, rfl⟩
      rw [hy] at d
      have HY := Lib.hid hy
      have i1 : (0 : Int) ≤ (k : Int) := by omega
      have i2 : (k : Int) < (l : Int) := by omega
      have wk : IntKind.i64.wrap ((k : Int) + 1) = ((k + 1 : Nat) : Int) := by rw [IntWalk.i64_in _ (by omega)]; omega
      clear hy hcell
      by_cases hxy : y = x
      · have hrt : r = true := by
          rw [← HR.out]
          refine decide_eq_true ?_
          unfold lst
          rw [List.mem_map]
          exact ⟨k, List.mem_range.2 hlt, by rw [HY.out, hxy]⟩
        subst hrt
        subst hxy
        go_wp2_with fail
        go_ret
        exact ⟨rfl, rfl⟩
      · have e1 : (y == x) = false := by simp [hxy]
        go_wp2_with fail
        go_round
        case rel =>
          refine ⟨k + 1, by omega, by go_num, fun i hi => ?_⟩
          rcases Nat.lt_or_ge i k with h | h
          · exact HNO.out i h
          · obtain rfl : i = k := by omega
            rw [HY.out]; exact hxy
        case measure => simp only [intOf]; omega
    · obtain rfl : k = l := by omega
      have j1 : ¬ (k : Int) < (k : Int) := by omega
      have hrt : r = false := by
        rw [← HR.out]
        refine decide_eq_false ?_
        unfold lst
        rw [List.mem_map]
        rintro ⟨i, hi, he⟩
        exact HNO.out i (List.mem_range.1 hi) he
      subst hrt
      go_wp2_with fail
      go_ret
      exact ⟨rfl, rfl⟩
theorem SliceOf.litF {w : World} {g : Nat} {t : TypeId} {cs : Array Value} {n : Nat} (h : Blk w g t cs) (hn : cs.size = n) (hm : n ≤ 1000) (E : Nat → Value) (hE : ∀ i, i < n → cs[i]? = some (E i)) :
    SliceOf w (some ⟨g, 0, none⟩) n n 1 (fun i => [E i]) := by
  refine ⟨Nat.le_refl _, by rw [maxLen_eq]; omega, fun hp => ⟨g, 0, rfl, h.lt, fun i hi j v hv => ?_⟩⟩
  match j, hv with
  | 0, hv =>
    simp at hv
    subst hv
    have := h.cell i
    simp only [Nat.mul_one, Nat.add_zero, Nat.zero_add]
    rw [this]
    exact hE i hi
def awk (i : Nat) : Int := if i = 0 then 5 else if i = 1 then 7 else if i = 2 then 21 else 22
theorem awk_pairs : pairsL (dst awk 4) = [(5, 32770), (22, 0)] := by decide +kernel
theorem awk_nums : (numsB 5 32770 16).length = 3 := by decide +kernel
set_option maxRecDepth 8000 in
set_option maxHeartbeats 4000000 in
theorem law10_awake (w : World) :
    Calls Try.prog 8 #[] w fun e w' => e = .returned (.bool true) ∧ Below w.heap.size w w' := by
  have K1 := Blk.new w 28 #[.int .u16 5, .int .u16 7, .int .u16 21, .int .u16 22]
  have B1 : Below w.heap.size w (w.alloc (.cells #[.int .u16 5, .int .u16 7, .int .u16 21, .int .u16 22] 28)) := (Below.refl _ w).alloc (Nat.le_refl _) _
  have HN := Lib.hid (fun W => pair_Numbers 5 32770 (by decide) (by decide) W)
  rw [awk_nums] at HN
  go_enter Try.func8, Try.ntmps8
  go_wp2_with fail
  refine (nack_Pairs _ 4 4 awk _ (SliceOf.litF (n := 4) K1 rfl (by decide) (fun i => .int .u16 (awk i)) (fun i hi => by
    match i, hi with
    | 0, _ => rfl
    | 1, _ => rfl
    | 2, _ => rfl
    | 3, _ => rfl)) (by decide) (fun i _ => by unfold awk; split <;> (try split) <;> (try split) <;> omega)).mono ?_
  rintro e w2 ⟨v, rfl, own, B2⟩
  rw [awk_pairs] at own
  obtain ⟨a, c, rfl, P⟩ := PairsAt.of_own own rfl
  obtain ⟨b, off, rfl, hbb, hcell⟩ := P.get (by decide)
  obtain ⟨c0, c1⟩ := hcell 0 _ rfl
  obtain ⟨c2, c3⟩ := hcell 1 _ rfl
  have B12 := below_then B1 B2 (Nat.le_refl _)
  clear hcell K1 P own B1 B2
  simp only [Nat.zero_mul, Nat.add_zero, Nat.one_mul] at c0 c1 c2 c3
  go_wp2_with fail
  refine (HN.out w2).mono ?_
  rintro e w3 ⟨v3, rfl, own3, B3⟩
  obtain ⟨a3, k3, rfl⟩ := own_any own3
  have B13 := below_then B12 B3 (Nat.le_refl _)
  go_wp2_with fail
  go_ret
  exact ⟨rfl, B13⟩
end Go.Proofs.Ytmmoejnjajmnpaa
