/- Package delay's Run, walked. No condition. -/
import Derived.Test.YtlockgodmlloeaaDelayLaws
import Derived.Test.YtlockgodmlloeaaRegion
import Derived.Deep.DeepCutAuto
namespace Go.Proofs.Ytlockgodmlloeaa
open Go.RowKit BigFrame
attribute [local go_sem ↓] Go.wp_at_zero Go.wp_at_succ

theorem refd_eql (x0 y0 : Int) (x1 y1 : Int) (x2 y2 : Int) (w : World) : (binOp .eql 23 (.agg #[.int .i64 x0, .int .i64 x1, .int .i64 x2]) (.agg #[.int .i64 y0, .int .i64 y1, .int .i64 y2])).run Try.prog w = .ok (.bool ((x0 == y0) && (x1 == y1) && (x2 == y2))) w := by
  have hS : Try.prog.underlying 23 = some (.struct (Try.prog.fieldsOf 23)) := by kernel_rfl
  have hp : Try.prog.stoodInHeld 23 = false := by kernel_rfl
  have u3 := Try.underlying3
  have a3 := Try.isAgg3
  have z3 := Try.sizeOf3
  rw [run_eql_struct, show (10000 : Nat) = 9999 + 1 from rfl, run_equalIn_agg w 9999 23 _ _ hS hp]
  simp only [Program.fieldsOf, Try.underlying23]
  go_simp
  by_cases h0 : x0 = y0
  rotate_left
  · simp [h0]
  subst h0
  by_cases h1 : x1 = y1
  rotate_left
  · simp [h1]
  subst h1
  by_cases h2 : x2 = y2
  rotate_left
  · simp [h2]
  subst h2
  simp []
theorem refd_neq (x0 y0 : Int) (x1 y1 : Int) (x2 y2 : Int) (w : World) : (binOp .neq 23 (.agg #[.int .i64 x0, .int .i64 x1, .int .i64 x2]) (.agg #[.int .i64 y0, .int .i64 y1, .int .i64 y2])).run Try.prog w = .ok (.bool (!((x0 == y0) && (x1 == y1) && (x2 == y2)))) w := by
  have hS : Try.prog.underlying 23 = some (.struct (Try.prog.fieldsOf 23)) := by kernel_rfl
  have hp : Try.prog.stoodInHeld 23 = false := by kernel_rfl
  have u3 := Try.underlying3
  have a3 := Try.isAgg3
  have z3 := Try.sizeOf3
  rw [run_neq_struct, show (10000 : Nat) = 9999 + 1 from rfl, run_equalIn_agg w 9999 23 _ _ hS hp]
  simp only [Program.fieldsOf, Try.underlying23]
  go_simp
  by_cases h0 : x0 = y0
  rotate_left
  · simp [h0]
  subst h0
  by_cases h1 : x1 = y1
  rotate_left
  · simp [h1]
  subst h1
  by_cases h2 : x2 = y2
  rotate_left
  · simp [h2]
  subst h2
  simp []
theorem refd_guard (op : BinOp) (x y : Operand) (xs ys : Array Value) (w : World) : (eqGuard op 23 x y (.agg xs) (.agg ys)).run Try.prog w = .ok () w := run_eqGuard_agg w op 23 x y xs ys (by kernel_rfl)

theorem refd_eql1 (x0 x1 x2 : Int) (w : World) : (binOp .eql 23 (.agg #[.int .i64 x0, .int .i64 x1, .int .i64 x2]) (.agg #[.int .i64 x0, .int .i64 x1, .int .i64 x2])).run Try.prog w = .ok (.bool true) w := by
  rw [refd_eql]; simp
theorem refd_neq1 (x0 x1 x2 : Int) (w : World) : (binOp .neq 23 (.agg #[.int .i64 x0, .int .i64 x1, .int .i64 x2]) (.agg #[.int .i64 x0, .int .i64 x1, .int .i64 x2])).run Try.prog w = .ok (.bool false) w := by
  rw [refd_neq]; simp
attribute [local go_sem] refd_eql1 refd_neq1 refd_guard

theorem SliceOf.nil (w : World) (E : Nat → List Value) (s : Nat) : SliceOf w none 0 0 s E := ⟨Nat.le_refl _, Nat.zero_le _, fun h => absurd h (by omega)⟩
/-- The delay behind the first n of the jitters. -/
def runD (d : D3) (E : Nat → Int) : Nat → D3
  | 0 => fitD d
  | n + 1 => jitD (runD d E n) (E n)

set_option maxHeartbeats 2000000 in
theorem delay_Run (d : D3) (a : Option Addr) (l c : Nat) (E : Nat → Int) (r : D3) (h : runD d E l = r) (w : World) (hS : SliceOf w a l c 1 (fun i => [.int .i64 (E i)])) :
    Calls Try.prog 13 #[.agg #[.int .i64 d.a, .int .i64 d.b, .int .i64 d.c], .slice a l c] w fun e w' => e = .returned (.agg #[.int .i64 r.a, .int .i64 r.b, .int .i64 r.c]) ∧ Below w.heap.size w w' := by
  obtain ⟨f, hf⟩ : ∃ f, fitD d = f := ⟨_, rfl⟩
  have h0 : runD d E 0 = f := hf
  have hl := hS.size_le
  have HF := Lib.hid (fun W => delay_fit d _ hf W)
  have HS := Lib.hid hS
  clear hf hS
  go_enter Try.func13, Try.ntmps13
  go_wp2_with fail
  refine (HF.out _).mono ?_
  rintro e w1 ⟨rfl, hb⟩
  have k1 := ((Blk.new w 25 #[.int .i64 d.a, .int .i64 d.b, .int .i64 d.c]).alloc (.cells #[.int .i64 0, .int .i64 0, .int .i64 0] 25)).below hb (by simp; omega)
  have k2 := (Blk.new (w.alloc (.cells #[.int .i64 d.a, .int .i64 d.b, .int .i64 d.c] 25)) 25 #[.int .i64 0, .int .i64 0, .int .i64 0]).below hb (by simp)
  simp at k2
  have B1 : Below w.heap.size w w1 := (((Below.refl _ w).alloc (Nat.le_refl _) _).alloc (by simp) _).trans (hb.mono (by simp; omega))
  clear hb
  have k1_c := k1.cell; have k1_f := k1.frozen; have k1_ca := fun o => (k1.alloc o).cell; have k1_fa := fun o => (k1.alloc o).frozen; have k1_cb := fun o o' => ((k1.alloc o).alloc o').cell; have k1_fb := fun o o' => ((k1.alloc o).alloc o').frozen
  simp at k1_c
  go_wp2_with fail
  obtain ⟨w2, e2, k1', B2, hk⟩ := three_set k1 rfl (.int .i64 f.a) (.int .i64 f.b) (.int .i64 f.c) w.heap.size (Nat.le_refl _)
  rw [e2]
  have k2' : Blk w2 (w.heap.size + 1) 25 #[.int .i64 0, .int .i64 0, .int .i64 0] := (hk _ (by omega)).trans k2
  have B3 := B1.trans B2
  clear e2 B2 hk
  clear k1_c k1_f k1_ca k1_fa k1_cb k1_fb
  clear k1 k2 B1
  go_wp2_with fail
  go_loopw [11] (fun i wr => ∃ (k : Nat) (x : D3), k ≤ l ∧ i = .int .i64 k ∧ runD d E k = x ∧
        Blk wr w.heap.size 25 #[.int .i64 x.a, .int .i64 x.b, .int .i64 x.c] ∧ Blk wr (w.heap.size + 1) 25 #[.int .i64 0, .int .i64 0, .int .i64 0] ∧ Below w.heap.size w wr)
      (fun i _ => l - (intOf i).toNat)
  case atStart => exact ⟨0, f, Nat.zero_le _, rfl, h0, k1', k2', B3⟩
  case round =>
    clear k1' k2' B3 h0
    obtain ⟨k, x, hk, rfl, hx, k1, k2, B2⟩ := hrel
    by_cases hlt : k < l
    · obtain ⟨b, off, rfl, hbb, hcell⟩ := HS.out.at1 (by omega)
      have c0 := (B2.cell (p := ⟨b, off + k, none⟩) hbb).trans (hcell k hlt)
      clear hcell
      have i0 : (0 : Int) ≤ (k : Int) := by omega
      have i1 : (k : Int) < (l : Int) := by omega
      obtain ⟨y, hy⟩ : ∃ y, jitD x (E k) = y := ⟨_, rfl⟩
      have hxy : runD d E (k + 1) = y := by rw [← hy, ← hx]; rfl
      have HJ := Lib.hid (fun W => delay_Jitter x y _ hy W)
      have s1 : IntKind.i64.wrap ((k : Int) + 1) = ((k + 1 : Nat) : Int) := by rw [IntWalk.i64_in _ (by omega)]; omega
      clear hy hx
      have k1_c := k1.cell
      simp at k1_c
      go_wp2_with fail
      refine (HJ.out _).mono ?_
      rintro e w4 ⟨rfl, hb⟩
      have k1 := k1.below hb k1.lt
      have k2 := k2.below hb k2.lt
      have B2 := B2.trans (hb.mono B2.size)
      clear hb c0
      have k1_f := k1.frozen
      have k1_c := k1.cell
      simp at k1_c
      go_wp2_with fail
      obtain ⟨w5, e5, k1', B4, hk4⟩ := three_set k1 rfl (.int .i64 y.a) (.int .i64 y.b) (.int .i64 y.c) w.heap.size (Nat.le_refl _)
      rw [e5]
      have k2' : Blk w5 (w.heap.size + 1) 25 #[.int .i64 0, .int .i64 0, .int .i64 0] := (hk4 _ (by omega)).trans k2
      clear e5 hk4 k1_f k1_c
      go_wp2_with fail
      go_roundw
      case rel => exact ⟨k + 1, y, by omega, rfl, hxy, k1', k2', B2.trans B4⟩
      case measure => simp only [intOf]; omega
    · have : k = l := by omega
      subst this
      have hr : x = r := hx.symm.trans h
      subst hr
      clear h hx
      have k1_c := k1.cell; have k1_f := k1.frozen; have k1_ca := fun o => (k1.alloc o).cell; have k1_fa := fun o => (k1.alloc o).frozen; have k1_cb := fun o o' => ((k1.alloc o).alloc o').cell; have k1_fb := fun o o' => ((k1.alloc o).alloc o').frozen; have k2_c := k2.cell; have k2_f := k2.frozen; have k2_ca := fun o => (k2.alloc o).cell; have k2_fa := fun o => (k2.alloc o).frozen; have k2_cb := fun o o' => ((k2.alloc o).alloc o').cell; have k2_fb := fun o o' => ((k2.alloc o).alloc o').frozen
      simp at k1_c k2_c
      go_wp2_with fail
      refine bodyPost_ret (v := .agg #[.int .i64 x.a, .int .i64 x.b, .int .i64 x.c]) ?_ rfl ⟨rfl, ?_⟩
      · simp [results, Try.results13, go_sem, k2_c]
      · refine B2.trans ?_
        (repeat (first | with_reducible assumption | with_reducible exact Below.refl _ _ | with_reducible refine Below.drew ?_ | with_reducible refine Below.setCell ?_ (by first | exact Nat.le_refl _ | exact Nat.le_add_right _ _ | assumption | omega | (simp; done) | (simp; omega)) _ | with_reducible refine Below.alloc ?_ (by first | exact Nat.le_refl _ | exact Nat.le_add_right _ _ | assumption | omega | (simp; done) | (simp; omega)) _ | refine Below.drew ?_ | refine Below.setCell ?_ (by first | exact Nat.le_refl _ | exact Nat.le_add_right _ _ | assumption | omega | (simp; done) | (simp; omega)) _ | refine Below.alloc ?_ (by first | exact Nat.le_refl _ | exact Nat.le_add_right _ _ | assumption | omega | (simp; done) | (simp; omega)) _))

end Go.Proofs.Ytlockgodmlloeaa
