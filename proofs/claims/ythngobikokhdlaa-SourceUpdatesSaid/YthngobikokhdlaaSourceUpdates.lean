/- The statement SourceUpdates, walked: it returns true. No condition but the frame's. -/
import Derived.Test.YthngobikokhdlaaSourceTwice
namespace Go.Proofs.Ythngobikokhdlaa
open Go.RowKit BigFrame
attribute [local go_sem ↓] Go.wp_at_zero Go.wp_at_succ

theorem srcs_eql (x0 y0 : Int) (x1 y1 : Int) (x2 y2 : Int) (x3 y3 : Int) (x4 y4 : Int) (x5 y5 : Int) (w : World) : (binOp .eql 31 (.agg #[.int .u16 x0, .int .i64 x1, .int .i64 x2, .int .i64 x3, .int .i64 x4, .int .i64 x5]) (.agg #[.int .u16 y0, .int .i64 y1, .int .i64 y2, .int .i64 y3, .int .i64 y4, .int .i64 y5])).run Try.prog w = .ok (.bool ((x0 == y0) && (x1 == y1) && (x2 == y2) && (x3 == y3) && (x4 == y4) && (x5 == y5))) w := by
  have hS : Try.prog.underlying 31 = some (.struct (Try.prog.fieldsOf 31)) := by kernel_rfl
  have hp : Try.prog.stoodInHeld 31 = false := by kernel_rfl
  have u3 := Try.underlying3
  have a3 := Try.isAgg3
  have z3 := Try.sizeOf3
  have u27 := Try.underlying27
  have a27 := Try.isAgg27
  have z27 := Try.sizeOf27
  rw [run_eql_struct, show (10000 : Nat) = 9999 + 1 from rfl, run_equalIn_agg w 9999 31 _ _ hS hp]
  simp only [Program.fieldsOf, Try.underlying31]
  go_simp
  by_cases h0 : x0 = y0
  rotate_left
  · simp [h0]
  subst h0
  by_cases h1 : x1 = y1
  rotate_left
  · simp [h1]
  subst h1
  by_cases h2 : x2 = y2
  rotate_left
  · simp [h2]
  subst h2
  by_cases h3 : x3 = y3
  rotate_left
  · simp [h3]
  subst h3
  by_cases h4 : x4 = y4
  rotate_left
  · simp [h4]
  subst h4
  by_cases h5 : x5 = y5
  rotate_left
  · simp [h5]
  subst h5
  simp []
theorem srcs_neq (x0 y0 : Int) (x1 y1 : Int) (x2 y2 : Int) (x3 y3 : Int) (x4 y4 : Int) (x5 y5 : Int) (w : World) : (binOp .neq 31 (.agg #[.int .u16 x0, .int .i64 x1, .int .i64 x2, .int .i64 x3, .int .i64 x4, .int .i64 x5]) (.agg #[.int .u16 y0, .int .i64 y1, .int .i64 y2, .int .i64 y3, .int .i64 y4, .int .i64 y5])).run Try.prog w = .ok (.bool (!((x0 == y0) && (x1 == y1) && (x2 == y2) && (x3 == y3) && (x4 == y4) && (x5 == y5)))) w := by
  have hS : Try.prog.underlying 31 = some (.struct (Try.prog.fieldsOf 31)) := by kernel_rfl
  have hp : Try.prog.stoodInHeld 31 = false := by kernel_rfl
  have u3 := Try.underlying3
  have a3 := Try.isAgg3
  have z3 := Try.sizeOf3
  have u27 := Try.underlying27
  have a27 := Try.isAgg27
  have z27 := Try.sizeOf27
  rw [run_neq_struct, show (10000 : Nat) = 9999 + 1 from rfl, run_equalIn_agg w 9999 31 _ _ hS hp]
  simp only [Program.fieldsOf, Try.underlying31]
  go_simp
  by_cases h0 : x0 = y0
  rotate_left
  · simp [h0]
  subst h0
  by_cases h1 : x1 = y1
  rotate_left
  · simp [h1]
  subst h1
  by_cases h2 : x2 = y2
  rotate_left
  · simp [h2]
  subst h2
  by_cases h3 : x3 = y3
  rotate_left
  · simp [h3]
  subst h3
  by_cases h4 : x4 = y4
  rotate_left
  · simp [h4]
  subst h4
  by_cases h5 : x5 = y5
  rotate_left
  · simp [h5]
  subst h5
  simp []
theorem srcs_guard (op : BinOp) (x y : Operand) (xs ys : Array Value) (w : World) : (eqGuard op 31 x y (.agg xs) (.agg ys)).run Try.prog w = .ok () w := run_eqGuard_agg w op 31 x y xs ys (by kernel_rfl)

theorem refs_eql (x0 y0 : Int) (x1 y1 : Int) (x2 y2 : Int) (x3 y3 : Int) (x4 y4 : Int) (x5 y5 : Int) (w : World) : (binOp .eql 43 (.agg #[.int .i64 x0, .int .i64 x1, .int .i64 x2, .int .i64 x3, .int .i64 x4, .int .i64 x5]) (.agg #[.int .i64 y0, .int .i64 y1, .int .i64 y2, .int .i64 y3, .int .i64 y4, .int .i64 y5])).run Try.prog w = .ok (.bool ((x0 == y0) && (x1 == y1) && (x2 == y2) && (x3 == y3) && (x4 == y4) && (x5 == y5))) w := by
  have hS : Try.prog.underlying 43 = some (.struct (Try.prog.fieldsOf 43)) := by kernel_rfl
  have hp : Try.prog.stoodInHeld 43 = false := by kernel_rfl
  have u3 := Try.underlying3
  have a3 := Try.isAgg3
  have z3 := Try.sizeOf3
  rw [run_eql_struct, show (10000 : Nat) = 9999 + 1 from rfl, run_equalIn_agg w 9999 43 _ _ hS hp]
  simp only [Program.fieldsOf, Try.underlying43]
  go_simp
  by_cases h0 : x0 = y0
  rotate_left
  · simp [h0]
  subst h0
  by_cases h1 : x1 = y1
  rotate_left
  · simp [h1]
  subst h1
  by_cases h2 : x2 = y2
  rotate_left
  · simp [h2]
  subst h2
  by_cases h3 : x3 = y3
  rotate_left
  · simp [h3]
  subst h3
  by_cases h4 : x4 = y4
  rotate_left
  · simp [h4]
  subst h4
  by_cases h5 : x5 = y5
  rotate_left
  · simp [h5]
  subst h5
  simp []
theorem refs_neq (x0 y0 : Int) (x1 y1 : Int) (x2 y2 : Int) (x3 y3 : Int) (x4 y4 : Int) (x5 y5 : Int) (w : World) : (binOp .neq 43 (.agg #[.int .i64 x0, .int .i64 x1, .int .i64 x2, .int .i64 x3, .int .i64 x4, .int .i64 x5]) (.agg #[.int .i64 y0, .int .i64 y1, .int .i64 y2, .int .i64 y3, .int .i64 y4, .int .i64 y5])).run Try.prog w = .ok (.bool (!((x0 == y0) && (x1 == y1) && (x2 == y2) && (x3 == y3) && (x4 == y4) && (x5 == y5)))) w := by
  have hS : Try.prog.underlying 43 = some (.struct (Try.prog.fieldsOf 43)) := by kernel_rfl
  have hp : Try.prog.stoodInHeld 43 = false := by kernel_rfl
  have u3 := Try.underlying3
  have a3 := Try.isAgg3
  have z3 := Try.sizeOf3
  rw [run_neq_struct, show (10000 : Nat) = 9999 + 1 from rfl, run_equalIn_agg w 9999 43 _ _ hS hp]
  simp only [Program.fieldsOf, Try.underlying43]
  go_simp
  by_cases h0 : x0 = y0
  rotate_left
  · simp [h0]
  subst h0
  by_cases h1 : x1 = y1
  rotate_left
  · simp [h1]
  subst h1
  by_cases h2 : x2 = y2
  rotate_left
  · simp [h2]
  subst h2
  by_cases h3 : x3 = y3
  rotate_left
  · simp [h3]
  subst h3
  by_cases h4 : x4 = y4
  rotate_left
  · simp [h4]
  subst h4
  by_cases h5 : x5 = y5
  rotate_left
  · simp [h5]
  subst h5
  simp []
theorem refs_guard (op : BinOp) (x y : Operand) (xs ys : Array Value) (w : World) : (eqGuard op 43 x y (.agg xs) (.agg ys)).run Try.prog w = .ok () w := run_eqGuard_agg w op 43 x y xs ys (by kernel_rfl)

theorem srcs_eql1 (x0 x1 x2 x3 x4 x5 : Int) (w : World) : (binOp .eql 31 (.agg #[.int .u16 x0, .int .i64 x1, .int .i64 x2, .int .i64 x3, .int .i64 x4, .int .i64 x5]) (.agg #[.int .u16 x0, .int .i64 x1, .int .i64 x2, .int .i64 x3, .int .i64 x4, .int .i64 x5])).run Try.prog w = .ok (.bool true) w := by
  rw [srcs_eql]; simp
theorem refs_neq1 (x0 x1 x2 x3 x4 x5 : Int) (w : World) : (binOp .neq 43 (.agg #[.int .i64 x0, .int .i64 x1, .int .i64 x2, .int .i64 x3, .int .i64 x4, .int .i64 x5]) (.agg #[.int .i64 x0, .int .i64 x1, .int .i64 x2, .int .i64 x3, .int .i64 x4, .int .i64 x5])).run Try.prog w = .ok (.bool false) w := by
  rw [refs_neq]; simp
attribute [local go_sem] srcs_eql1 refs_neq1 srcs_guard refs_guard

/-- Both sources, and what was there. -/
def BothS (w wr : World) (g : Nat) (q q' : S6) : Prop := Blk wr g 31 #[.int .u16 q.mx, .int .i64 q.cy, .int .i64 q.ba, .int .i64 q.bd, .int .i64 q.pr, .int .i64 q.rc] ∧ Blk wr (g + 1) 43 #[.int .i64 q'.mx, .int .i64 q'.cy, .int .i64 q'.ba, .int .i64 q'.bd, .int .i64 q'.pr, .int .i64 q'.rc] ∧ w.heap.size ≤ g ∧ Below w.heap.size w wr
theorem BothS.below {w wr wy : World} {g : Nat} {q q' : S6} (h : BothS w wr g q q') (hb : Below wr.heap.size wr wy) : BothS w wy g q q' :=
  ⟨h.1.below hb h.1.lt, h.2.1.below hb h.2.1.lt, h.2.2.1, below_then h.2.2.2 hb (Nat.le_refl _)⟩
theorem BothS.set {w wr : World} {g : Nat} {q q' : S6} (h : BothS w wr g q q') (y y' : S6) :
    ∃ w2, ((((((((((((wr.setCell ⟨g, 0, none⟩ (.int .u16 y.mx)).setCell ⟨g, 1, none⟩ (.int .i64 y.cy)).setCell ⟨g, 2, none⟩ (.int .i64 y.ba)).setCell ⟨g, 3, none⟩ (.int .i64 y.bd)).setCell ⟨g, 4, none⟩ (.int .i64 y.pr)).setCell ⟨g, 5, none⟩ (.int .i64 y.rc)).setCell ⟨g + 1, 0, none⟩ (.int .i64 y'.mx)).setCell ⟨g + 1, 1, none⟩ (.int .i64 y'.cy)).setCell ⟨g + 1, 2, none⟩ (.int .i64 y'.ba)).setCell ⟨g + 1, 3, none⟩ (.int .i64 y'.bd)).setCell ⟨g + 1, 4, none⟩ (.int .i64 y'.pr)).setCell ⟨g + 1, 5, none⟩ (.int .i64 y'.rc)) = w2 ∧ BothS w w2 g y y' := by
  obtain ⟨k5, k6, hg, B⟩ := h
  obtain ⟨w2, e2, k5', B2, hk⟩ := six_set k5 (.int .u16 y.mx) (.int .i64 y.cy) (.int .i64 y.ba) (.int .i64 y.bd) (.int .i64 y.pr) (.int .i64 y.rc) w.heap.size hg
  rw [e2]
  have k6' : Blk w2 (g + 1) 43 #[.int .i64 q'.mx, .int .i64 q'.cy, .int .i64 q'.ba, .int .i64 q'.bd, .int .i64 q'.pr, .int .i64 q'.rc] := (hk _ (by omega)).trans k6
  obtain ⟨w3, e3, k6'', B3, hk3⟩ := six_set k6' (.int .i64 y'.mx) (.int .i64 y'.cy) (.int .i64 y'.ba) (.int .i64 y'.bd) (.int .i64 y'.pr) (.int .i64 y'.rc) w.heap.size (by omega)
  exact ⟨w3, e3, (hk3 _ (by omega)).trans k5', k6'', hg, (B.trans B2).trans B3⟩

set_option maxRecDepth 8000 in
set_option maxHeartbeats 12000000 in
theorem SourceUpdates_walk (a0 : Int) (a1a : Option Addr) (a1l a1c : Nat) (a1e0 : Nat → Int) (w : World) (a0w : (Lit.int .u16 a0).wf = true) (a1S : SliceOf w a1a a1l a1c 1 (fun i => [.int .u16 (a1e0 i)])) (a1F0 : ∀ i, i < a1l → (Lit.int .u16 (a1e0 i)).wf = true) :
    Calls Try.prog 7 #[.int .u16 a0, .slice a1a a1l a1c] w fun e w' => e = .returned (.bool true) ∧ Below w.heap.size w w' := by
  obtain ⟨f0, f1⟩ := wf_u16 a0w
  have hl := a1S.size_le
  obtain ⟨m, hm⟩ : ∃ m : Nat, min (a1l : Int) 120 = (m : Int) := ⟨min a1l 120, by omega⟩
  have hml : m ≤ a1l := by omega
  have hmc : m ≤ a1c := Nat.le_trans hml a1S.1
  have hm120 : m ≤ 120 := by omega
  have hm2 := hm
  rw [← mn_eq2] at hm2
  have hF : ∀ i, i < m → 0 ≤ a1e0 i ∧ a1e0 i ≤ 65535 := fun i hi => wf_u16 (a1F0 i (by omega))
  have HF := Lib.hid hF
  have HIN := Lib.hid (fun k hk => runS_in (newS a0) a1e0 0 (by omega) (newS_in a0 f0 f1) k hk)
  obtain ⟨n0, hn0⟩ : ∃ n0, newS a0 = n0 := ⟨_, rfl⟩
  have HN := Lib.hid (fun W => source_New a0 f0 f1 n0 hn0 W)
  have HX := Lib.hid (fun W => ref13_New a0 f0 f1 n0 hn0 W)
  have HS := Lib.hid (a1S.cut hml)
  have HN0 := Lib.hid hn0
  rw [hn0] at HIN
  clear a1S a1F0 hF a0w hn0
  go_enter Try.func7, Try.ntmps7
  go_wp2_with fail
  refine (law13_awake _).mono ?_
  rintro e w1 ⟨rfl, hb1⟩
  go_wp2_with fail
  refine (HN.out _).mono ?_
  rintro e w2 ⟨rfl, hb2⟩
  go_wp2_with fail
  refine (HX.out _).mono ?_
  rintro e w3 ⟨rfl, hb3⟩
  have B2 := below_then hb1 hb2 (Nat.le_refl _)
  have B3 := below_then B2 hb3 (Nat.le_refl _)
  have BB : BothS w ((w3.alloc (.cells #[.int .u16 n0.mx, .int .i64 n0.cy, .int .i64 n0.ba, .int .i64 n0.bd, .int .i64 n0.pr, .int .i64 n0.rc] 31)).alloc (.cells #[.int .i64 n0.mx, .int .i64 n0.cy, .int .i64 n0.ba, .int .i64 n0.bd, .int .i64 n0.pr, .int .i64 n0.rc] 43)) w3.heap.size n0 n0 :=
    ⟨(Blk.new w3 31 #[.int .u16 n0.mx, .int .i64 n0.cy, .int .i64 n0.ba, .int .i64 n0.bd, .int .i64 n0.pr, .int .i64 n0.rc]).alloc _, Blk.new1 w3 _ 43 #[.int .i64 n0.mx, .int .i64 n0.cy, .int .i64 n0.ba, .int .i64 n0.bd, .int .i64 n0.pr, .int .i64 n0.rc], B3.size, (B3.alloc B3.size _).alloc (Nat.le_trans B3.size (by simp)) _⟩
  clear hb1 hb2 hb3 B2 B3
  go_wp2_with fail
  generalize (w3.alloc (.cells #[.int .u16 n0.mx, .int .i64 n0.cy, .int .i64 n0.ba, .int .i64 n0.bd, .int .i64 n0.pr, .int .i64 n0.rc] 31)).alloc (.cells #[.int .i64 n0.mx, .int .i64 n0.cy, .int .i64 n0.ba, .int .i64 n0.bd, .int .i64 n0.pr, .int .i64 n0.rc] 43) = wa at *
  generalize w3.heap.size = g at *
  go_loopw [7, 30] (fun x i wr => ∃ (k : Nat) (q : S6) (d : Int), k ≤ m ∧ i = .int .i64 k ∧ x = .int .i64 d ∧ Hid (runS n0 a1e0 k = (q, d)) ∧ BothS w wr g q q) (fun _ i _ => m - (intOf i).toNat)
  case atStart => exact ⟨0, n0, 0, by omega, rfl, rfl, Lib.hid rfl, BB⟩
  case round =>
    clear BB
    obtain ⟨k, q, d, hk, rfl, rfl, HQ, BB⟩ := hrel
    by_cases hlt : k < m
    · obtain ⟨b, off, rfl, hbb, hcell⟩ := HS.out.at1 (by omega)
      obtain ⟨n, hn⟩ : ∃ n, a1e0 k = n := ⟨_, rfl⟩
      have d0 := (BB.2.2.2.cell (p := ⟨b, off + k, none⟩) hbb).trans (hcell k hlt)
      have hnk := HF.out k hlt
      rw [hn] at d0 hnk
      obtain ⟨y, hy⟩ : ∃ y, updS q n = y := ⟨_, rfl⟩
      obtain ⟨y, ok⟩ := y
      obtain ⟨hin, hd0, hd1⟩ := HIN.out k (fun i hi => HF.out i (by omega))
      have hq := HQ.out
      rw [hq] at hin hd0 hd1
      simp only at hin hd0 hd1
      have hin2 := updS_in (0 + (k : Int)) q y ok n (by omega) hin hnk.1 hnk.2 hy
      have hnext : runS n0 a1e0 (k + 1) = (y, if ok then d + 1 else d) := by
        show ((updS (runS n0 a1e0 k).1 (a1e0 k)).1, if (updS (runS n0 a1e0 k).1 (a1e0 k)).2 then (runS n0 a1e0 k).2 + 1 else (runS n0 a1e0 k).2) = _
        rw [hq, hn, hy]
      have HNX := Lib.hid hnext
      have HU := Lib.hid (fun W => source_Update q y n (0 + k) ok hin (by omega) hnk.1 hnk.2 hy W)
      have HV := Lib.hid (fun W => ref13_Update q y n (0 + k) ok hin (by omega) hnk.1 hnk.2 hy W)
      have HT := Lib.hid (fun W => law13_Told y (by unfold InS at hin2; omega) (by unfold InS at hin2; omega) W)
      obtain ⟨hv, hhv⟩ : ∃ hv, highS y = hv := ⟨_, rfl⟩
      have HH := Lib.hid (fun W => source_Highest y (0 + (k : Int) + 1) hin2 (by omega) hv hhv W)
      have HI := Lib.hid (fun W => ref13_Highest y (0 + (k : Int) + 1) hin2 (by omega) hv hhv W)
      have HE := Lib.hid (fun W => source_Expected y (0 + (k : Int) + 1) hin2 (by omega) (expS y) rfl W)
      have HG := Lib.hid (fun W => ref13_Expected y (0 + (k : Int) + 1) hin2 (by omega) (expS y) rfl W)
      obtain ⟨ev, hev⟩ : ∃ ev, extI hv n = ev := ⟨_, rfl⟩
      have HXT := Lib.hid (fun W => source_Extend y n (0 + (k : Int) + 1) hin2 (by omega) ev (by rw [hhv, hev]) W)
      have HYT := Lib.hid (fun W => ref01_Extend hv n ev hnk.1 hnk.2 hev W)
      obtain ⟨nn0, nn1⟩ := hnk
      clear hy hin hin2 hq hnext hcell hn hhv hev
      have i0 : (0 : Int) ≤ (k : Int) := by omega
      have i1 : (k : Int) < (m : Int) := by omega
      have c5 := BB.1.cell
      simp at c5
      go_wp2_with fail
      refine (HU.out _).mono ?_
      rintro e w4 ⟨rfl, hb4⟩
      have BB := BB.below hb4
      have l4 := BB.2.1.lt
      have k10 := Blk.new w4 31 #[.int .u16 y.mx, .int .i64 y.cy, .int .i64 y.ba, .int .i64 y.bd, .int .i64 y.pr, .int .i64 y.rc]
      have BB := BB.below ((Below.refl w4.heap.size w4).alloc (Nat.le_refl _) (.cells #[.int .u16 y.mx, .int .i64 y.cy, .int .i64 y.ba, .int .i64 y.bd, .int .i64 y.pr, .int .i64 y.rc] 31))
      clear hb4 c5 d0
      go_upto_region 10 with fail
      generalize w4.alloc (.cells #[.int .u16 y.mx, .int .i64 y.cy, .int .i64 y.ba, .int .i64 y.bd, .int .i64 y.pr, .int .i64 y.rc] 31) = w5 at *
      have c6 := BB.2.1.cell
      simp at c6
      go_wp2_with fail
      refine (HV.out _).mono ?_
      rintro e w6 ⟨rfl, hb6⟩
      have BB := BB.below hb6
      have l6 := BB.2.1.lt
      have k10 := k10.below hb6 k10.lt
      have k12 := Blk.new w6 43 #[.int .i64 y.mx, .int .i64 y.cy, .int .i64 y.ba, .int .i64 y.bd, .int .i64 y.pr, .int .i64 y.rc]
      have BB := BB.below ((Below.refl w6.heap.size w6).alloc (Nat.le_refl _) (.cells #[.int .i64 y.mx, .int .i64 y.cy, .int .i64 y.ba, .int .i64 y.bd, .int .i64 y.pr, .int .i64 y.rc] 43))
      have k10 := k10.alloc (.cells #[.int .i64 y.mx, .int .i64 y.cy, .int .i64 y.ba, .int .i64 y.bd, .int .i64 y.pr, .int .i64 y.rc] 43)
      clear hb6 c6
      go_upto_region 11 with fail
      generalize w6.alloc (.cells #[.int .i64 y.mx, .int .i64 y.cy, .int .i64 y.ba, .int .i64 y.bd, .int .i64 y.pr, .int .i64 y.rc] 43) = w7 at *
      have c10 := k10.cell
      have c12 := k12.cell
      have c5 := BB.1.cell
      have f5 := BB.1.frozen
      have c6 := BB.2.1.cell
      have f6 := BB.2.1.frozen
      simp at c10 c12 c5 c6
      have x1 : ¬ (w4.heap.size = g) := by omega
      have x2 : ¬ (w4.heap.size = g + 1) := by omega
      have x3 : ¬ (w6.heap.size = g) := by omega
      have x4 : ¬ (w6.heap.size = g + 1) := by omega
      have x5 : ¬ (g = w4.heap.size) := by omega
      have x6 : ¬ (g + 1 = w4.heap.size) := by omega
      have x7 : ¬ (g = w6.heap.size) := by omega
      have x8 : ¬ (g + 1 = w6.heap.size) := by omega
      clear l4 l6
      go_cut [47] (fun _ wx => ∃ w8 : World, w8 = wx ∧ BothS w w8 g y y)
      case first =>
        obtain ⟨w8, e8, BB8⟩ := BB.set y y
        have E8 := Lib.hid e8
        clear e8
        go_region
        all_goals
          go_wp2_with fail
          go_meet
          first
          | (rw [E8.out]; exact ⟨_, rfl, BB8.1, BB8.2.1, BB8.2.2.1, BB8.2.2.2.drew⟩)
          | (rw [E8.out]; exact ⟨_, rfl, BB8⟩)
      clear c10 c12 c5 f5 c6 f6 k10 k12 BB x1 x2 x3 x4 x5 x6 x7 x8
      obtain ⟨w8, rfl, BB8⟩ := hcut
      have k5 := BB8.1
      have k6 := BB8.2.1
      have P0 := fun (g : Ext w8) => g.cell (k5.cell 0) k5.lt
      have P1 := fun (g : Ext w8) => g.cell (k5.cell 1) k5.lt
      have P2 := fun (g : Ext w8) => g.cell (k5.cell 2) k5.lt
      have P3 := fun (g : Ext w8) => g.cell (k5.cell 3) k5.lt
      have P4 := fun (g : Ext w8) => g.cell (k5.cell 4) k5.lt
      have P5 := fun (g : Ext w8) => g.cell (k5.cell 5) k5.lt
      simp at P0 P1 P2 P3 P4 P5
      have Q0 := fun (g : Ext w8) => g.cell (k6.cell 0) k6.lt
      have Q1 := fun (g : Ext w8) => g.cell (k6.cell 1) k6.lt
      have Q2 := fun (g : Ext w8) => g.cell (k6.cell 2) k6.lt
      have Q3 := fun (g : Ext w8) => g.cell (k6.cell 3) k6.lt
      have Q4 := fun (g : Ext w8) => g.cell (k6.cell 4) k6.lt
      have Q5 := fun (g : Ext w8) => g.cell (k6.cell 5) k6.lt
      simp at Q0 Q1 Q2 Q3 Q4 Q5
      go_upto_region 12 with fail
      refine wp_region_ext (by kernel_rfl) (by kernel_rfl) ?_; (repeat (go_big_quiet_step ((first | (go_at_call 19; with_reducible exact calls_ext _ (HT.out _)) | (go_at_call 21; with_reducible exact calls_ext _ (HH.out _)) | (go_at_call 25; with_reducible exact calls_ext _ (HI.out _)) | (go_at_call 22; with_reducible exact calls_ext _ (HE.out _)) | (go_at_call 18; with_reducible exact calls_ext _ (HG.out _)) | (go_at_call 26; with_reducible exact calls_ext _ (HXT.out _)) | (go_at_call 27; with_reducible exact calls_ext_same _ (HYT.out _)))))); refine wpQuiet_nil ?_; rintro _ ⟨gq, rfl⟩
      clear P0 P1 P2 P3 P4 P5 Q0 Q1 Q2 Q3 Q4 Q5 k5 k6
      have BB9 := BB8.below gq.below
      cases ok
      · go_wp2_with fail
        go_roundw
        case rel => exact ⟨k + 1, y, d, by omega, by go_num, rfl, Lib.hid (by rw [HNX.out]; rfl), BB9⟩
        case measure => simp only [intOf]; omega
      · go_wp2_with fail
        go_roundw
        case rel => exact ⟨k + 1, y, d + 1, by omega, by go_num, rfl, Lib.hid (by rw [HNX.out]; rfl), BB9⟩
        case measure => simp only [intOf]; omega
    · obtain rfl : k = m := by omega
      have HR := Lib.hid (fun W hS => source_Run n0 q a1a k a1c a1e0 0 d (by omega) (by omega) (by rw [← HN0.out]; exact newS_in a0 f0 f1) HF.out HQ.out W hS)
      have B := BB.2.2.2
      go_wp2_with fail
      refine (HN.out _).mono ?_
      rintro e w4 ⟨rfl, hb4⟩
      have BB := BB.below hb4
      go_wp2_with fail
      refine (HR.out _ (HS.out.below BB.2.2.2)).mono ?_
      rintro e w5 ⟨rfl, hb5⟩
      have BB := BB.below hb5
      have k14 := Blk.new w5 31 #[.int .u16 q.mx, .int .i64 q.cy, .int .i64 q.ba, .int .i64 q.bd, .int .i64 q.pr, .int .i64 q.rc]
      have BB := BB.below ((Below.refl w5.heap.size w5).alloc (Nat.le_refl _) (.cells #[.int .u16 q.mx, .int .i64 q.cy, .int .i64 q.ba, .int .i64 q.bd, .int .i64 q.pr, .int .i64 q.rc] 31))
      go_upto_region 18 with fail
      generalize w5.alloc (.cells #[.int .u16 q.mx, .int .i64 q.cy, .int .i64 q.ba, .int .i64 q.bd, .int .i64 q.pr, .int .i64 q.rc] 31) = w6 at *
      have c5 := BB.1.cell
      have c14 := k14.cell
      simp at c5 c14
      go_wp2_with fail
      go_ret
      exact ⟨rfl, BB.2.2.2⟩
end Go.Proofs.Ythngobikokhdlaa
