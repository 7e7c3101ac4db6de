/- The statement LifePlays, walked: it returns true. No condition but that the two tables stand. -/
import Derived.Test.YthngobikokhdlaaDoorLife9
namespace Go.Proofs.YthngobikokhdlaaDoor
open Go.RowKit BigFrame
attribute [local go_sem ↓] Go.wp_at_zero Go.wp_at_succ

theorem refl_eql (x0 y0 : Int) (x1 y1 : Int) (x2 y2 : Int) (w : World) : (binOp .eql 40 (.agg #[.int .i64 x0, .int .i64 x1, .int .i64 x2]) (.agg #[.int .i64 y0, .int .i64 y1, .int .i64 y2])).run Tryd.prog w = .ok (.bool ((x0 == y0) && (x1 == y1) && (x2 == y2))) w := by
  have hS : Tryd.prog.underlying 40 = some (.struct (Tryd.prog.fieldsOf 40)) := by kernel_rfl
  have hp : Tryd.prog.stoodInHeld 40 = false := by kernel_rfl
  have u3 := Tryd.underlying3
  have a3 := Tryd.isAgg3
  have z3 := Tryd.sizeOf3
  rw [run_eql_struct, show (10000 : Nat) = 9999 + 1 from rfl, run_equalIn_agg w 9999 40 _ _ hS hp]
  simp only [Program.fieldsOf, Tryd.underlying40]
  go_simp
  by_cases h0 : x0 = y0
  rotate_left
  · simp [h0]
  subst h0
  by_cases h1 : x1 = y1
  rotate_left
  · simp [h1]
  subst h1
  by_cases h2 : x2 = y2
  rotate_left
  · simp [h2]
  subst h2
  simp []
theorem refl_neq (x0 y0 : Int) (x1 y1 : Int) (x2 y2 : Int) (w : World) : (binOp .neq 40 (.agg #[.int .i64 x0, .int .i64 x1, .int .i64 x2]) (.agg #[.int .i64 y0, .int .i64 y1, .int .i64 y2])).run Tryd.prog w = .ok (.bool (!((x0 == y0) && (x1 == y1) && (x2 == y2)))) w := by
  have hS : Tryd.prog.underlying 40 = some (.struct (Tryd.prog.fieldsOf 40)) := by kernel_rfl
  have hp : Tryd.prog.stoodInHeld 40 = false := by kernel_rfl
  have u3 := Tryd.underlying3
  have a3 := Tryd.isAgg3
  have z3 := Tryd.sizeOf3
  rw [run_neq_struct, show (10000 : Nat) = 9999 + 1 from rfl, run_equalIn_agg w 9999 40 _ _ hS hp]
  simp only [Program.fieldsOf, Tryd.underlying40]
  go_simp
  by_cases h0 : x0 = y0
  rotate_left
  · simp [h0]
  subst h0
  by_cases h1 : x1 = y1
  rotate_left
  · simp [h1]
  subst h1
  by_cases h2 : x2 = y2
  rotate_left
  · simp [h2]
  subst h2
  simp []
theorem refl_guard (op : BinOp) (x y : Operand) (xs ys : Array Value) (w : World) : (eqGuard op 40 x y (.agg xs) (.agg ys)).run Tryd.prog w = .ok () w := run_eqGuard_agg w op 40 x y xs ys (by kernel_rfl)

theorem refc_eql (x0 y0 : Int) (x1 y1 : Int) (x2 y2 : Int) (x3 y3 : Int) (w : World) : (binOp .eql 23 (.agg #[.int .i64 x0, .int .i64 x1, .int .i64 x2, .int .i64 x3]) (.agg #[.int .i64 y0, .int .i64 y1, .int .i64 y2, .int .i64 y3])).run Tryd.prog w = .ok (.bool ((x0 == y0) && (x1 == y1) && (x2 == y2) && (x3 == y3))) w := by
  have hS : Tryd.prog.underlying 23 = some (.struct (Tryd.prog.fieldsOf 23)) := by kernel_rfl
  have hp : Tryd.prog.stoodInHeld 23 = false := by kernel_rfl
  have u3 := Tryd.underlying3
  have a3 := Tryd.isAgg3
  have z3 := Tryd.sizeOf3
  rw [run_eql_struct, show (10000 : Nat) = 9999 + 1 from rfl, run_equalIn_agg w 9999 23 _ _ hS hp]
  simp only [Program.fieldsOf, Tryd.underlying23]
  go_simp
  by_cases h0 : x0 = y0
  rotate_left
  · simp [h0]
  subst h0
  by_cases h1 : x1 = y1
  rotate_left
  · simp [h1]
  subst h1
  by_cases h2 : x2 = y2
  rotate_left
  · simp [h2]
  subst h2
  by_cases h3 : x3 = y3
  rotate_left
  · simp [h3]
  subst h3
  simp []
theorem refc_neq (x0 y0 : Int) (x1 y1 : Int) (x2 y2 : Int) (x3 y3 : Int) (w : World) : (binOp .neq 23 (.agg #[.int .i64 x0, .int .i64 x1, .int .i64 x2, .int .i64 x3]) (.agg #[.int .i64 y0, .int .i64 y1, .int .i64 y2, .int .i64 y3])).run Tryd.prog w = .ok (.bool (!((x0 == y0) && (x1 == y1) && (x2 == y2) && (x3 == y3)))) w := by
  have hS : Tryd.prog.underlying 23 = some (.struct (Tryd.prog.fieldsOf 23)) := by kernel_rfl
  have hp : Tryd.prog.stoodInHeld 23 = false := by kernel_rfl
  have u3 := Tryd.underlying3
  have a3 := Tryd.isAgg3
  have z3 := Tryd.sizeOf3
  rw [run_neq_struct, show (10000 : Nat) = 9999 + 1 from rfl, run_equalIn_agg w 9999 23 _ _ hS hp]
  simp only [Program.fieldsOf, Tryd.underlying23]
  go_simp
  by_cases h0 : x0 = y0
  rotate_left
  · simp [h0]
  subst h0
  by_cases h1 : x1 = y1
  rotate_left
  · simp [h1]
  subst h1
  by_cases h2 : x2 = y2
  rotate_left
  · simp [h2]
  subst h2
  by_cases h3 : x3 = y3
  rotate_left
  · simp [h3]
  subst h3
  simp []
theorem refc_guard (op : BinOp) (x y : Operand) (xs ys : Array Value) (w : World) : (eqGuard op 23 x y (.agg xs) (.agg ys)).run Tryd.prog w = .ok () w := run_eqGuard_agg w op 23 x y xs ys (by kernel_rfl)

theorem refl_neq1 (x0 x1 x2 : Int) (w : World) : (binOp .neq 40 (.agg #[.int .i64 x0, .int .i64 x1, .int .i64 x2]) (.agg #[.int .i64 x0, .int .i64 x1, .int .i64 x2])).run Tryd.prog w = .ok (.bool false) w := by
  rw [refl_neq]; simp
theorem refc_eql1 (x0 x1 x2 x3 : Int) (w : World) : (binOp .eql 23 (.agg #[.int .i64 x0, .int .i64 x1, .int .i64 x2, .int .i64 x3]) (.agg #[.int .i64 x0, .int .i64 x1, .int .i64 x2, .int .i64 x3])).run Tryd.prog w = .ok (.bool true) w := by
  rw [refc_eql]; simp
attribute [local go_sem] refl_neq1 refl_guard refc_eql1 refc_guard i64_and65535

theorem SliceOf.at3 {w : World} {a : Option Addr} {len cap : Nat} {X Y Z : Nat → Value} (h : SliceOf w a len cap 3 (fun i => [X i, Y i, Z i])) (hp : 0 < len) :
    ∃ b off, a = some ⟨b, off, none⟩ ∧ b < w.heap.size ∧ ∀ i, i < len → w.cell? ⟨b, off + i * 3, none⟩ = some (X i) ∧ w.cell? ⟨b, off + i * 3 + 1, none⟩ = some (Y i) ∧ w.cell? ⟨b, off + i * 3 + 2, none⟩ = some (Z i) := by
  obtain ⟨b, off, e, hb, hc⟩ := h.2.2 hp
  exact ⟨b, off, e, hb, fun i hi => ⟨hc i hi 0 _ rfl, hc i hi 1 _ rfl, hc i hi 2 _ rfl⟩⟩

theorem repL_known (x : L3) (k : C4) (f n : Int) (hx : KnownL x) (hk : CountC k) (h0 : 0 ≤ n) (h1 : n ≤ 1099511627776) : KnownL (repL x k f n) := by
  unfold KnownL CountC at *
  unfold repL
  split
  · refine ⟨?_, h0, h1, by simp⟩
    simp only
    split <;> simp
  · split
    · split
      · exact ⟨by simp, h0, h1, by simp⟩
      · split
        · exact ⟨by simp, h0, h1, by simp⟩
        · refine ⟨?_, h0, h1, by simp only; omega⟩
          simp only
          split
          · simp
          · exact hx.1
    · exact ⟨hx.1, h0, h1, hx.2.2.2⟩
theorem reportL_known (l : L3) (c : C4) (f n : Int) : KnownL (reportL l c f n) := repL_known _ _ _ _ (knownL_known l) (clipC_count c) (tickI_bd n).1 (tickI_bd n).2
theorem tickL_known (l : L3) (c : C4) (n : Int) : KnownL (tickL l c n) := by
  have h := knownL_known l
  unfold tickL
  split
  · exact ⟨by simp, h.2.1, h.2.2.1, by simp⟩
  · exact h

/-- The two, wherever they lie. -/
def BothL (w wx : World) (g7 g8 : Nat) (c : C4) (l x : L3) : Prop :=
  Blk wx g7 28 #[.int .i64 x.s, .int .i64 x.h, .int .i64 x.k] ∧ Blk wx g8 40 #[.int .i64 x.s, .int .i64 x.h, .int .i64 x.k] ∧
  Blk wx w.heap.size 23 #[.int .i64 c.t, .int .i64 c.lo, .int .i64 c.hi, .int .i64 c.st] ∧ Blk wx (w.heap.size + 1) 40 #[.int .i64 l.s, .int .i64 l.h, .int .i64 l.k] ∧
  w.heap.size + 1 < g7 ∧ w.heap.size + 1 < g8 ∧ g7 ≠ g8 ∧ Below w.heap.size w wx
theorem BothL.below {w wx wy : World} {g7 g8 : Nat} {c : C4} {l x : L3} (h : BothL w wx g7 g8 c l x) (hb : Below wx.heap.size wx wy) : BothL w wy g7 g8 c l x :=
  ⟨h.1.below hb h.1.lt, h.2.1.below hb h.2.1.lt, h.2.2.1.below hb h.2.2.1.lt, h.2.2.2.1.below hb h.2.2.2.1.lt, h.2.2.2.2.1, h.2.2.2.2.2.1, h.2.2.2.2.2.2.1, h.2.2.2.2.2.2.2.trans (hb.mono h.2.2.2.2.2.2.2.size)⟩

set_option maxRecDepth 8000 in
set_option maxHeartbeats 12000000 in
theorem LifePlays_walk (a0x0 : Int) (a0x1 : Int) (a0x2 : Int) (a0x3 : Int) (a1x0 : Int) (a1x1 : Int) (a1x2 : Int) (a2a : Option Addr) (a2l a2c : Nat) (a2e0 : Nat → Bool) (a2e1 : Nat → Int) (a2e2 : Nat → Int) (w : World) (hT : Tabs w) (_w0 : (Lit.int .i64 a0x0).wf = true) (_w1 : (Lit.int .i64 a0x1).wf = true) (_w2 : (Lit.int .i64 a0x2).wf = true) (_w3 : (Lit.int .i64 a0x3).wf = true) (_w4 : (Lit.int .i64 a1x0).wf = true) (_w5 : (Lit.int .i64 a1x1).wf = true) (_w6 : (Lit.int .i64 a1x2).wf = true) (a2S : SliceOf w a2a a2l a2c 3 (fun i => [.bool (a2e0 i), .int .i64 (a2e1 i), .int .i64 (a2e2 i)])) (_a2F0 : ∀ i, i < a2l → (Lit.int .i64 (a2e1 i)).wf = true) (_a2F1 : ∀ i, i < a2l → (Lit.int .i64 (a2e2 i)).wf = true) :
    Calls Tryd.prog 5 #[.agg #[.int .i64 a0x0, .int .i64 a0x1, .int .i64 a0x2, .int .i64 a0x3], .agg #[.int .i64 a1x0, .int .i64 a1x1, .int .i64 a1x2], .slice a2a a2l a2c] w fun e w' => e = .returned (.bool true) ∧ Below w.heap.size w w' := by
  clear _w0 _w1 _w2 _w3 _w4 _w5 _w6 _a2F0 _a2F1
  have hl2 := a2S.size_le
  have HS := Lib.hid a2S
  have HTB := Lib.hid hT
  have hsz := hT.1
  clear a2S
  obtain ⟨m0, hm0⟩ : ∃ m0, (if 549755813888 < a1x1 then 549755813888 else a1x1) = m0 := ⟨_, rfl⟩
  obtain ⟨n0, hm1⟩ : ∃ n0, (if 0 < m0 then m0 else 0) = n0 := ⟨_, rfl⟩
  have b1 : 0 ≤ n0 := by rw [← hm1]; split <;> omega
  have b2 : n0 ≤ 549755813888 := by rw [← hm1, ← hm0]; split <;> split <;> omega
  have hT1 := hT.below (((Below.refl w.heap.size w).alloc (Nat.le_refl _) (.cells #[.int .i64 a0x0, .int .i64 a0x1, .int .i64 a0x2, .int .i64 a0x3] 23)).alloc (by simp) (.cells #[.int .i64 a1x0, .int .i64 a1x1, .int .i64 a1x2] 40)) hsz
  clear hT
  go_enter Tryd.func5, Tryd.ntmps5
  go_wp2_with fail
  refine (law17_awake _ hT1).mono ?_
  rintro e w1 ⟨rfl, hb1⟩
  clear hT1
  have k3 := ((Blk.new w 23 #[.int .i64 a0x0, .int .i64 a0x1, .int .i64 a0x2, .int .i64 a0x3]).alloc (.cells #[.int .i64 a1x0, .int .i64 a1x1, .int .i64 a1x2] 40)).below hb1 (by simp; omega)
  have k4 := (Blk.new1 w (.cells #[.int .i64 a0x0, .int .i64 a0x1, .int .i64 a0x2, .int .i64 a0x3] 23) 40 #[.int .i64 a1x0, .int .i64 a1x1, .int .i64 a1x2]).below hb1 (by simp)
  have B1 : Below w.heap.size w w1 := (((Below.refl _ w).alloc (Nat.le_refl _) _).alloc (by simp) _).trans (hb1.mono (by simp; omega))
  have k4_c := k4.cell; have k4_f := k4.frozen; have k4_ca := fun o => (k4.alloc o).cell; have k4_fa := fun o => (k4.alloc o).frozen; have k4_cb := fun o o' => ((k4.alloc o).alloc o').cell; have k4_fb := fun o o' => ((k4.alloc o).alloc o').frozen
  clear hb1
  go_upto_region 3 with fail
  go_cut [7, 8] (fun s7 s8 wx => ∃ g7 g8 : Nat, s7 = .pointer (some ⟨g7, 0, none⟩) ∧ s8 = .pointer (some ⟨g8, 0, none⟩) ∧ BothL w wx g7 g8 ⟨a0x0, a0x1, a0x2, a0x3⟩ ⟨a1x0, a1x1, a1x2⟩ ⟨a1x0, a1x1, a1x2⟩)
  case first =>
    go_region
    · clear k4_c k4_f k4_ca k4_fa k4_cb k4_fb
      go_wp2_with fail
      go_meet
      exact ⟨w1.heap.size, w1.heap.size + 1, rfl, rfl, (Blk.new _ _ _).alloc _, Blk.new1 _ _ _ _, (k3.alloc _).alloc _, (k4.alloc _).alloc _, k4.lt, Nat.lt_succ_of_lt k4.lt, by omega, ((B1.alloc B1.size _).alloc (Nat.le_trans B1.size (by simp)) _).drew⟩
    · clear k4_c k4_f k4_ca k4_fa k4_cb k4_fb
      go_wp2_with fail
      go_meet
      exact ⟨w1.heap.size + 1, w1.heap.size, rfl, rfl, Blk.new1 _ _ _ _, (Blk.new _ _ _).alloc _, (k3.alloc _).alloc _, (k4.alloc _).alloc _, Nat.lt_succ_of_lt k4.lt, k4.lt, by omega, ((B1.alloc B1.size _).alloc (Nat.le_trans B1.size (by simp)) _).drew⟩
  case rest =>
    obtain ⟨g7, g8, rfl, rfl, BB⟩ := hcut
    clear k4_c k4_f k4_ca k4_fa k4_cb k4_fb
    clear k3 k4 B1
    have c4 := BB.2.2.2.1.cell
    simp at c4
    obtain ⟨c, hc⟩ : ∃ c : C4, (⟨a0x0, a0x1, a0x2, a0x3⟩ : C4) = c := ⟨_, rfl⟩
    obtain ⟨l, hl⟩ : ∃ l : L3, (⟨a1x0, a1x1, a1x2⟩ : L3) = l := ⟨_, rfl⟩
    rw [hc, hl] at BB
    go_wp2_with fail
    clear hm0 hm1 c4 hc hl
    go_loopw [9, 10] (fun s9 s10 wr => ∃ (k : Nat) (x : L3) (nw : Int), k ≤ a2l ∧ k ≤ 60 ∧ s10 = .int .i64 k ∧ s9 = .int .i64 nw ∧ 0 ≤ nw ∧ nw ≤ 549755813888 + k * 65536 ∧ BothL w wr g7 g8 c l x)
      (fun _ i _ => a2l - (intOf i).toNat)
    case atStart => exact ⟨0, _, n0, Nat.zero_le _, Nat.zero_le _, rfl, rfl, b1, by omega, BB⟩
    case round =>
      clear BB
      obtain ⟨k, x, nw, hk, hk6, rfl, rfl, n1, n2, BB⟩ := hrel
      by_cases hgo : k < a2l ∧ k < 60
      · obtain ⟨hlt, h60⟩ := hgo
        obtain ⟨b, off, rfl, hbb, hcell⟩ := HS.out.at3 (by omega)
        obtain ⟨hc0, hc1, hc2⟩ := hcell k hlt
        have B := BB.2.2.2.2.2.2.2
        have d0 := (B.cell (p := ⟨b, off + k * 3, none⟩) hbb).trans hc0
        have d1 := (B.cell (p := ⟨b, off + k * 3 + 1, none⟩) hbb).trans hc1
        have d2 := (B.cell (p := ⟨b, off + k * 3 + 2, none⟩) hbb).trans hc2
        clear hcell hc0 hc1 hc2
        have i0 : (0 : Int) ≤ (k : Int) := by omega
        have i1 : (k : Int) < (a2l : Int) := by omega
        have i2 : (k : Int) < 60 := by omega
        have s1 : IntKind.i64.wrap ((k : Int) + 1) = ((k + 1 : Nat) : Int) := by rw [IntWalk.i64_in _ (by omega)]; omega
        obtain ⟨m, hm⟩ : ∃ m, nw + a2e2 k % 65536 = m := ⟨_, rfl⟩
        have s2 : IntKind.i64.wrap (nw + a2e2 k % 65536) = m := by rw [IntWalk.i64_in _ (by omega)]; exact hm
        have m1 : 0 ≤ m := by omega
        have m2 : m ≤ 549755813888 + (k + 1 : Nat) * 65536 := by omega
        clear hm
        obtain ⟨rp, hrp⟩ : ∃ rp, a2e0 k = rp := ⟨_, rfl⟩
        rw [hrp] at d0
        clear hrp
        obtain ⟨f, hf⟩ : ∃ f, a2e1 k = f := ⟨_, rfl⟩
        rw [hf] at d1
        clear hf
        go_upto_region 9 with fail
        have k9 := Blk.new wr 31 #[.bool rp, .int .i64 f, .int .i64 (a2e2 k)]
        have hl7 := BB.1.lt
        have hl8 := BB.2.1.lt
        have hn7 : wr.heap.size ≠ g7 := by omega
        have hn8 : wr.heap.size ≠ g8 := by omega
        have BB := BB.below ((Below.refl _ wr).alloc (Nat.le_refl _) (.cells #[.bool rp, .int .i64 f, .int .i64 (a2e2 k)] 31))
        generalize hg9 : wr.heap.size = g9 at *
        generalize wr.alloc (.cells #[.bool rp, .int .i64 f, .int .i64 (a2e2 k)] 31) = wa at *
        clear d0 d1 d2 hg9 hl7 hl8 B
        obtain ⟨p7, p8, p3, p4, l7, l8, l78, B⟩ := BB
        have c9 := k9.cell
        have c7 := p7.cell
        have c3 := p3.cell
        simp at c9 c7 c3
        cases rp
        · obtain ⟨y, hy⟩ : ∃ y, tickL x c m = y := ⟨_, rfl⟩
          obtain ⟨bt, hbt⟩ : ∃ bt : Bool, bt = lateL (knownL x) (clipC c) (tickI m) := ⟨_, rfl⟩
          have hky : KnownL y := by rw [← hy]; exact tickL_known x c m
          have hT2 := HTB.out.below B hsz
          have HO := Lib.hid (life_Tick x y c m bt hy hbt wa)
          have HX := Lib.hid (fun W => ref17_Tick x y c m bt hy hbt W)
          have HY := Lib.hid hky
          clear hy hbt hky hT2
          go_wp2_with fail
          refine HO.out.mono ?_
          rintro e w3 ⟨rfl, hb⟩
          have p7 := p7.below hb p7.lt
          have p8 := p8.below hb p8.lt
          have p3 := p3.below hb p3.lt
          have p4 := p4.below hb p4.lt
          have k9 := k9.below hb k9.lt
          have B := B.trans (hb.mono B.size)
          clear hb c9 c7 c3
          obtain ⟨w4, e4, p7', B4, hk4⟩ := three_set p7 rfl (.int .i64 y.s) (.int .i64 y.h) (.int .i64 y.k) w.heap.size (by omega)
          have c7 := p7.cell
          have f7 := p7.frozen
          simp at c7
          have p8 := p8.kept hk4 (Ne.symm l78)
          have p3 := p3.kept hk4 (by omega)
          have p4 := p4.kept hk4 (by omega)
          have k9 := k9.kept hk4 hn7
          have B := B.trans B4
          clear B4 hk4
          go_upto_region 15 with fail
          clear e4 f7 c7 p7
          have p7 := p7'
          clear p7'
          have c9 := k9.cell
          have c8 := p8.cell
          have c3 := p3.cell
          simp at c9 c8 c3
          go_wp2_with fail
          refine (HX.out _).mono ?_
          rintro e w5 ⟨rfl, hb⟩
          have p7 := p7.below hb p7.lt
          have p8' := p8.below hb p8.lt
          have p3 := p3.below hb p3.lt
          have p4 := p4.below hb p4.lt
          have k9 := k9.below hb k9.lt
          have B := B.trans (hb.mono B.size)
          clear hb c9 c8 c3 p8
          have c8 := p8'.cell
          have f8 := p8'.frozen
          simp at c8
          obtain ⟨w6, e6, p8, B6, hk6⟩ := three_set p8' rfl (.int .i64 y.s) (.int .i64 y.h) (.int .i64 y.k) w.heap.size (by omega)
          have p7 := p7.kept hk6 l78
          have p3 := p3.kept hk6 (by omega)
          have p4 := p4.kept hk6 (by omega)
          have k9 := k9.kept hk6 hn8
          have B := B.trans B6
          clear B6 hk6
          go_upto_region 16 with fail
          clear e6 c8 f8 p8'
          obtain ⟨r, hr⟩ : ∃ r, clipI f 1 65535 = r := ⟨_, rfl⟩
          obtain ⟨q, hq⟩ : ∃ q, weightL (knownL y).s r = q := ⟨_, rfl⟩
          have HW := Lib.hid (fun W => life_Weight y f r q hr hq W)
          have HV := Lib.hid (fun W => ref17_Weight y f r q hr hq W)
          have HSD := Lib.hid (show ∀ W, Calls Tryd.prog 10 #[.agg #[.int .i64 y.s, .int .i64 y.h, .int .i64 y.k]] W fun e w' => e = .returned (.bool (y.s != 3)) ∧ Below W.heap.size W w' from fun W => by
            have := life_Sends y W
            rw [knownL_id y HY.out] at this
            exact this)
          clear hr hq
          obtain ⟨sd, hsd⟩ : ∃ sd : Bool, (y.s != 3) = sd := ⟨_, rfl⟩
          rw [hsd] at HSD
          have j1 : (bt != bt) = false := by simp
          have j2 : (sd != sd) = false := by simp
          have j3 : (q != q) = false := by simp
          have E70 := fun (g : Ext w6) => g.cell (p7.cell 0) p7.lt
          have E71 := fun (g : Ext w6) => g.cell (p7.cell 1) p7.lt
          have E72 := fun (g : Ext w6) => g.cell (p7.cell 2) p7.lt
          have E80 := fun (g : Ext w6) => g.cell (p8.cell 0) p8.lt
          have E81 := fun (g : Ext w6) => g.cell (p8.cell 1) p8.lt
          have E82 := fun (g : Ext w6) => g.cell (p8.cell 2) p8.lt
          have E91 := fun (g : Ext w6) => g.cell (k9.cell 1) k9.lt
          simp at E70 E71 E72 E80 E81 E82 E91
          refine wp_region_ext (by kernel_rfl) (by kernel_rfl) ?_; (repeat (go_big_quiet_step ((first | (go_at_call 10; with_reducible exact calls_ext _ (HSD.out _)) | (go_at_call 13; with_reducible exact calls_ext _ (HW.out _)) | (go_at_call 16; with_reducible exact calls_ext _ (HV.out _)))))); refine wpQuiet_nil ?_; rintro _ ⟨gq, rfl⟩
          clear E70 E71 E72 E80 E81 E82 E91 hsd
          have BB : BothL w gq.world g7 g8 c l y := BothL.below ⟨p7, p8, p3, p4, l7, l8, l78, B⟩ gq.below
          generalize gq.world = w7 at BB ⊢
          clear p7 p8 p3 p4 k9 B gq
          go_wp2_with fail
          go_roundw
          case rel => exact ⟨k + 1, y, m, by omega, by omega, rfl, rfl, m1, m2, BB⟩
          case measure => simp only [intOf]; omega
        · obtain ⟨y, hy⟩ : ∃ y, reportL x c f m = y := ⟨_, rfl⟩
          obtain ⟨bt, hbt⟩ : ∃ bt : Bool, bt = (y.s != (knownL x).s) := ⟨_, rfl⟩
          have hky : KnownL y := by rw [← hy]; exact reportL_known x c f m
          have hT2 := HTB.out.below B hsz
          have HO := Lib.hid (life_Report x y c f m bt hy hbt wa hT2)
          have HX := Lib.hid (fun W => ref17_Report x y c f m bt hy hbt W)
          have HY := Lib.hid hky
          clear hy hbt hky hT2
          go_wp2_with fail
          refine HO.out.mono ?_
          rintro e w3 ⟨rfl, hb⟩
          have p7 := p7.below hb p7.lt
          have p8 := p8.below hb p8.lt
          have p3 := p3.below hb p3.lt
          have p4 := p4.below hb p4.lt
          have k9 := k9.below hb k9.lt
          have B := B.trans (hb.mono B.size)
          clear hb c9 c7 c3
          obtain ⟨w4, e4, p7', B4, hk4⟩ := three_set p7 rfl (.int .i64 y.s) (.int .i64 y.h) (.int .i64 y.k) w.heap.size (by omega)
          have c7 := p7.cell
          have f7 := p7.frozen
          simp at c7
          have p8 := p8.kept hk4 (Ne.symm l78)
          have p3 := p3.kept hk4 (by omega)
          have p4 := p4.kept hk4 (by omega)
          have k9 := k9.kept hk4 hn7
          have B := B.trans B4
          clear B4 hk4
          go_upto_region 13 with fail
          clear e4 f7 c7 p7
          have p7 := p7'
          clear p7'
          have c9 := k9.cell
          have c8 := p8.cell
          have c3 := p3.cell
          simp at c9 c8 c3
          go_wp2_with fail
          refine (HX.out _).mono ?_
          rintro e w5 ⟨rfl, hb⟩
          have p7 := p7.below hb p7.lt
          have p8' := p8.below hb p8.lt
          have p3 := p3.below hb p3.lt
          have p4 := p4.below hb p4.lt
          have k9 := k9.below hb k9.lt
          have B := B.trans (hb.mono B.size)
          clear hb c9 c8 c3 p8
          have c8 := p8'.cell
          have f8 := p8'.frozen
          simp at c8
          obtain ⟨w6, e6, p8, B6, hk6⟩ := three_set p8' rfl (.int .i64 y.s) (.int .i64 y.h) (.int .i64 y.k) w.heap.size (by omega)
          have p7 := p7.kept hk6 l78
          have p3 := p3.kept hk6 (by omega)
          have p4 := p4.kept hk6 (by omega)
          have k9 := k9.kept hk6 hn8
          have B := B.trans B6
          clear B6 hk6
          go_upto_region 16 with fail
          clear e6 c8 f8 p8'
          obtain ⟨r, hr⟩ : ∃ r, clipI f 1 65535 = r := ⟨_, rfl⟩
          obtain ⟨q, hq⟩ : ∃ q, weightL (knownL y).s r = q := ⟨_, rfl⟩
          have HW := Lib.hid (fun W => life_Weight y f r q hr hq W)
          have HV := Lib.hid (fun W => ref17_Weight y f r q hr hq W)
          have HSD := Lib.hid (show ∀ W, Calls Tryd.prog 10 #[.agg #[.int .i64 y.s, .int .i64 y.h, .int .i64 y.k]] W fun e w' => e = .returned (.bool (y.s != 3)) ∧ Below W.heap.size W w' from fun W => by
            have := life_Sends y W
            rw [knownL_id y HY.out] at this
            exact this)
          clear hr hq
          obtain ⟨sd, hsd⟩ : ∃ sd : Bool, (y.s != 3) = sd := ⟨_, rfl⟩
          rw [hsd] at HSD
          have j1 : (bt != bt) = false := by simp
          have j2 : (sd != sd) = false := by simp
          have j3 : (q != q) = false := by simp
          have E70 := fun (g : Ext w6) => g.cell (p7.cell 0) p7.lt
          have E71 := fun (g : Ext w6) => g.cell (p7.cell 1) p7.lt
          have E72 := fun (g : Ext w6) => g.cell (p7.cell 2) p7.lt
          have E80 := fun (g : Ext w6) => g.cell (p8.cell 0) p8.lt
          have E81 := fun (g : Ext w6) => g.cell (p8.cell 1) p8.lt
          have E82 := fun (g : Ext w6) => g.cell (p8.cell 2) p8.lt
          have E91 := fun (g : Ext w6) => g.cell (k9.cell 1) k9.lt
          simp at E70 E71 E72 E80 E81 E82 E91
          refine wp_region_ext (by kernel_rfl) (by kernel_rfl) ?_; (repeat (go_big_quiet_step ((first | (go_at_call 10; with_reducible exact calls_ext _ (HSD.out _)) | (go_at_call 13; with_reducible exact calls_ext _ (HW.out _)) | (go_at_call 16; with_reducible exact calls_ext _ (HV.out _)))))); refine wpQuiet_nil ?_; rintro _ ⟨gq, rfl⟩
          clear E70 E71 E72 E80 E81 E82 E91 hsd
          have BB : BothL w gq.world g7 g8 c l y := BothL.below ⟨p7, p8, p3, p4, l7, l8, l78, B⟩ gq.below
          generalize gq.world = w7 at BB ⊢
          clear p7 p8 p3 p4 k9 B gq
          go_wp2_with fail
          go_roundw
          case rel => exact ⟨k + 1, y, m, by omega, by omega, rfl, rfl, m1, m2, BB⟩
          case measure => simp only [intOf]; omega
      · have j1 : (decide ((k : Int) < (a2l : Int)) && decide ((k : Int) < 60)) = false := by simp; omega
        obtain ⟨p7, p8, p3, p4, l7, l8, l78, B⟩ := BB
        obtain ⟨kc, hkc⟩ : ∃ kc, clipC c = kc := ⟨_, rfl⟩
        obtain ⟨q, hq⟩ : ∃ q, weightL (knownL l).s 100 = q := ⟨_, rfl⟩
        have HC := Lib.hid (fun W => life_Clip c kc hkc W)
        have HD := Lib.hid (fun W => ref17_Clip c kc hkc W)
        have HW := Lib.hid (fun W => life_Weight l 100 100 q (by decide) hq W)
        have HV := Lib.hid (fun W => ref17_Weight l 100 100 q (by decide) hq W)
        clear hkc hq
        have E30 := fun (g : Ext wr) => g.cell (p3.cell 0) p3.lt
        have E31 := fun (g : Ext wr) => g.cell (p3.cell 1) p3.lt
        have E32 := fun (g : Ext wr) => g.cell (p3.cell 2) p3.lt
        have E33 := fun (g : Ext wr) => g.cell (p3.cell 3) p3.lt
        have E40 := fun (g : Ext wr) => g.cell (p4.cell 0) p4.lt
        have E41 := fun (g : Ext wr) => g.cell (p4.cell 1) p4.lt
        have E42 := fun (g : Ext wr) => g.cell (p4.cell 2) p4.lt
        simp at E30 E31 E32 E33 E40 E41 E42
        by_cases h1 : k < a2l
        · have j2 : decide ((k : Int) < (a2l : Int)) = true := by simp; omega
          have j3 : decide ((k : Int) < 60) = false := by simp; omega
          go_wp2_with fail
          refine wp_region_ext (by kernel_rfl) (by kernel_rfl) ?_; (repeat (go_big_quiet_step ((first | (go_at_call 17; with_reducible exact calls_ext _ (HC.out _)) | (go_at_call 8; with_reducible exact calls_ext _ (HD.out _)) | (go_at_call 13; with_reducible exact calls_ext _ (HW.out _)) | (go_at_call 16; with_reducible exact calls_ext _ (HV.out _)))))); refine wpQuiet_nil ?_; rintro _ ⟨gq, rfl⟩
          go_wp2_with fail
          go_ret
          exact ⟨rfl, B.trans (gq.below.mono B.size)⟩
        · have j2 : decide ((k : Int) < (a2l : Int)) = false := by simp; omega
          go_wp2_with fail
          refine wp_region_ext (by kernel_rfl) (by kernel_rfl) ?_; (repeat (go_big_quiet_step ((first | (go_at_call 17; with_reducible exact calls_ext _ (HC.out _)) | (go_at_call 8; with_reducible exact calls_ext _ (HD.out _)) | (go_at_call 13; with_reducible exact calls_ext _ (HW.out _)) | (go_at_call 16; with_reducible exact calls_ext _ (HV.out _)))))); refine wpQuiet_nil ?_; rintro _ ⟨gq, rfl⟩
          go_wp2_with fail
          go_ret
          exact ⟨rfl, B.trans (gq.below.mono B.size)⟩
end Go.Proofs.YthngobikokhdlaaDoor
