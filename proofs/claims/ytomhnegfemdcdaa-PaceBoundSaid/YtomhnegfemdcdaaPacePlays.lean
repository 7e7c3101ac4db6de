/- PacePlays, walked: it returns true. No condition but the frame's. -/
import Derived.Test.YtomhnegfemdcdaaPaceLaws
import Derived.Deep.DeepCutAuto
namespace Go.Proofs.Ytomhnegfemdcdaa
open Go.RowKit BigFrame
attribute [local go_sem ↓] Go.wp_at_zero Go.wp_at_succ
attribute [local go_sem] refp_eql1 refp_neq1 refp_guard i64_and1048575

theorem SliceOf.at3 {w : World} {a : Option Addr} {len cap : Nat} {X Y Z : Nat → Value} (h : SliceOf w a len cap 3 (fun i => [X i, Y i, Z i])) (hp : 0 < len) :
    ∃ b off, a = some ⟨b, off, none⟩ ∧ b < w.heap.size ∧ ∀ i, i < len → w.cell? ⟨b, off + i * 3, none⟩ = some (X i) ∧ w.cell? ⟨b, off + i * 3 + 1, none⟩ = some (Y i) ∧ w.cell? ⟨b, off + i * 3 + 2, none⟩ = some (Z i) := by
  obtain ⟨b, off, e, hb, hc⟩ := h.2.2 hp
  exact ⟨b, off, e, hb, fun i hi => ⟨hc i hi 0 _ rfl, hc i hi 1 _ rfl, hc i hi 2 _ rfl⟩⟩

/-- The two, wherever they lie. -/
def Both (w wx : World) (g5 g6 : Nat) (d x x' : P4) : Prop :=
  Blk wx g5 25 #[.int .i64 x.r, .int .i64 x.b, .int .i64 x.t, .int .i64 x.l] ∧ Blk wx g6 33 #[.int .i64 x'.r, .int .i64 x'.b, .int .i64 x'.t, .int .i64 x'.l] ∧
  Blk wx w.heap.size 33 #[.int .i64 d.r, .int .i64 d.b, .int .i64 d.t, .int .i64 d.l] ∧ w.heap.size < g5 ∧ w.heap.size < g6 ∧ g5 ≠ g6 ∧ Below w.heap.size w wx
theorem Both.below {w wx wy : World} {g5 g6 : Nat} {d x x' : P4} (h : Both w wx g5 g6 d x x') (hb : Below wx.heap.size wx wy) : Both w wy g5 g6 d x x' :=
  ⟨h.1.below hb h.1.lt, h.2.1.below hb h.2.1.lt, h.2.2.1.below hb h.2.2.1.lt, h.2.2.2.1, h.2.2.2.2.1, h.2.2.2.2.2.1, h.2.2.2.2.2.2.trans (hb.mono h.2.2.2.2.2.2.size)⟩
theorem Both.set5 {w wx : World} {g5 g6 : Nat} {d x x' : P4} (h : Both w wx g5 g6 d x x') (y : P4) :
    ∃ w2, (((wx.setCell ⟨g5, 0, none⟩ (.int .i64 y.r)).setCell ⟨g5, 1, none⟩ (.int .i64 y.b)).setCell ⟨g5, 2, none⟩ (.int .i64 y.t)).setCell ⟨g5, 3, none⟩ (.int .i64 y.l) = w2 ∧ Both w w2 g5 g6 d y x' := by
  obtain ⟨q5, q6, q0, l5, l6, l56, B⟩ := h
  obtain ⟨w2, e2, k5, B2, hk2⟩ := four_set q5 rfl (.int .i64 y.r) (.int .i64 y.b) (.int .i64 y.t) (.int .i64 y.l) w.heap.size (Nat.le_of_lt l5)
  exact ⟨w2, e2, k5, (hk2 _ (Ne.symm l56)).trans q6, (hk2 _ (by omega)).trans q0, l5, l6, l56, B.trans B2⟩
theorem Both.set6 {w wx : World} {g5 g6 : Nat} {d x x' : P4} (h : Both w wx g5 g6 d x x') (y : P4) :
    ∃ w2, (((wx.setCell ⟨g6, 0, none⟩ (.int .i64 y.r)).setCell ⟨g6, 1, none⟩ (.int .i64 y.b)).setCell ⟨g6, 2, none⟩ (.int .i64 y.t)).setCell ⟨g6, 3, none⟩ (.int .i64 y.l) = w2 ∧ Both w w2 g5 g6 d x y := by
  obtain ⟨q5, q6, q0, l5, l6, l56, B⟩ := h
  obtain ⟨w2, e2, k5, B2, hk2⟩ := four_set q6 rfl (.int .i64 y.r) (.int .i64 y.b) (.int .i64 y.t) (.int .i64 y.l) w.heap.size (Nat.le_of_lt l6)
  exact ⟨w2, e2, (hk2 _ l56).trans q5, k5, (hk2 _ (by omega)).trans q0, l5, l6, l56, B.trans B2⟩
theorem Both.set8 {w wx : World} {g5 g6 : Nat} {d x x' : P4} (h : Both w wx g5 g6 d x x') (y y' : P4) :
    ∃ w2, (((((((wx.setCell ⟨g5, 0, none⟩ (.int .i64 y.r)).setCell ⟨g5, 1, none⟩ (.int .i64 y.b)).setCell ⟨g5, 2, none⟩ (.int .i64 y.t)).setCell ⟨g5, 3, none⟩ (.int .i64 y.l)).setCell ⟨g6, 0, none⟩ (.int .i64 y'.r)).setCell ⟨g6, 1, none⟩ (.int .i64 y'.b)).setCell ⟨g6, 2, none⟩ (.int .i64 y'.t)).setCell ⟨g6, 3, none⟩ (.int .i64 y'.l) = w2 ∧ Both w w2 g5 g6 d y y' := by
  obtain ⟨w2, e2, h2⟩ := h.set5 y
  rw [e2]
  exact h2.set6 y'
theorem Both.rate {w wx : World} {g5 g6 : Nat} {d x x' : P4} (h : Both w wx g5 g6 d x x') (n : Int) : Both w (wx.setCell ⟨g6, 0, none⟩ (.int .i64 n)) g5 g6 d x ⟨n, x'.b, x'.t, x'.l⟩ := by
  obtain ⟨q5, q6, q0, l5, l6, l56, B⟩ := h
  exact ⟨q5.far (p := ⟨g6, 0, none⟩) l56 _, by simpa using q6.set_ 0 (.int .i64 n), q0.far (p := ⟨g6, 0, none⟩) (by show w.heap.size ≠ g6; omega) _, l5, l6, l56, B.setCell (Nat.le_of_lt l6) _⟩

theorem Blk.far4 {w : World} {g : Nat} {t : TypeId} {cs : Array Value} (h : Blk w g t cs) {g' : Nat} (hg : g' < g) (x y z u : Value) :
    Blk ((((w.setCell ⟨g', 0, none⟩ x).setCell ⟨g', 1, none⟩ y).setCell ⟨g', 2, none⟩ z).setCell ⟨g', 3, none⟩ u) g t cs :=
  (((h.far (p := ⟨g', 0, none⟩) (Nat.ne_of_gt hg) x).far (p := ⟨g', 1, none⟩) (Nat.ne_of_gt hg) y).far (p := ⟨g', 2, none⟩) (Nat.ne_of_gt hg) z).far (p := ⟨g', 3, none⟩) (Nat.ne_of_gt hg) u

set_option maxRecDepth 8000 in
set_option maxHeartbeats 12000000 in
theorem PacePlays_walk (a0x0 : Int) (a0x1 : Int) (a0x2 : Int) (a0x3 : Int) (a1a : Option Addr) (a1l a1c : Nat) (a1e0 : Nat → Int) (a1e1 : Nat → Int) (a1e2 : Nat → Int) (w : World) (_w0 : (Lit.int .i64 a0x0).wf = true) (_w1 : (Lit.int .i64 a0x1).wf = true) (_w2 : (Lit.int .i64 a0x2).wf = true) (_w3 : (Lit.int .i64 a0x3).wf = true) (a1S : SliceOf w a1a a1l a1c 3 (fun i => [.int .i64 (a1e0 i), .int .i64 (a1e1 i), .int .i64 (a1e2 i)])) (_a1F0 : ∀ i, i < a1l → (Lit.int .i64 (a1e0 i)).wf = true) (_a1F1 : ∀ i, i < a1l → (Lit.int .i64 (a1e1 i)).wf = true) (_a1F2 : ∀ i, i < a1l → (Lit.int .i64 (a1e2 i)).wf = true) :
    Calls Try.prog 5 #[.agg #[.int .i64 a0x0, .int .i64 a0x1, .int .i64 a0x2, .int .i64 a0x3], .slice a1a a1l a1c] w fun e w' => e = .returned (.bool true) ∧ Below w.heap.size w w' := by
  clear _w0 _w1 _w2 _w3 _a1F0 _a1F1 _a1F2
  have hl1 := a1S.size_le
  have HS1 := Lib.hid a1S
  clear a1S
  obtain ⟨n0, hn0⟩ : ∃ n0, clipI a0x3 0 1099511627776 = n0 := ⟨_, rfl⟩
  obtain ⟨b1, b2⟩ := clip_bd a0x3 0 1099511627776 (by omega)
  rw [hn0] at b1 b2
  obtain ⟨m0, hm0⟩ : ∃ m0, min a0x3 1099511627776 = m0 := ⟨_, rfl⟩
  have hm1 : max 0 m0 = n0 := by rw [← hm0]; exact hn0
  rw [← mn_eq] at hm0
  rw [← mx_eq] at hm1
  clear hn0
  go_enter Try.func5, Try.ntmps5
  go_wp2_with fail
  refine (law19_awake _).mono ?_
  rintro e w1 ⟨rfl, hb1⟩
  have k1 := (Blk.new w 33 #[.int .i64 a0x0, .int .i64 a0x1, .int .i64 a0x2, .int .i64 a0x3]).below hb1 (by simp)
  have B1 : Below w.heap.size w w1 := ((Below.refl _ w).alloc (Nat.le_refl _) _).trans (hb1.mono (by simp))
  have k1_c := k1.cell; have k1_f := k1.frozen; have k1_ca := fun o => (k1.alloc o).cell; have k1_fa := fun o => (k1.alloc o).frozen; have k1_cb := fun o o' => ((k1.alloc o).alloc o').cell; have k1_fb := fun o o' => ((k1.alloc o).alloc o').frozen
  clear hb1
  go_upto_region 3 with fail
  go_cut [5, 6] (fun s5 s6 wx => ∃ g5 g6 : Nat, s5 = .pointer (some ⟨g5, 0, none⟩) ∧ s6 = .pointer (some ⟨g6, 0, none⟩) ∧ Both w wx g5 g6 ⟨a0x0, a0x1, a0x2, a0x3⟩ ⟨a0x0, a0x1, a0x2, a0x3⟩ ⟨a0x0, a0x1, a0x2, a0x3⟩)
  case first =>
    go_region
    · clear k1_c k1_f k1_ca k1_fa k1_cb k1_fb
      go_wp2_with fail
      go_meet
      exact ⟨w1.heap.size, w1.heap.size + 1, rfl, rfl, (Blk.new _ _ _).alloc _, Blk.new1 _ _ _ _, (k1.alloc _).alloc _, k1.lt, Nat.lt_succ_of_lt k1.lt, by omega, ((B1.alloc B1.size _).alloc (Nat.le_trans B1.size (by simp)) _).drew⟩
    · clear k1_c k1_f k1_ca k1_fa k1_cb k1_fb
      go_wp2_with fail
      go_meet
      exact ⟨w1.heap.size + 1, w1.heap.size, rfl, rfl, Blk.new1 _ _ _ _, (Blk.new _ _ _).alloc _, (k1.alloc _).alloc _, Nat.lt_succ_of_lt k1.lt, k1.lt, by omega, ((B1.alloc B1.size _).alloc (Nat.le_trans B1.size (by simp)) _).drew⟩
  case rest =>
    obtain ⟨g5, g6, rfl, rfl, BB⟩ := hcut
    clear k1_c k1_f k1_ca k1_fa k1_cb k1_fb
    clear k1 B1
    have c3 := BB.2.2.1.cell
    simp at c3
    go_wp2_with fail
    clear hm0 hm1 c3
    go_loopw [7, 8] (fun s7 s8 wr => ∃ (k : Nat) (x : P4) (nw : Int), k ≤ a1l ∧ k ≤ 50 ∧ s8 = .int .i64 k ∧ s7 = .int .i64 nw ∧ 0 ≤ nw ∧ nw ≤ 1099511627776 + k * 1048576 ∧ Both w wr g5 g6 ⟨a0x0, a0x1, a0x2, a0x3⟩ x x)
      (fun _ i _ => a1l - (intOf i).toNat)
    case atStart => exact ⟨0, _, n0, Nat.zero_le _, Nat.zero_le _, rfl, rfl, b1, by omega, BB⟩
    case round =>
      clear BB
      obtain ⟨k, x, nw, hk, hk6, rfl, rfl, n1, n2, BB⟩ := hrel
      by_cases hgo : k < a1l ∧ k < 50
      · obtain ⟨hlt, h60⟩ := hgo
        obtain ⟨b, off, rfl, hbb, hcell⟩ := HS1.out.at3 (by omega)
        obtain ⟨hc0, hc1, hc2⟩ := hcell k hlt
        have B := BB.2.2.2.2.2.2
        have d0 := (B.cell (p := ⟨b, off + k * 3, none⟩) hbb).trans hc0
        have d1 := (B.cell (p := ⟨b, off + k * 3 + 1, none⟩) hbb).trans hc1
        have d2 := (B.cell (p := ⟨b, off + k * 3 + 2, none⟩) hbb).trans hc2
        clear hcell hc0 hc1 hc2
        have i0 : (0 : Int) ≤ (k : Int) := by omega
        have i1 : (k : Int) < (a1l : Int) := by omega
        have i2 : (k : Int) < 50 := by omega
        have s1 : IntKind.i64.wrap ((k : Int) + 1) = ((k + 1 : Nat) : Int) := by rw [IntWalk.i64_in _ (by omega)]; omega
        obtain ⟨m, hm⟩ : ∃ m, nw + a1e2 k % 1048576 = m := ⟨_, rfl⟩
        have s2 : IntKind.i64.wrap (nw + a1e2 k % 1048576) = m := by rw [IntWalk.i64_in _ (by omega)]; exact hm
        have m1 : 0 ≤ m := by omega
        have m2 : m ≤ 1099511627776 + (k + 1 : Nat) * 1048576 := by omega
        clear hm
        obtain ⟨kd, hkd⟩ : ∃ kd, a1e0 k = kd := ⟨_, rfl⟩
        rw [hkd] at d0
        clear hkd
        obtain ⟨n, hn⟩ : ∃ n, a1e1 k = n := ⟨_, rfl⟩
        rw [hn] at d1
        clear hn
        go_upto_region 9 with fail
        have l5r := BB.1.lt
        have l6r := BB.2.1.lt
        have k9 := Blk.new wr 29 #[.int .i64 kd, .int .i64 n, .int .i64 (a1e2 k)]
        have BB := BB.below ((Below.refl _ wr).alloc (Nat.le_refl _) (.cells #[.int .i64 kd, .int .i64 n, .int .i64 (a1e2 k)] 29))
        generalize wr.alloc (.cells #[.int .i64 kd, .int .i64 n, .int .i64 (a1e2 k)] 29) = wa at *
        clear d0 d1 d2
        have c9 := k9.cell
        simp at c9
        by_cases h0 : kd = 0
        · subst h0
          obtain ⟨y, hy⟩ : ∃ y, atP x m = y := ⟨_, rfl⟩
          have HO := Lib.hid (fun W => pace_At x y m hy W)
          have HX := Lib.hid (fun W => ref19_At x y m hy W)
          clear hy
          have E50 := fun (g : Ext wa) => g.cell (BB.1.cell 0) BB.1.lt
          have E51 := fun (g : Ext wa) => g.cell (BB.1.cell 1) BB.1.lt
          have E52 := fun (g : Ext wa) => g.cell (BB.1.cell 2) BB.1.lt
          have E53 := fun (g : Ext wa) => g.cell (BB.1.cell 3) BB.1.lt
          have E60 := fun (g : Ext wa) => g.cell (BB.2.1.cell 0) BB.2.1.lt
          have E61 := fun (g : Ext wa) => g.cell (BB.2.1.cell 1) BB.2.1.lt
          have E62 := fun (g : Ext wa) => g.cell (BB.2.1.cell 2) BB.2.1.lt
          have E63 := fun (g : Ext wa) => g.cell (BB.2.1.cell 3) BB.2.1.lt
          have E91 := fun (g : Ext wa) => g.cell (k9.cell 1) k9.lt
          simp at E50 E51 E52 E53 E60 E61 E62 E63 E91
          go_upto_region 15 with fail
          refine wp_region_ext_tail 6 (by kernel_rfl) (by kernel_rfl) ?_; simp only [List.take_succ_cons, List.take_zero, List.drop_succ_cons, List.drop_zero]; (repeat (go_big_quiet_step ((first | (go_at_call 13; with_reducible exact calls_ext _ (HO.out _)) | (go_at_call 14; with_reducible exact calls_ext _ (HX.out _)))))); refine wpQuiet_nil ?_; rintro _ ⟨gq, rfl⟩
          obtain ⟨w2, e2, BB2⟩ := (BB.below gq.below).set8 y y
          have q := BB.below gq.below
          have q5_c := q.1.cell
          have q5_f := q.1.frozen
          have q6_c := q.2.1.cell
          have q6_f := q.2.1.frozen
          have q5_l := q.1.lt
          have q6_l := q.2.1.lt
          have q56 := q.2.2.2.2.2.1
          simp at q5_c q6_c
          clear E50 E51 E52 E53 E60 E61 E62 E63 E91 c9
          go_upto_region 19 with fail
          try rw [e2]
          clear e2 q5_c q5_f q6_c q6_f q5_l q6_l
          have q5_c := BB2.1.cell
          have q6_c := BB2.2.1.cell
          simp at q5_c q6_c
          go_wp2_with fail
          go_roundw
          case rel => exact ⟨k + 1, y, m, by omega, by omega, rfl, rfl, m1, m2, BB2⟩
          case measure => simp only [intOf]; omega
        · by_cases h1 : kd = 1
          · subst h1
            obtain ⟨r, hr⟩ : ∃ r, takeP x m n = r := ⟨_, rfl⟩
            obtain ⟨y, ok⟩ := r
            have HO := Lib.hid (fun W => pace_Take x y ok m n hr W)
            have HX := Lib.hid (fun W => ref19_Take x y ok m n hr W)
            clear hr h0
            have c5 := BB.1.cell
            simp at c5
            go_wp2_with fail
            refine (HO.out _).mono ?_
            rintro e w4 ⟨rfl, hb4⟩
            have BB := BB.below hb4
            have k9 := k9.below hb4 k9.lt
            obtain ⟨w5, e5, BB5⟩ := BB.set5 y
            have hk9 : Blk w5 wr.heap.size 29 #[.int .i64 1, .int .i64 n, .int .i64 (a1e2 k)] := by
              rw [← e5]
              with_reducible exact k9.far4 l5r _ _ _ _
            clear c5 c9
            have c5 := BB.1.cell
            have f5 := BB.1.frozen
            have l5 := BB.1.lt
            simp at c5
            go_upto_region 18 with fail
            try rw [e5]
            clear e5 c5 f5 l5 hb4
            have c6 := BB5.2.1.cell
            have c9 := hk9.cell
            simp at c6 c9
            go_wp2_with fail
            refine (HX.out _).mono ?_
            rintro e w6 ⟨rfl, hb6⟩
            have BB6 := BB5.below hb6
            obtain ⟨w2, e2, BB2⟩ := BB6.set6 y
            clear c6 c9
            have c6 := BB6.2.1.cell
            have f6 := BB6.2.1.frozen
            have l6 := BB6.2.1.lt
            simp at c6
            go_upto_region 19 with fail
            try rw [e2]
            clear e2 c6 f6 l6
            have q5_c := BB2.1.cell
            have q6_c := BB2.2.1.cell
            simp at q5_c q6_c
            go_wp2_with fail
            go_roundw
            case rel => exact ⟨k + 1, y, m, by omega, by omega, rfl, rfl, m1, m2, BB2⟩
            case measure => simp only [intOf]; omega
          · obtain ⟨y, hy⟩ : ∃ y, changeP x m n = y := ⟨_, rfl⟩
            obtain ⟨z, hz⟩ : ∃ z, atP x m = z := ⟨_, rfl⟩
            have hfz := atP_fit x m
            rw [hz] at hfz
            have hyz : y = ⟨clipI n 1 65535, z.b, z.t, z.l⟩ := by
              rw [← hy]
              unfold changeP
              rw [hz]
              unfold FitP at hfz
              have := fitP_id ⟨clipI n 1 65535, z.b, z.t, z.l⟩ (by have := clip_bd n 1 65535 (by omega); unfold FitP; simp only; omega)
              rw [← this]
              unfold fitP
              simp only [P4.mk.injEq]
              exact ⟨by unfold clipI; omega, trivial, trivial, trivial⟩
            have HO := Lib.hid (fun W => pace_Change x y m n hy W)
            have HX := Lib.hid (fun W => ref19_At x z m hz W)
            have HY := Lib.hid hyz
            obtain ⟨u, hu⟩ : ∃ u, min n 65535 = u := ⟨_, rfl⟩
            obtain ⟨v, hv⟩ : ∃ v, max 1 u = v := ⟨_, rfl⟩
            have hv2 : clipI n 1 65535 = v := by rw [← hv, ← hu]; rfl
            have HV := Lib.hid hv2
            rw [← mn_eq] at hu
            rw [← mx_eq] at hv
            clear hy hz hyz hfz hv2
            have j0 : (kd == 0) = false := by simp; omega
            have j1 : (kd == 1) = false := by simp; omega
            have j2 : decide (kd = 0) = false := by simp; omega
            have j3 : decide (kd = 1) = false := by simp; omega
            have E50 := fun (g : Ext wa) => g.cell (BB.1.cell 0) BB.1.lt
            have E51 := fun (g : Ext wa) => g.cell (BB.1.cell 1) BB.1.lt
            have E52 := fun (g : Ext wa) => g.cell (BB.1.cell 2) BB.1.lt
            have E53 := fun (g : Ext wa) => g.cell (BB.1.cell 3) BB.1.lt
            have E60 := fun (g : Ext wa) => g.cell (BB.2.1.cell 0) BB.2.1.lt
            have E61 := fun (g : Ext wa) => g.cell (BB.2.1.cell 1) BB.2.1.lt
            have E62 := fun (g : Ext wa) => g.cell (BB.2.1.cell 2) BB.2.1.lt
            have E63 := fun (g : Ext wa) => g.cell (BB.2.1.cell 3) BB.2.1.lt
            have E91 := fun (g : Ext wa) => g.cell (k9.cell 1) k9.lt
            simp at E50 E51 E52 E53 E60 E61 E62 E63 E91
            go_upto_region 12 with fail
            refine wp_region_ext_tail 8 (by kernel_rfl) (by kernel_rfl) ?_; simp only [List.take_succ_cons, List.take_zero, List.drop_succ_cons, List.drop_zero]; (repeat (go_big_quiet_step ((first | (go_at_call 16; with_reducible exact calls_ext _ (HO.out _)) | (go_at_call 14; with_reducible exact calls_ext _ (HX.out _)))))); refine wpQuiet_nil ?_; rintro _ ⟨gq, rfl⟩
            obtain ⟨w5, e5, BB5⟩ := (BB.below gq.below).set8 y z
            have k9q := k9.below gq.below k9.lt
            have hk9 : Blk w5 wr.heap.size 29 #[.int .i64 kd, .int .i64 n, .int .i64 (a1e2 k)] := by
              rw [← e5]
              with_reducible exact (k9q.far4 l5r _ _ _ _).far4 l6r _ _ _ _
            have q := BB.below gq.below
            have q5_c := q.1.cell
            have q5_f := q.1.frozen
            have q6_c := q.2.1.cell
            have q6_f := q.2.1.frozen
            have q5_l := q.1.lt
            have q6_l := q.2.1.lt
            have q56 := q.2.2.2.2.2.1
            simp at q5_c q6_c
            clear E50 E51 E52 E53 E60 E61 E62 E63 E91 c9
            go_upto_region 13 with fail
            try rw [e5]
            clear e5 q5_c q5_f q6_c q6_f q5_l q6_l
            have c9 := hk9.cell
            have c6 := BB5.2.1.cell
            have f6 := BB5.2.1.frozen
            simp at c9 c6
            have BB2 := BB5.rate v
            have ey : (⟨v, z.b, z.t, z.l⟩ : P4) = y := by rw [HY.out, HV.out]
            try simp only at BB2
            rw [ey] at BB2
            go_upto_region 19 with fail
            clear c9 c6 f6
            generalize w5.setCell ⟨g6, 0, none⟩ (.int .i64 v) = w2 at *
            have q5_c := BB2.1.cell
            have q6_c := BB2.2.1.cell
            simp at q5_c q6_c
            go_wp2_with fail
            go_roundw
            case rel => exact ⟨k + 1, y, m, by omega, by omega, rfl, rfl, m1, m2, BB2⟩
            case measure => simp only [intOf]; omega
      · have hge : (k < a1l → ¬ k < 50) := fun h1 h2 => hgo ⟨h1, h2⟩
        clear hgo
        have hq : ∃ q : P4, fitP ⟨a0x0, a0x1, 1048576, a0x3⟩ = q := ⟨_, rfl⟩
        obtain ⟨q, hq⟩ := hq
        have HO := Lib.hid (fun W => pace_New a0x0 a0x1 a0x3 q hq W)
        have HX := Lib.hid (fun W => ref19_Fit ⟨a0x0, a0x1, 1048576, a0x3⟩ q hq W)
        clear hq
        have E0 := fun (g : Ext wr) => g.cell (BB.2.2.1.cell 0) BB.2.2.1.lt
        have E1 := fun (g : Ext wr) => g.cell (BB.2.2.1.cell 1) BB.2.2.1.lt
        have E3 := fun (g : Ext wr) => g.cell (BB.2.2.1.cell 3) BB.2.2.1.lt
        simp at E0 E1 E3
        have B := BB.2.2.2.2.2.2
        clear BB
        by_cases h1 : k < a1l
        · have h2 : 50 ≤ k := by have := hge h1; omega
          clear hge
          go_upto_region 21 with fail
          refine wp_region_ext (by kernel_rfl) (by kernel_rfl) ?_; (repeat (go_big_quiet_step ((first | (go_at_call 11; with_reducible exact calls_ext _ (HO.out _)) | (go_at_call 17; with_reducible exact calls_ext _ (HX.out _)))))); refine wpQuiet_nil ?_; rintro _ ⟨gq, rfl⟩
          go_wp2_with fail
          go_ret
          exact ⟨rfl, B.trans (gq.below.mono B.size)⟩
        · clear hge
          go_upto_region 21 with fail
          refine wp_region_ext (by kernel_rfl) (by kernel_rfl) ?_; (repeat (go_big_quiet_step ((first | (go_at_call 11; with_reducible exact calls_ext _ (HO.out _)) | (go_at_call 17; with_reducible exact calls_ext _ (HX.out _)))))); refine wpQuiet_nil ?_; rintro _ ⟨gq, rfl⟩
          go_wp2_with fail
          go_ret
          exact ⟨rfl, B.trans (gq.below.mono B.size)⟩
end Go.Proofs.Ytomhnegfemdcdaa
