/- The statement SourceCounts, walked: it returns true. No condition but the frame's. -/
import Derived.Test.YthngobikokhdlaaSourceTwice
namespace Go.Proofs.Ythngobikokhdlaa
open Go.RowKit
attribute [local go_sem ↓] Go.wp_at_zero Go.wp_at_succ
attribute [local go_sem] i64_and4095

def cS (top f1 i : Int) : S6 := ⟨top % 65536, top - top % 65536, f1, 65537, 0, i + 1⟩
theorem cS_in (top f1 i : Int) (h0 : 0 ≤ top) (h1 : top ≤ 65535 + 3000 * i) (hi : 0 ≤ i) (a : 0 ≤ f1) (b : f1 ≤ 65535) : InS (i + 1) (cS top f1 i) := by
  unfold InS cS; simp only; omega
theorem mx_eq2 (x y : Int) : (if x < y then y else x) = max x y := by split <;> omega
theorem cS_upd (top f1 i d : Int) (h0 : 0 ≤ top) (d0 : -99 ≤ d) (d1 : d ≤ 2999) : updS (cS top f1 i) ((top + d) % 65536) = (cS (max top (top + d)) f1 (i + 1), true) := by
  unfold updS cS
  simp only
  rw [if_neg (by omega)]
  by_cases h : 0 ≤ d
  · rw [if_pos (by omega)]
    have hm : max top (top + d) = top + d := by omega
    rw [hm]
    simp only [Prod.mk.injEq, S6.mk.injEq, and_true, true_and]
    split <;> omega
  · rw [if_neg (by omega), if_neg (by omega)]
    have hm : max top (top + d) = top := by omega
    rw [hm]
theorem cS_ext (top d : Int) (h0 : 0 ≤ top) (h1 : top ≤ 1000000) (d0 : -99 ≤ d) (d1 : d ≤ 2999) : extI (max top (top + d)) ((top + d) % 65536) = max top (top + d) - max 0 (-d) := by
  rw [ext_near _ _ (by omega) (by omega)]
  unfold diffI
  omega
theorem cS_start (a0 : Int) (f0 : 0 ≤ a0) (f1 : a0 ≤ 65535) : runS (newS a0) (fun i => if i = 0 then a0 else (a0 + 1) % 65536) 2 = (cS ((a0 + 1) % 65536) ((a0 + 1) % 65536) 0, 1) := by
  have e1 : updS (newS a0) a0 = (⟨a0, 0, a0, 65537, 1, 0⟩, false) := by
    unfold updS proveS newS
    simp only
    rw [if_pos (by omega), if_pos (by omega), if_neg (by omega)]
    rfl
  have e2 : updS ⟨a0, 0, a0, 65537, 1, 0⟩ ((a0 + 1) % 65536) = (⟨(a0 + 1) % 65536, 0, (a0 + 1) % 65536, 65537, 0, 1⟩, true) := by
    unfold updS proveS
    simp only
    rw [if_pos (by omega)]
    simp
  have r1 : runS (newS a0) (fun i => if i = 0 then a0 else (a0 + 1) % 65536) 1 = (⟨a0, 0, a0, 65537, 1, 0⟩, 0) := by
    show ((updS (newS a0) a0).1, if (updS (newS a0) a0).2 then (0 : Int) + 1 else 0) = _
    rw [e1]
    rfl
  show ((updS (runS (newS a0) (fun i => if i = 0 then a0 else (a0 + 1) % 65536) 1).1 ((a0 + 1) % 65536)).1, if (updS (runS (newS a0) (fun i => if i = 0 then a0 else (a0 + 1) % 65536) 1).1 ((a0 + 1) % 65536)).2 then (runS (newS a0) (fun i => if i = 0 then a0 else (a0 + 1) % 65536) 1).2 + 1 else (runS (newS a0) (fun i => if i = 0 then a0 else (a0 + 1) % 65536) 1).2) = _
  rw [r1]
  simp only
  rw [e2]
  unfold cS
  simp only [if_true, Prod.mk.injEq, S6.mk.injEq, true_and, and_true]
  omega

set_option maxRecDepth 8000 in
set_option maxHeartbeats 8000000 in
theorem SourceCounts_walk (a0 : Int) (a1a : Option Addr) (a1l a1c : Nat) (a1e0 : Nat → Int) (w : World) (a0w : (Lit.int .u16 a0).wf = true) (a1S : SliceOf w a1a a1l a1c 1 (fun i => [.int .i64 (a1e0 i)])) (_a1F0 : ∀ i, i < a1l → (Lit.int .i64 (a1e0 i)).wf = true) :
    Calls Try.prog 8 #[.int .u16 a0, .slice a1a a1l a1c] w fun e w' => e = .returned (.bool true) ∧ Below w.heap.size w w' := by
  obtain ⟨f0, f1⟩ := wf_u16 a0w
  have hl := a1S.size_le
  obtain ⟨b, hb⟩ : ∃ b, (a0 + 1) % 65536 = b := ⟨_, rfl⟩
  have b0 : 0 ≤ b := by omega
  have b1 : b ≤ 65535 := by omega
  have hwb : IntKind.u16.wrap (a0 + 1) = b := by rw [← hb]; simp [IntKind.wrap, IntKind.bits, IntKind.signed]
  have hst := cS_start a0 f0 f1
  rw [hb] at hst
  have HN := Lib.hid (fun W => source_New a0 f0 f1 (newS a0) rfl W)
  have HR := Lib.hid (fun W g hS => source_Run (newS a0) (cS b b 0) (some ⟨g, 0, none⟩) 2 2 (fun i => if i = 0 then a0 else b) 0 1 (by omega) (by omega) (newS_in a0 f0 f1) (fun i _ => by split <;> omega) hst W hS)
  have HHb := Lib.hid (fun W => source_Highest (cS b b 0) (0 + 1) (cS_in b b 0 b0 (by omega) (by omega) b0 b1) (by omega) b (by unfold highS cS; simp only; omega) W)
  have HS := Lib.hid a1S
  obtain ⟨q0, hq0⟩ : ∃ q0, cS b b 0 = q0 := ⟨_, rfl⟩
  rw [hq0] at HR HHb
  have HQ0 := Lib.hid hq0
  clear a1S _a1F0 a0w hst hq0
  go_enter Try.func8, Try.ntmps8
  go_wp2_with fail
  refine (law13_awake _).mono ?_
  rintro e w1 ⟨rfl, hb1⟩
  go_wp2_with fail
  refine (HN.out _).mono ?_
  rintro e w2 ⟨rfl, hb2⟩
  have B2 := below_then hb1 hb2 (Nat.le_refl _)
  go_wp2_with fail
  refine (HR.out _ _ (SliceOf.litF (n := 2) (Blk.new w2 27 #[.int .u16 a0, .int .u16 b]) rfl (by decide) (fun i => .int .u16 (if i = 0 then a0 else b)) (fun i hi => by
    match i, hi with
    | 0, _ => rfl
    | 1, _ => rfl))).mono ?_
  rintro e w3 ⟨rfl, hb3⟩
  have B3 : Below w.heap.size w w3 := (B2.alloc B2.size _).trans (hb3.mono (Nat.le_trans B2.size (by simp)))
  clear hb1 hb2 hb3 B2
  have k5 := Blk.new w3 31 #[.int .u16 q0.mx, .int .i64 q0.cy, .int .i64 q0.ba, .int .i64 q0.bd, .int .i64 q0.pr, .int .i64 q0.rc]
  have B4 := B3.alloc B3.size (.cells #[.int .u16 q0.mx, .int .i64 q0.cy, .int .i64 q0.ba, .int .i64 q0.bd, .int .i64 q0.pr, .int .i64 q0.rc] 31)
  go_upto_region 4 with fail
  have hg : w.heap.size ≤ w3.heap.size := B3.size
  generalize w3.alloc (.cells #[.int .u16 q0.mx, .int .i64 q0.cy, .int .i64 q0.ba, .int .i64 q0.bd, .int .i64 q0.pr, .int .i64 q0.rc] 31) = w4 at *
  generalize w3.heap.size = g at *
  have c5 := k5.cell
  simp at c5
  go_wp2_with fail
  refine (HHb.out _).mono ?_
  rintro e w5 ⟨rfl, hb5⟩
  have k5 := k5.below hb5 k5.lt
  have B5 := below_then B4 hb5 (Nat.le_refl _)
  clear hb5 c5 B3 B4
  go_wp2_with fail
  go_loopw [7, 8] (fun x i wr => ∃ (k : Nat) (top : Int) (q : S6), k ≤ a1l ∧ k ≤ 80 ∧ i = .int .i64 k ∧ x = .int .i64 top ∧ b ≤ top ∧ top ≤ 65535 + 3000 * k ∧ Hid (q = cS top b k) ∧ Blk wr g 31 #[.int .u16 q.mx, .int .i64 q.cy, .int .i64 q.ba, .int .i64 q.bd, .int .i64 q.pr, .int .i64 q.rc] ∧ Below w.heap.size w wr) (fun _ i _ => a1l - (intOf i).toNat)
  case atStart => exact ⟨0, b, q0, by omega, by omega, rfl, rfl, by omega, by omega, Lib.hid HQ0.out.symm, k5, B5⟩
  case round =>
    clear k5 B5
    obtain ⟨k, top, q, hk, hk8, rfl, rfl, t0, t1, HQ, k5, B5⟩ := hrel
    by_cases hgo : k < a1l ∧ k < 80
    · obtain ⟨hlt, h80⟩ := hgo
      obtain ⟨bb, off, rfl, hbb, hcell⟩ := HS.out.at1 (by omega)
      have d0 := (B5.cell (p := ⟨bb, off + k, none⟩) hbb).trans (hcell k hlt)
      have hqi : InS ((k : Int) + 1) q := by rw [HQ.out]; exact cS_in top b k (by omega) t1 (by omega) b0 b1
      obtain ⟨st, hst⟩ : ∃ st, a1e0 k = st := ⟨_, rfl⟩
      rw [hst] at d0
      have hr : ∀ d : Int, -99 ≤ d → d ≤ 2999 → ∃ r n top' z ev, r = cS top' b (k + 1) ∧ InS ((k : Int) + 1 + 1) r ∧ r.rc = (k : Int) + 2 ∧ max top (top + d) = top' ∧ (top + d) % 65536 = n ∧ max 0 (-d) = z ∧ extI top' n = ev ∧ ev = top' - z ∧ updS q n = (r, true) ∧ highS r = top' ∧ expS r = top' - b + 1 := fun d p1 p2 => by
        refine ⟨_, _, _, _, _, rfl, ?_, ?_, rfl, rfl, rfl, rfl, cS_ext top d (by omega) (by omega) p1 p2, by rw [HQ.out]; exact cS_upd top b k d (by omega) p1 p2, ?_, ?_⟩
        · have := cS_in (max top (top + d)) b (k + 1) (by omega) (by omega) (by omega) b0 b1
          exact this
        · unfold cS; simp only; omega
        · unfold highS cS; simp only; omega
        · unfold expS cS; simp only; rw [if_neg (by omega)]; omega
      have HRR := Lib.hid hr
      clear hr hst hcell
      have i0 : (0 : Int) ≤ (k : Int) := by omega
      have i1 : (k : Int) < (a1l : Int) := by omega
      have i2 : (k : Int) < 80 := by omega
      have hdc : (3000 ≤ st % 4096 - 99) ∨ (st % 4096 - 99 < 3000) := by omega
      obtain ⟨dd, hdd⟩ : ∃ dd, st % 4096 - 99 = dd := ⟨_, rfl⟩
      rw [hdd] at hdc
      have e0 : -99 ≤ dd := by omega
      have c5 := k5.cell
      simp at c5
      rcases hdc with hd | hd
      · obtain ⟨r, n, top', z, ev, hr1, hr2, hr3, hr4, hr5, hr6, hr7, hr8, hr9, hr10, hr11⟩ := HRR.out 2999 (by omega) (by omega)
        have hwn : IntKind.u16.wrap (top + 2999) = n := by rw [← hr5]; simp [IntKind.wrap, IntKind.bits, IntKind.signed]
        have n0 : 0 ≤ n := by omega
        have n1 : n ≤ 65535 := by omega
        have HU := Lib.hid (fun W => source_Update q r n ((k : Int) + 1) true hqi (by omega) n0 n1 hr9 W)
        have HH := Lib.hid (fun W => source_Highest r ((k : Int) + 1 + 1) hr2 (by omega) top' hr10 W)
        have HE := Lib.hid (fun W => source_Expected r ((k : Int) + 1 + 1) hr2 (by omega) (top' - b + 1) hr11 W)
        have HXT := Lib.hid (fun W => source_Extend r n ((k : Int) + 1 + 1) hr2 (by omega) ev (by rw [hr10]; exact hr7) W)
        have hr4b := hr4
        rw [← mx_eq2] at hr4b
        have hr6b := hr6
        rw [← mx_eq2] at hr6b
        have u0 : b ≤ top' := by omega
        have u1 : top' ≤ 65535 + 3000 * ((k : Int) + 1) := by omega
        have z0 : 0 ≤ z := by omega
        have z1 : z ≤ 99 := by omega
        have HR1 := Lib.hid hr1
        have HR3 := Lib.hid hr3
        have HR8 := Lib.hid hr8
        clear hr1 hr2 hr3 hr5 hr7 hr8 hr9 hr10 hr11 hqi
        go_wp2_with fail
        refine (HU.out _).mono ?_
        rintro e w6 ⟨rfl, hb6⟩
        have k5 := k5.below hb6 k5.lt
        have B6 := below_then B5 hb6 (Nat.le_refl _)
        have k10 := Blk.new w6 31 #[.int .u16 r.mx, .int .i64 r.cy, .int .i64 r.ba, .int .i64 r.bd, .int .i64 r.pr, .int .i64 r.rc]
        have k5 := k5.alloc (.cells #[.int .u16 r.mx, .int .i64 r.cy, .int .i64 r.ba, .int .i64 r.bd, .int .i64 r.pr, .int .i64 r.rc] 31)
        have B7 := B6.alloc B6.size (.cells #[.int .u16 r.mx, .int .i64 r.cy, .int .i64 r.ba, .int .i64 r.bd, .int .i64 r.pr, .int .i64 r.rc] 31)
        clear hb6 c5 d0 B5 B6
        go_upto_region 14 with fail
        generalize w6.alloc (.cells #[.int .u16 r.mx, .int .i64 r.cy, .int .i64 r.ba, .int .i64 r.bd, .int .i64 r.pr, .int .i64 r.rc] 31) = w7 at *
        obtain ⟨w8, e8, k5', B8, hk8⟩ := six_set k5 (.int .u16 r.mx) (.int .i64 r.cy) (.int .i64 r.ba) (.int .i64 r.bd) (.int .i64 r.pr) (.int .i64 r.rc) w.heap.size hg
        have B9 := B7.trans B8
        have c5 := k5.cell
        have f5 := k5.frozen
        have c10 := k10.cell
        simp at c5 c10
        go_upto_region 15 with fail
        try rw [e8]
        clear e8 c5 f5 c10 k10 hk8 B7 B8 k5
        have c5 := k5'.cell
        simp at c5
        have hr3 : (r.rc != (k : Int) + 2) = false := by rw [bne_eq_false_iff_eq]; exact HR3.out
        go_wp2_with fail
        refine (HXT.out _).mono ?_
        rintro e w9 ⟨rfl, hb9⟩
        have k5 := k5'.below hb9 k5'.lt
        have B10 := below_then B9 hb9 (Nat.le_refl _)
        clear hb9 c5 B9 k5'
        have c5 := k5.cell
        simp at c5
        have hr8 : (ev != top' - z) = false := by rw [bne_eq_false_iff_eq]; exact HR8.out
        go_wp2_with fail
        all_goals
          refine (HH.out _).mono ?_
          rintro e w10 ⟨rfl, hb10⟩
          have k5 := k5.below hb10 k5.lt
          have B11 := below_then B10 hb10 (Nat.le_refl _)
          clear hb10 c5 B10 hr8 hr3
          have c5 := k5.cell
          simp at c5
          go_wp2_with fail
          refine (HE.out _).mono ?_
          rintro e w11 ⟨rfl, hb11⟩
          have k5 := k5.below hb11 k5.lt
          have B12 := below_then B11 hb11 (Nat.le_refl _)
          clear hb11 c5 B11
          go_wp2_with fail
          go_roundw
          case rel => exact ⟨k + 1, top', r, by omega, by omega, by go_num, (by first | rfl | (congr 1; omega) | (go_num)), u0, by omega, Lib.hid (by rw [HR1.out]; congr 1), k5, B12⟩
          case measure => simp only [intOf]; omega
      · obtain ⟨r, n, top', z, ev, hr1, hr2, hr3, hr4, hr5, hr6, hr7, hr8, hr9, hr10, hr11⟩ := HRR.out dd e0 (by omega)
        have hwn : IntKind.u16.wrap (top + dd) = n := by rw [← hr5]; simp [IntKind.wrap, IntKind.bits, IntKind.signed]
        have n0 : 0 ≤ n := by omega
        have n1 : n ≤ 65535 := by omega
        have HU := Lib.hid (fun W => source_Update q r n ((k : Int) + 1) true hqi (by omega) n0 n1 hr9 W)
        have HH := Lib.hid (fun W => source_Highest r ((k : Int) + 1 + 1) hr2 (by omega) top' hr10 W)
        have HE := Lib.hid (fun W => source_Expected r ((k : Int) + 1 + 1) hr2 (by omega) (top' - b + 1) hr11 W)
        have HXT := Lib.hid (fun W => source_Extend r n ((k : Int) + 1 + 1) hr2 (by omega) ev (by rw [hr10]; exact hr7) W)
        have hr4b := hr4
        rw [← mx_eq2] at hr4b
        have hr6b := hr6
        rw [← mx_eq2] at hr6b
        have u0 : b ≤ top' := by omega
        have u1 : top' ≤ 65535 + 3000 * ((k : Int) + 1) := by omega
        have z0 : 0 ≤ z := by omega
        have z1 : z ≤ 99 := by omega
        have HR1 := Lib.hid hr1
        have HR3 := Lib.hid hr3
        have HR8 := Lib.hid hr8
        clear hr1 hr2 hr3 hr5 hr7 hr8 hr9 hr10 hr11 hqi
        go_wp2_with fail
        refine (HU.out _).mono ?_
        rintro e w6 ⟨rfl, hb6⟩
        have k5 := k5.below hb6 k5.lt
        have B6 := below_then B5 hb6 (Nat.le_refl _)
        have k10 := Blk.new w6 31 #[.int .u16 r.mx, .int .i64 r.cy, .int .i64 r.ba, .int .i64 r.bd, .int .i64 r.pr, .int .i64 r.rc]
        have k5 := k5.alloc (.cells #[.int .u16 r.mx, .int .i64 r.cy, .int .i64 r.ba, .int .i64 r.bd, .int .i64 r.pr, .int .i64 r.rc] 31)
        have B7 := B6.alloc B6.size (.cells #[.int .u16 r.mx, .int .i64 r.cy, .int .i64 r.ba, .int .i64 r.bd, .int .i64 r.pr, .int .i64 r.rc] 31)
        clear hb6 c5 d0 B5 B6
        go_upto_region 14 with fail
        generalize w6.alloc (.cells #[.int .u16 r.mx, .int .i64 r.cy, .int .i64 r.ba, .int .i64 r.bd, .int .i64 r.pr, .int .i64 r.rc] 31) = w7 at *
        obtain ⟨w8, e8, k5', B8, hk8⟩ := six_set k5 (.int .u16 r.mx) (.int .i64 r.cy) (.int .i64 r.ba) (.int .i64 r.bd) (.int .i64 r.pr) (.int .i64 r.rc) w.heap.size hg
        have B9 := B7.trans B8
        have c5 := k5.cell
        have f5 := k5.frozen
        have c10 := k10.cell
        simp at c5 c10
        go_upto_region 15 with fail
        try rw [e8]
        clear e8 c5 f5 c10 k10 hk8 B7 B8 k5
        have c5 := k5'.cell
        simp at c5
        have hr3 : (r.rc != (k : Int) + 2) = false := by rw [bne_eq_false_iff_eq]; exact HR3.out
        go_wp2_with fail
        refine (HXT.out _).mono ?_
        rintro e w9 ⟨rfl, hb9⟩
        have k5 := k5'.below hb9 k5'.lt
        have B10 := below_then B9 hb9 (Nat.le_refl _)
        clear hb9 c5 B9 k5'
        have c5 := k5.cell
        simp at c5
        have hr8 : (ev != top' - z) = false := by rw [bne_eq_false_iff_eq]; exact HR8.out
        go_wp2_with fail
        all_goals
          refine (HH.out _).mono ?_
          rintro e w10 ⟨rfl, hb10⟩
          have k5 := k5.below hb10 k5.lt
          have B11 := below_then B10 hb10 (Nat.le_refl _)
          clear hb10 c5 B10 hr8 hr3
          have c5 := k5.cell
          simp at c5
          go_wp2_with fail
          refine (HE.out _).mono ?_
          rintro e w11 ⟨rfl, hb11⟩
          have k5 := k5.below hb11 k5.lt
          have B12 := below_then B11 hb11 (Nat.le_refl _)
          clear hb11 c5 B11
          go_wp2_with fail
          go_roundw
          case rel => exact ⟨k + 1, top', r, by omega, by omega, by go_num, (by first | rfl | (congr 1; omega) | (go_num)), u0, by omega, Lib.hid (by rw [HR1.out]; congr 1), k5, B12⟩
          case measure => simp only [intOf]; omega
    · have hge : k < a1l → 80 ≤ k := fun h => by omega
      clear hgo
      have hx : (k < a1l ∧ 80 ≤ k) ∨ k = a1l := by
        rcases Nat.lt_or_ge k a1l with h | h
        · exact .inl ⟨h, hge h⟩
        · exact .inr (by omega)
      clear hge
      rcases hx with ⟨h1, h2⟩ | h1
      · go_wp2_with fail
        go_ret
        exact ⟨rfl, B5⟩
      · subst h1
        go_wp2_with fail
        go_ret
        exact ⟨rfl, B5⟩
end Go.Proofs.Ythngobikokhdlaa
