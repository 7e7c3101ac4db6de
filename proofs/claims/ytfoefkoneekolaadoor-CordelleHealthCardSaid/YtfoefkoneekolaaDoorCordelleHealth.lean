/- The statement CordelleHealth, walked: it returns true. No condition but that the two tables stand. -/
import Derived.Test.YtfoefkoneekolaaDoorHealthP
import Derived.Deep.CutBlock
namespace Go.Proofs.YtfoefkoneekolaaDoor
open Go.RowKit BigFrame
attribute [local go_sem ↓] Go.wp_at_zero Go.wp_at_succ

set_option maxRecDepth 8000 in
set_option maxHeartbeats 12000000 in
theorem CordelleHealth_walk (a0 : Int) (a1a : Option Addr) (a1l a1c : Nat) (a1e0 : Nat → Bool) (a2 : Int) (w : World) (hT : Tabs w) (a0w : (Lit.int .u16 a0).wf = true) (a1S : SliceOf w a1a a1l a1c 1 (fun i => [.bool (a1e0 i)])) (a2w : (Lit.int .i64 a2).wf = true) :
    Calls Tryd.prog 3 #[.int .u16 a0, .slice a1a a1l a1c, .int .i64 a2] w fun e w' => e = .returned (.bool true) ∧ Below w.heap.size w w' := by
  obtain ⟨f0, f1⟩ := wf_u16 a0w
  have hl := a1S.size_le
  obtain ⟨b, hb⟩ : ∃ b, (a0 + 1) % 65536 = b := ⟨_, rfl⟩
  have b0 : 0 ≤ b := by omega
  have b1 : b ≤ 65535 := by omega
  have hwb : IntKind.u16.wrap (a0 + 1) = b := by rw [← hb]; simp [IntKind.wrap, IntKind.bits, IntKind.signed]
  have hst := cS_start a0 f0 f1
  rw [hb] at hst
  obtain ⟨m, hm⟩ : ∃ m, (if 65535 < a2 then 65535 else a2) = m := ⟨_, rfl⟩
  obtain ⟨z, hz⟩ : ∃ z, (if 1 < m then m else 1) = z := ⟨_, rfl⟩
  have hcz : clipI a2 1 65535 = z := by
    unfold clipI
    rw [← hz, ← hm]
    split <;> split <;> omega
  have HCZ := Lib.hid hcz
  have HN := Lib.hid (fun W => source_New a0 f0 f1 (newS a0) rfl W)
  have HR := Lib.hid (fun W g hS => source_Run (newS a0) (cS b b 0) (some ⟨g, 0, none⟩) 2 2 (fun i => if i = 0 then a0 else b) 0 1 (by omega) (by omega) (newS_in a0 f0 f1) (fun i _ => by split <;> omega) hst W hS)
  obtain ⟨f00, hf00⟩ : ∃ f, fracI (1 - 0) ((cS b b 0).rc - 0) = f := ⟨_, rfl⟩
  have HT0 := Lib.hid (fun W => tally_Next 0 0 (cS b b 0) (0 + 1) (cS_in b b 0 b0 (by omega) (by omega) b0 b1) (by omega) 1 (by unfold expS cS; simp only; rw [if_neg (by omega)]; omega) (by omega) (by omega) (by omega) (by omega) (by omega) (by omega) f00 0 hf00 (by unfold clipI cS; simp only; omega) W)
  have HF := Lib.hid (fun W => loss_Fraction 4 0 255 (by decide) W)
  have HL0 := Lib.hid (fun W => life_New 0 0 (by decide) W)
  have HS := Lib.hid a1S
  have HTB := Lib.hid hT
  obtain ⟨q0, hq0⟩ : ∃ q0, cS b b 0 = q0 := ⟨_, rfl⟩
  have hrc0 : q0.rc = 1 := by rw [← hq0]; rfl
  rw [hq0] at HR HT0
  have HQ0 := Lib.hid hq0
  have HRC0 := Lib.hid hrc0
  clear a1S a0w a2w hst hq0 hf00 hT hb hrc0 hcz
  go_enter Tryd.func3, Tryd.ntmps3
  go_upto_region 2 with fail
  have kc := Blk.new w 25 #[.int .i64 1000, .int .i64 10, .int .i64 100, .int .i64 3]
  have B1 := (Below.refl w.heap.size w).alloc (Nat.le_refl _) (.cells #[.int .i64 1000, .int .i64 10, .int .i64 100, .int .i64 3] 25)
  generalize w.alloc (.cells #[.int .i64 1000, .int .i64 10, .int .i64 100, .int .i64 3] 25) = w1 at *
  go_wp2_with fail
  refine (HN.out _).mono ?_
  rintro e w2 ⟨rfl, hb2⟩
  have kc := kc.below hb2 kc.lt
  have B2 := below_then B1 hb2 (Nat.le_refl _)
  clear hb2 B1
  go_wp2_with fail
  refine (HR.out _ _ (SliceOf.litF (n := 2) (Blk.new w2 22 #[.int .u16 a0, .int .u16 b]) rfl (by decide) (fun i => .int .u16 (if i = 0 then a0 else b)) (fun i hi => by
    match i, hi with
    | 0, _ => rfl
    | 1, _ => rfl))).mono ?_
  rintro e w3 ⟨rfl, hb3⟩
  have kc := kc.alloc (.cells #[.int .u16 a0, .int .u16 b] 22)
  have kc := kc.below hb3 kc.lt
  have B3 : Below w.heap.size w w3 := (B2.alloc B2.size _).trans (hb3.mono (Nat.le_trans B2.size (by simp)))
  clear hb3 B2
  have k5 := Blk.new w3 27 #[.int .u16 q0.mx, .int .i64 q0.cy, .int .i64 q0.ba, .int .i64 q0.bd, .int .i64 q0.pr, .int .i64 q0.rc]
  have kc := kc.alloc (.cells #[.int .u16 q0.mx, .int .i64 q0.cy, .int .i64 q0.ba, .int .i64 q0.bd, .int .i64 q0.pr, .int .i64 q0.rc] 27)
  have hgs : w.heap.size ≤ w3.heap.size := B3.size
  have B4 := B3.alloc B3.size (.cells #[.int .u16 q0.mx, .int .i64 q0.cy, .int .i64 q0.ba, .int .i64 q0.bd, .int .i64 q0.pr, .int .i64 q0.rc] 27)
  go_upto_region 3 with fail
  generalize w3.alloc (.cells #[.int .u16 q0.mx, .int .i64 q0.cy, .int .i64 q0.ba, .int .i64 q0.bd, .int .i64 q0.pr, .int .i64 q0.rc] 27) = w4 at *
  generalize w3.heap.size = gs at *
  go_upto_region 5 with (go_at_call 6; ((with_reducible refine (HF.out _).mono ?_); rintro e w' ⟨rfl, rfl⟩))
  have c5 := k5.cell
  simp at c5
  go_wp2_with fail
  refine (HT0.out _).mono ?_
  rintro e w5 ⟨rfl, hb5⟩
  have kc := kc.below hb5 kc.lt
  have k5 := k5.below hb5 k5.lt
  have B5 := below_then B4 hb5 (Nat.le_refl _)
  clear hb5 c5 B3 B4
  have k9 := Blk.new w5 33 #[.int .i64 1, .int .i64 q0.rc]
  have kc := kc.alloc (.cells #[.int .i64 1, .int .i64 q0.rc] 33)
  have k5 := k5.alloc (.cells #[.int .i64 1, .int .i64 q0.rc] 33)
  have hgt : w.heap.size ≤ w5.heap.size := B5.size
  have B6 := B5.alloc B5.size (.cells #[.int .i64 1, .int .i64 q0.rc] 33)
  go_upto_region 6 with fail
  generalize w5.alloc (.cells #[.int .i64 1, .int .i64 q0.rc] 33) = w6 at *
  generalize w5.heap.size = gt at *
  clear B5
  go_wp2_with fail
  refine (HL0.out _).mono ?_
  rintro e w7 ⟨rfl, hb7⟩
  have kc := kc.below hb7 kc.lt
  have k5 := k5.below hb7 k5.lt
  have k9 := k9.below hb7 k9.lt
  have B7 := below_then B6 hb7 (Nat.le_refl _)
  clear hb7 B6
  have kl := Blk.new w7 37 #[.int .i64 0, .int .i64 0, .int .i64 0]
  have kc := kc.alloc (.cells #[.int .i64 0, .int .i64 0, .int .i64 0] 37)
  have k5 := k5.alloc (.cells #[.int .i64 0, .int .i64 0, .int .i64 0] 37)
  have k9 := k9.alloc (.cells #[.int .i64 0, .int .i64 0, .int .i64 0] 37)
  have hgl : w.heap.size ≤ w7.heap.size := B7.size
  have B8 := B7.alloc B7.size (.cells #[.int .i64 0, .int .i64 0, .int .i64 0] 37)
  go_upto_region 7 with fail
  generalize w7.alloc (.cells #[.int .i64 0, .int .i64 0, .int .i64 0] 37) = w8 at *
  generalize w7.heap.size = gl at *
  clear B7
  go_wp2_with fail
  refine (share_New _).mono ?_
  rintro e w9 ⟨gh, rfl, hgh, kh, hb9⟩
  have H0 : HW w w9 gs gt gl gh q0 1 q0.rc ⟨0, 0, 0⟩ := ⟨kc.below hb9 kc.lt, k5.below hb9 k5.lt, k9.below hb9 k9.lt, kl.below hb9 kl.lt, ⟨_, kh, .inl rfl⟩, hgs, hgt, hgl, Nat.le_trans B8.size hgh, below_then B8 hb9 (Nat.le_refl _)⟩
  clear kc k5 k9 kl kh hb9 B8 hgs hgt hgl hgh
  go_wp2_with fail
  go_loopw [14, 15, 17] (fun sq sr si wr => ∃ (k : Nat) (n row c t0 t1 : Int) (q : S6) (x : L3), k ≤ a1l ∧ k ≤ 40 ∧ si = .int .i64 k ∧ sr = .int .i64 row ∧ sq = .int .u16 n ∧ Hid (n = (b + (10 * k : Nat)) % 65536) ∧ Hid (q = cS (b + 10 * k) b c) ∧ (k : Int) ≤ c ∧ c ≤ 10 * k ∧ Hid (t0 = 10 * k + 1) ∧ Hid (t1 = c + 1) ∧ LI row x ∧ HW w wr gs gt gl gh q t0 t1 x) (fun _ _ si _ => a1l - (intOf si).toNat)
  case atStart => exact ⟨0, b, 0, 0, 1, q0.rc, q0, ⟨0, 0, 0⟩, by omega, by omega, rfl, rfl, rfl, Lib.hid (by simp; omega), Lib.hid (by rw [← HQ0.out]; simp), by omega, by omega, Lib.hid (by simp), Lib.hid (by rw [HRC0.out]; simp), ⟨⟨by simp, by simp, by simp, by simp⟩, by omega, .inr ⟨rfl, by omega⟩⟩, H0⟩
  case round =>
    clear H0
    obtain ⟨k, n, row, c, t0, t1, q, x, hk, hk4, rfl, rfl, rfl, Hn, HQ, hc0, hc1, Ht0, Ht1, HLI, H⟩ := hrel
    by_cases hgo : k < a1l ∧ k < 40
    · obtain ⟨hlt, h40⟩ := hgo
      obtain ⟨bb, off, rfl, hbb, hcell⟩ := HS.out.at1 (by omega)
      obtain ⟨y, hy⟩ : ∃ y, a1e0 k = y := ⟨_, rfl⟩
      have hcy := hcell k hlt
      rw [hy] at hcy
      have HCY := Lib.hid hcy
      clear hcell hy hcy
      have i0 : (0 : Int) ≤ (k : Int) := by omega
      have i1 : (k : Int) < (a1l : Int) := by omega
      have i2 : (k : Int) < 40 := by omega
      obtain ⟨wl, hwl⟩ : ∃ wl, wl = wr := ⟨_, rfl⟩
      subst hwl
      go_wp2_with fail
      go_loopw [14, 61] (fun sq sj w2 => ∃ (j : Nat) (n2 : Int) (q2 : S6), j ≤ 10 ∧ sj = .int .i64 j ∧ sq = .int .u16 n2 ∧ Hid (n2 = (b + (10 * k + j : Nat)) % 65536) ∧ Hid (q2 = cS (topY y b k j) b (cntY y c j)) ∧ HW w w2 gs gt gl gh q2 t0 t1 x) (fun _ sj _ => 10 - (intOf sj).toNat)
      case atStart => exact ⟨0, n, q, by omega, rfl, rfl, Lib.hid (by rw [Hn.out]; simp), Lib.hid (by rw [(srcY_start y b c k).1, (srcY_start y b c k).2]; exact HQ.out), H⟩
      case round =>
        clear H Hn HQ
        obtain ⟨j, n2, q2, hj, rfl, rfl, Hn, HQ, H⟩ := hrel
        by_cases hj10 : j < 10
        · have j0 : (0 : Int) ≤ (j : Int) := by omega
          have j1 : (j : Int) < 10 := by omega
          obtain ⟨n3, hn3⟩ : ∃ n3, (b + (10 * k + (j + 1) : Nat)) % 65536 = n3 := ⟨_, rfl⟩
          have n30 : 0 ≤ n3 := by omega
          have n31 : n3 ≤ 65535 := by omega
          have hwn : IntKind.u16.wrap (n2 + 1) = n3 := by
            have := Hn.out
            rw [show IntKind.u16.wrap (n2 + 1) = (n2 + 1) % 65536 by simp [IntKind.wrap, IntKind.bits, IntKind.signed]]
            omega
          have HN3 := Lib.hid hn3
          clear hn3
          have d0 := (H.b.cell (p := ⟨bb, off + k, none⟩) hbb).trans HCY.out
          by_cases hsk : y = true ∧ j < 9
          · obtain ⟨rfl, h9⟩ := hsk
            have j9 : (j : Int) < 9 := by omega
            go_wp2_with fail
            go_roundw
            case rel => exact ⟨j + 1, n3, q2, by omega, by go_num, rfl, Lib.hid HN3.out.symm, Lib.hid (by rw [(srcY_skip b c k j h9).1, (srcY_skip b c k j h9).2]; exact HQ.out), H⟩
            case measure => simp only [intOf]; omega
          · have hyj : y = true → j = 9 := fun h => by
              rcases Nat.lt_or_ge j 9 with h9 | h9
              · exact absurd ⟨h, h9⟩ hsk
              · omega
            obtain ⟨r, hr⟩ : ∃ r, cS (topY y b k (j + 1)) b (cntY y c (j + 1)) = r := ⟨_, rfl⟩
            have hup := srcY_upd y b c k j b0 hj10 hyj
            rw [← HQ.out, HN3.out, hr] at hup
            have hin := srcY_in y b c k j b0 b1 (by omega) hc0 hj q2 HQ.out
            have hcb := cntY_bd y c j k hj hc0 hc1
            have HU := Lib.hid (fun W => source_Update q2 r n3 (cntY y c j + 1) true hin (by omega) n30 n31 hup W)
            have HRR := Lib.hid hr
            clear hup hin hcb hr hsk
            have c5 := H.s.cell
            simp at c5
            cases y
            · clear hyj
              go_wp2_with fail
              refine (HU.out _).mono ?_
              rintro e w6 ⟨rfl, hb6⟩
              have H6 := H.below hb6
              clear hb6 c5 d0 H
              obtain ⟨w8, e8, k5', B8, hk8⟩ := six_set H6.s (.int .u16 r.mx) (.int .i64 r.cy) (.int .i64 r.ba) (.int .i64 r.bd) (.int .i64 r.pr) (.int .i64 r.rc) w.heap.size H6.ls
              have H8 := H6.setS k5' hk8 B8
              have c5 := H6.s.cell
              have f5 := H6.s.frozen
              simp at c5
              go_upto_region 21 with fail
              try rw [e8]
              clear e8 c5 f5 hk8 B8 H6 k5'
              go_wp2_with fail
              go_roundw
              case rel => exact ⟨j + 1, n3, r, by omega, by go_num, rfl, Lib.hid HN3.out.symm, Lib.hid HRR.out.symm, H8⟩
              case measure => simp only [intOf]; omega
            · obtain rfl := hyj rfl
              go_wp2_with fail
              refine (HU.out _).mono ?_
              rintro e w6 ⟨rfl, hb6⟩
              have H6 := H.below hb6
              clear hb6 c5 d0 H
              obtain ⟨w8, e8, k5', B8, hk8⟩ := six_set H6.s (.int .u16 r.mx) (.int .i64 r.cy) (.int .i64 r.ba) (.int .i64 r.bd) (.int .i64 r.pr) (.int .i64 r.rc) w.heap.size H6.ls
              have H8 := H6.setS k5' hk8 B8
              have c5 := H6.s.cell
              have f5 := H6.s.frozen
              simp at c5
              go_upto_region 21 with fail
              try rw [e8]
              clear e8 c5 f5 hk8 B8 H6 k5'
              go_wp2_with fail
              go_roundw
              case rel => exact ⟨9 + 1, n3, r, by omega, by go_num, rfl, Lib.hid HN3.out.symm, Lib.hid HRR.out.symm, H8⟩
              case measure => simp only [intOf]; omega
        · obtain rfl : j = 10 := by omega
          clear hj10
          obtain ⟨hq1, hq2, hq3, hq4⟩ := srcY_end y b c k q2 HQ.out
          have hin := srcY_in y b c k 10 b0 b1 (by omega) hc0 (by omega) q2 HQ.out
          have hcb := cntY_bd y c 10 k (by omega) hc0 hc1
          obtain ⟨c2, hc2⟩ : ∃ c2, cntY y c 10 = c2 := ⟨_, rfl⟩
          rw [hc2] at hq1 hq3 hin hcb
          obtain ⟨hcb1, hcb2, hcb3⟩ := hcb
          have hcb3 := hcb3 rfl
          obtain ⟨v, hv⟩ : ∃ v, 10 * (k : Int) + 11 = v := ⟨_, rfl⟩
          rw [hv, ← Ht0.out, ← Ht1.out] at hq4
          rw [hv] at hq2
          obtain ⟨cl, hcl⟩ : ∃ cl, clipI (v - q2.rc) (-8388608) 8388607 = cl := ⟨_, rfl⟩
          have HT := Lib.hid (fun W => tally_Next t0 t1 q2 (c2 + 1) hin (by omega) v hq2 (by have := Ht0.out; omega) (by have := Ht0.out; omega) (by have := Ht1.out; omega) (by have := Ht1.out; omega) (by omega) (by omega) (frY y) cl hq4 hcl W)
          have HQ1 := Lib.hid hq1
          have HQ3 := Lib.hid hq3
          have HV := Lib.hid hv
          clear hq1 hq2 hq3 hq4 hin hc2 hv hcl HQ Ht0 Ht1
          cases y
          · have hfr : frY false = 0 := rfl
            rw [hfr] at HT
            clear hfr
            have c5 := H.s.cell
            have c9 := H.t.cell
            simp at c5 c9
            go_wp2_with fail
            refine (HT.out _).mono ?_
            rintro e w6 ⟨rfl, hb6⟩
            have H6 := H.below hb6
            clear hb6 c5 c9 H HT
            obtain ⟨w7, e7, kt', Bt, hkt⟩ := two_set H6.t rfl (.int .i64 v) (.int .i64 q2.rc) w.heap.size H6.lt
            have H7 := H6.setT kt' hkt Bt
            have c9 := H6.t.cell
            have f9 := H6.t.frozen
            simp at c9
            go_upto_region 24 with fail
            try rw [e7]
            clear e7 c9 f9 hkt Bt H6 kt'
            obtain ⟨r, hr⟩ : ∃ r, repL x ⟨1000, 10, 100, 3⟩ 0 (k : Int) = r := ⟨_, rfl⟩
            have HLR := Lib.hid (LI_good row x r k HLI (by omega) (by omega) hr)
            have HRP := Lib.hid (fun W hT => health_rep x r 0 k HLI.1 (by omega) (by omega) hr W hT)
            have hT7 := HTB.out.below H7.b HTB.out.1
            clear hr
            have cl := H7.l.cell
            have cc := H7.c.cell
            simp at cl cc
            go_wp2_with fail
            refine (HRP.out _ hT7).mono ?_
            rintro e w8 ⟨ok, rfl, hb8⟩
            have H8 := H7.below hb8
            clear hb8 cl cc H7 hT7 HRP
            obtain ⟨w9, e9, kl', Bl, hkl⟩ := three_set H8.l rfl (.int .i64 r.s) (.int .i64 r.h) (.int .i64 r.k) w.heap.size H8.ll
            have H9 := H8.setL kl' hkl Bl
            have cl := H8.l.cell
            have fl := H8.l.frozen
            simp at cl
            go_upto_region 25 with fail
            try rw [e9]
            clear e9 cl fl hkl Bl H8 kl'
            have d0 := (H9.b.cell (p := ⟨bb, off + k, none⟩) hbb).trans HCY.out
            have cl := H9.l.cell
            simp at cl
            obtain ⟨q, hq⟩ : ∃ q, weightL r.s z = q := ⟨_, rfl⟩
            obtain ⟨hLI, hss⟩ := HLR.out
            have hws := health_weights r hLI.1 a2 z q HCZ.out hq
            have HW1 := Lib.hid (fun W => health_weight r hLI.1 a2 z q HCZ.out hq W)
            have HSD := Lib.hid (fun W => health_sends r hLI.1 true hss W)
            obtain ⟨g1, g2, g3, g4, g5⟩ := hws
            rw [hss] at g1
            have g1 : 0 < q := by simpa using g1
            have HLIR := Lib.hid hLI
            clear hLI hss HLR hq
            go_wp2_with fail
            refine (HSD.out _).mono ?_
            rintro e wz ⟨rfl, hbz⟩
            have HX := H9.below hbz
            clear hbz H9 d0 cl
            have cl := HX.l.cell
            simp at cl
            go_wp2_with fail
            refine (HW1.out _).mono ?_
            rintro e wa ⟨rfl, hba⟩
            have Ha := HX.below hba
            have kw := Blk.new wa 49 #[.int .i64 1, .int .i64 q]
            have Hb := Ha.below ((Below.refl wa.heap.size wa).alloc (Nat.le_refl _) (.cells #[.int .i64 1, .int .i64 q] 49))
            clear hba Ha HX
            have HSET := Lib.hid (health_Set Hb kw)
            clear Hb kw
            go_wp2_with fail
            refine HSET.out.mono ?_
            rintro e wb ⟨ys, rfl, Hc⟩
            clear HSET
            have cl := Hc.l.cell
            simp at cl
            go_wp2_with fail
            refine (HW1.out _).mono ?_
            rintro e wc ⟨rfl, hbc⟩
            have Hd := Hc.below hbc
            clear hbc Hc cl
            have cl := Hd.l.cell
            simp at cl
            go_upto_region 34 with fail
            go_wp2_with fail
            refine (HSD.out _).mono ?_
            rintro e wd ⟨rfl, hbd⟩
            have He := Hd.below hbd
            clear hbd Hd cl
            go_wp2_with fail
            go_roundw
            case rel => exact ⟨k + 1, n2, 0, c2, v, q2.rc, q2, r, by omega, by omega, by go_num, rfl, rfl, Lib.hid (by rw [Hn.out, show 10 * k + 10 = 10 * (k + 1) by omega]), Lib.hid HQ1.out, by omega, by omega, Lib.hid (by rw [← HV.out]; omega), Lib.hid (by have := HQ3.out; omega), HLIR.out, He⟩
            case measure => simp only [intOf]; omega
          · have hfr : frY true = 230 := rfl
            rw [hfr] at HT
            clear hfr
            have c5 := H.s.cell
            have c9 := H.t.cell
            simp at c5 c9
            go_wp2_with fail
            refine (HT.out _).mono ?_
            rintro e w6 ⟨rfl, hb6⟩
            have H6 := H.below hb6
            clear hb6 c5 c9 H HT
            obtain ⟨w7, e7, kt', Bt, hkt⟩ := two_set H6.t rfl (.int .i64 v) (.int .i64 q2.rc) w.heap.size H6.lt
            have H7 := H6.setT kt' hkt Bt
            have c9 := H6.t.cell
            have f9 := H6.t.frozen
            simp at c9
            go_upto_region 24 with fail
            try rw [e7]
            clear e7 c9 f9 hkt Bt H6 kt'
            obtain ⟨r, hr⟩ : ∃ r, repL x ⟨1000, 10, 100, 3⟩ 230 (k : Int) = r := ⟨_, rfl⟩
            have HLR := Lib.hid (LI_bad row x r k HLI (by omega) (by omega) hr)
            have HRP := Lib.hid (fun W hT => health_rep x r 230 k HLI.1 (by omega) (by omega) hr W hT)
            have hT7 := HTB.out.below H7.b HTB.out.1
            clear hr
            have cl := H7.l.cell
            have cc := H7.c.cell
            simp at cl cc
            go_wp2_with fail
            refine (HRP.out _ hT7).mono ?_
            rintro e w8 ⟨ok, rfl, hb8⟩
            have H8 := H7.below hb8
            clear hb8 cl cc H7 hT7 HRP
            obtain ⟨w9, e9, kl', Bl, hkl⟩ := three_set H8.l rfl (.int .i64 r.s) (.int .i64 r.h) (.int .i64 r.k) w.heap.size H8.ll
            have H9 := H8.setL kl' hkl Bl
            have cl := H8.l.cell
            have fl := H8.l.frozen
            simp at cl
            go_upto_region 25 with fail
            try rw [e9]
            clear e9 cl fl hkl Bl H8 kl'
            have d0 := (H9.b.cell (p := ⟨bb, off + k, none⟩) hbb).trans HCY.out
            have cl := H9.l.cell
            simp at cl
            obtain ⟨q, hq⟩ : ∃ q, weightL r.s z = q := ⟨_, rfl⟩
            obtain ⟨hLI, hs3⟩ := HLR.out
            have hK := hLI.1
            obtain ⟨ss, hss⟩ : ∃ ss, (r.s != 3) = ss := ⟨_, rfl⟩
            have hws := health_weights r hK a2 z q HCZ.out hq
            have HW1 := Lib.hid (fun W => health_weight r hK a2 z q HCZ.out hq W)
            have HSD := Lib.hid (fun W => health_sends r hK ss hss W)
            obtain ⟨g1, g2, g3, g4, g5⟩ := hws
            rw [hss] at g1
            have HLIR := Lib.hid hLI
            have hs4 : row = 2 → ss = false := fun h => by rw [← hss, hs3 h]; rfl
            clear hs3
            have hw0 := HLI.2.1
            clear hLI HLR hq hK hss
            obtain rfl | rfl | rfl | rfl : row = 0 ∨ row = 1 ∨ row = 2 ∨ row = 3 := by omega
            · clear hw0
              clear hs4
              cases ss
              · have g1 : q ≤ 0 := by simpa using g1
                have HX := H9
                clear H9
                go_wp2_with fail
                refine (HW1.out _).mono ?_
                rintro e wa ⟨rfl, hba⟩
                have Ha := HX.below hba
                have kw := Blk.new wa 49 #[.int .i64 1, .int .i64 q]
                have Hb := Ha.below ((Below.refl wa.heap.size wa).alloc (Nat.le_refl _) (.cells #[.int .i64 1, .int .i64 q] 49))
                clear hba Ha HX d0 cl
                have HSET := Lib.hid (health_Set Hb kw)
                clear Hb kw
                go_wp2_with fail
                refine HSET.out.mono ?_
                rintro e wb ⟨ys, rfl, Hc⟩
                clear HSET
                have cl := Hc.l.cell
                simp at cl
                go_wp2_with fail
                refine (HW1.out _).mono ?_
                rintro e wc ⟨rfl, hbc⟩
                have Hd := Hc.below hbc
                clear hbc Hc cl
                have cl := Hd.l.cell
                simp at cl
                go_upto_region 34 with fail
                go_wp2_with fail
                refine (HSD.out _).mono ?_
                rintro e wd ⟨rfl, hbd⟩
                have He := Hd.below hbd
                clear hbd Hd cl
                go_wp2_with fail
                go_roundw
                case rel => exact ⟨k + 1, n2, 1, c2, v, q2.rc, q2, r, by omega, by omega, by go_num, rfl, rfl, Lib.hid (by rw [Hn.out, show 10 * k + 10 = 10 * (k + 1) by omega]), Lib.hid HQ1.out, by omega, by omega, Lib.hid (by rw [← HV.out]; omega), Lib.hid (by have := HQ3.out; omega), HLIR.out, He⟩
                case measure => simp only [intOf]; omega
              · have g1 : 0 < q := by simpa using g1
                have HX := H9
                clear H9
                go_wp2_with fail
                refine (HW1.out _).mono ?_
                rintro e wa ⟨rfl, hba⟩
                have Ha := HX.below hba
                have kw := Blk.new wa 49 #[.int .i64 1, .int .i64 q]
                have Hb := Ha.below ((Below.refl wa.heap.size wa).alloc (Nat.le_refl _) (.cells #[.int .i64 1, .int .i64 q] 49))
                clear hba Ha HX d0 cl
                have HSET := Lib.hid (health_Set Hb kw)
                clear Hb kw
                go_wp2_with fail
                refine HSET.out.mono ?_
                rintro e wb ⟨ys, rfl, Hc⟩
                clear HSET
                have cl := Hc.l.cell
                simp at cl
                go_wp2_with fail
                refine (HW1.out _).mono ?_
                rintro e wc ⟨rfl, hbc⟩
                have Hd := Hc.below hbc
                clear hbc Hc cl
                have cl := Hd.l.cell
                simp at cl
                go_upto_region 34 with fail
                go_wp2_with fail
                refine (HSD.out _).mono ?_
                rintro e wd ⟨rfl, hbd⟩
                have He := Hd.below hbd
                clear hbd Hd cl
                go_wp2_with fail
                go_roundw
                case rel => exact ⟨k + 1, n2, 1, c2, v, q2.rc, q2, r, by omega, by omega, by go_num, rfl, rfl, Lib.hid (by rw [Hn.out, show 10 * k + 10 = 10 * (k + 1) by omega]), Lib.hid HQ1.out, by omega, by omega, Lib.hid (by rw [← HV.out]; omega), Lib.hid (by have := HQ3.out; omega), HLIR.out, He⟩
                case measure => simp only [intOf]; omega
            · clear hw0
              clear hs4
              cases ss
              · have g1 : q ≤ 0 := by simpa using g1
                have HX := H9
                clear H9
                go_wp2_with fail
                refine (HW1.out _).mono ?_
                rintro e wa ⟨rfl, hba⟩
                have Ha := HX.below hba
                have kw := Blk.new wa 49 #[.int .i64 1, .int .i64 q]
                have Hb := Ha.below ((Below.refl wa.heap.size wa).alloc (Nat.le_refl _) (.cells #[.int .i64 1, .int .i64 q] 49))
                clear hba Ha HX d0 cl
                have HSET := Lib.hid (health_Set Hb kw)
                clear Hb kw
                go_wp2_with fail
                refine HSET.out.mono ?_
                rintro e wb ⟨ys, rfl, Hc⟩
                clear HSET
                have cl := Hc.l.cell
                simp at cl
                go_wp2_with fail
                refine (HW1.out _).mono ?_
                rintro e wc ⟨rfl, hbc⟩
                have Hd := Hc.below hbc
                clear hbc Hc cl
                have cl := Hd.l.cell
                simp at cl
                go_upto_region 34 with fail
                go_wp2_with fail
                refine (HSD.out _).mono ?_
                rintro e wd ⟨rfl, hbd⟩
                have He := Hd.below hbd
                clear hbd Hd cl
                go_wp2_with fail
                go_roundw
                case rel => exact ⟨k + 1, n2, 2, c2, v, q2.rc, q2, r, by omega, by omega, by go_num, rfl, rfl, Lib.hid (by rw [Hn.out, show 10 * k + 10 = 10 * (k + 1) by omega]), Lib.hid HQ1.out, by omega, by omega, Lib.hid (by rw [← HV.out]; omega), Lib.hid (by have := HQ3.out; omega), HLIR.out, He⟩
                case measure => simp only [intOf]; omega
              · have g1 : 0 < q := by simpa using g1
                have HX := H9
                clear H9
                go_wp2_with fail
                refine (HW1.out _).mono ?_
                rintro e wa ⟨rfl, hba⟩
                have Ha := HX.below hba
                have kw := Blk.new wa 49 #[.int .i64 1, .int .i64 q]
                have Hb := Ha.below ((Below.refl wa.heap.size wa).alloc (Nat.le_refl _) (.cells #[.int .i64 1, .int .i64 q] 49))
                clear hba Ha HX d0 cl
                have HSET := Lib.hid (health_Set Hb kw)
                clear Hb kw
                go_wp2_with fail
                refine HSET.out.mono ?_
                rintro e wb ⟨ys, rfl, Hc⟩
                clear HSET
                have cl := Hc.l.cell
                simp at cl
                go_wp2_with fail
                refine (HW1.out _).mono ?_
                rintro e wc ⟨rfl, hbc⟩
                have Hd := Hc.below hbc
                clear hbc Hc cl
                have cl := Hd.l.cell
                simp at cl
                go_upto_region 34 with fail
                go_wp2_with fail
                refine (HSD.out _).mono ?_
                rintro e wd ⟨rfl, hbd⟩
                have He := Hd.below hbd
                clear hbd Hd cl
                go_wp2_with fail
                go_roundw
                case rel => exact ⟨k + 1, n2, 2, c2, v, q2.rc, q2, r, by omega, by omega, by go_num, rfl, rfl, Lib.hid (by rw [Hn.out, show 10 * k + 10 = 10 * (k + 1) by omega]), Lib.hid HQ1.out, by omega, by omega, Lib.hid (by rw [← HV.out]; omega), Lib.hid (by have := HQ3.out; omega), HLIR.out, He⟩
                case measure => simp only [intOf]; omega
            · clear hw0
              obtain rfl := hs4 rfl
              clear hs4
              have g1 : q ≤ 0 := by simpa using g1
              go_wp2_with fail
              refine (HSD.out _).mono ?_
              rintro e wz ⟨rfl, hbz⟩
              have HX := H9.below hbz
              clear hbz H9 d0 cl
              have cl := HX.l.cell
              simp at cl
              go_wp2_with fail
              refine (HW1.out _).mono ?_
              rintro e wa ⟨rfl, hba⟩
              have Ha := HX.below hba
              have kw := Blk.new wa 49 #[.int .i64 1, .int .i64 q]
              have Hb := Ha.below ((Below.refl wa.heap.size wa).alloc (Nat.le_refl _) (.cells #[.int .i64 1, .int .i64 q] 49))
              clear hba Ha HX
              have HSET := Lib.hid (health_Set Hb kw)
              clear Hb kw
              go_wp2_with fail
              refine HSET.out.mono ?_
              rintro e wb ⟨ys, rfl, Hc⟩
              clear HSET
              have cl := Hc.l.cell
              simp at cl
              go_wp2_with fail
              refine (HW1.out _).mono ?_
              rintro e wc ⟨rfl, hbc⟩
              have Hd := Hc.below hbc
              clear hbc Hc cl
              have cl := Hd.l.cell
              simp at cl
              go_upto_region 34 with fail
              go_wp2_with fail
              refine (HSD.out _).mono ?_
              rintro e wd ⟨rfl, hbd⟩
              have He := Hd.below hbd
              clear hbd Hd cl
              go_wp2_with fail
              go_roundw
              case rel => exact ⟨k + 1, n2, 3, c2, v, q2.rc, q2, r, by omega, by omega, by go_num, rfl, rfl, Lib.hid (by rw [Hn.out, show 10 * k + 10 = 10 * (k + 1) by omega]), Lib.hid HQ1.out, by omega, by omega, Lib.hid (by rw [← HV.out]; omega), Lib.hid (by have := HQ3.out; omega), HLIR.out, He⟩
              case measure => simp only [intOf]; omega
            · clear hw0
              clear hs4
              cases ss
              · have g1 : q ≤ 0 := by simpa using g1
                have HX := H9
                clear H9
                go_wp2_with fail
                refine (HW1.out _).mono ?_
                rintro e wa ⟨rfl, hba⟩
                have Ha := HX.below hba
                have kw := Blk.new wa 49 #[.int .i64 1, .int .i64 q]
                have Hb := Ha.below ((Below.refl wa.heap.size wa).alloc (Nat.le_refl _) (.cells #[.int .i64 1, .int .i64 q] 49))
                clear hba Ha HX d0 cl
                have HSET := Lib.hid (health_Set Hb kw)
                clear Hb kw
                go_wp2_with fail
                refine HSET.out.mono ?_
                rintro e wb ⟨ys, rfl, Hc⟩
                clear HSET
                have cl := Hc.l.cell
                simp at cl
                go_wp2_with fail
                refine (HW1.out _).mono ?_
                rintro e wc ⟨rfl, hbc⟩
                have Hd := Hc.below hbc
                clear hbc Hc cl
                have cl := Hd.l.cell
                simp at cl
                go_upto_region 34 with fail
                go_wp2_with fail
                refine (HSD.out _).mono ?_
                rintro e wd ⟨rfl, hbd⟩
                have He := Hd.below hbd
                clear hbd Hd cl
                go_wp2_with fail
                go_roundw
                case rel => exact ⟨k + 1, n2, 3, c2, v, q2.rc, q2, r, by omega, by omega, by go_num, rfl, rfl, Lib.hid (by rw [Hn.out, show 10 * k + 10 = 10 * (k + 1) by omega]), Lib.hid HQ1.out, by omega, by omega, Lib.hid (by rw [← HV.out]; omega), Lib.hid (by have := HQ3.out; omega), HLIR.out, He⟩
                case measure => simp only [intOf]; omega
              · have g1 : 0 < q := by simpa using g1
                have HX := H9
                clear H9
                go_wp2_with fail
                refine (HW1.out _).mono ?_
                rintro e wa ⟨rfl, hba⟩
                have Ha := HX.below hba
                have kw := Blk.new wa 49 #[.int .i64 1, .int .i64 q]
                have Hb := Ha.below ((Below.refl wa.heap.size wa).alloc (Nat.le_refl _) (.cells #[.int .i64 1, .int .i64 q] 49))
                clear hba Ha HX d0 cl
                have HSET := Lib.hid (health_Set Hb kw)
                clear Hb kw
                go_wp2_with fail
                refine HSET.out.mono ?_
                rintro e wb ⟨ys, rfl, Hc⟩
                clear HSET
                have cl := Hc.l.cell
                simp at cl
                go_wp2_with fail
                refine (HW1.out _).mono ?_
                rintro e wc ⟨rfl, hbc⟩
                have Hd := Hc.below hbc
                clear hbc Hc cl
                have cl := Hd.l.cell
                simp at cl
                go_upto_region 34 with fail
                go_wp2_with fail
                refine (HSD.out _).mono ?_
                rintro e wd ⟨rfl, hbd⟩
                have He := Hd.below hbd
                clear hbd Hd cl
                go_wp2_with fail
                go_roundw
                case rel => exact ⟨k + 1, n2, 3, c2, v, q2.rc, q2, r, by omega, by omega, by go_num, rfl, rfl, Lib.hid (by rw [Hn.out, show 10 * k + 10 = 10 * (k + 1) by omega]), Lib.hid HQ1.out, by omega, by omega, Lib.hid (by rw [← HV.out]; omega), Lib.hid (by have := HQ3.out; omega), HLIR.out, He⟩
                case measure => simp only [intOf]; omega
    · have p1 : ¬ ((k : Int) < (a1l : Int) ∧ (k : Int) < 40) := by omega
      by_cases hz : k < a1l
      · have p2 : ¬ ((k : Int) < 40) := by omega
        have p3 : (k : Int) < (a1l : Int) := by omega
        go_wp2_with fail
        go_ret
        exact ⟨rfl, H.b⟩
      · have p2 : ¬ ((k : Int) < (a1l : Int)) := by omega
        go_wp2_with fail
        go_ret
        exact ⟨rfl, H.b⟩
end Go.Proofs.YtfoefkoneekolaaDoor
