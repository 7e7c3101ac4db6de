/- The statement LossSums, walked: it returns true. No condition but the frame's. -/
import Derived.Test.YthngobikokhdlaaSourceCounts
import Derived.Test.YthngobikokhdlaaLossTally
namespace Go.Proofs.Ythngobikokhdlaa
open Go.RowKit
attribute [local go_sem ↓] Go.wp_at_zero Go.wp_at_succ

theorem u16_and7 (n : Int) : bits .and .u16 n 7 = n % 8 := by
  have hm : (BitVec.ofInt 16 7).toNat = 2 ^ 3 - 1 := by decide
  have key : (BitVec.ofInt 16 n &&& BitVec.ofInt 16 7).toNat = (n % ((2 ^ 16 : Nat) : Int)).toNat % 2 ^ 3 := by
    rw [BitVec.toNat_and, BitVec.toNat_ofInt, hm, Nat.and_two_pow_sub_one_eq_mod]
  show IntKind.u16.wrap ((BitVec.ofInt 16 n &&& BitVec.ofInt 16 7).toNat : Nat) = n % 8
  rw [key]
  simp only [IntKind.wrap, IntKind.bits, IntKind.signed]
  simp
  omega

/-- What holds of the statement's source behind k rounds of which c were told, L lost ahead of the last one told and S behind it. -/
theorem sum_next (b : Int) (b0 : 0 ≤ b) (b1 : b ≤ 65535) (c L S : Nat) (hk : c + L + S < 100) (hL : L ≤ 100 * c) (q : S6) (hq : q = cS (b + c + L) b c) :
    ∃ (n : Int) (r : S6), (b + (c + L + S : Nat) + 1) % 65536 = n ∧ 0 ≤ n ∧ n ≤ 65535 ∧ r = cS (b + (c + 1 : Nat) + (L + S : Nat)) b (c + 1 : Nat) ∧ InS (c + 1 : Int) q ∧ InS (c + 1 + 1 : Int) r ∧ updS q n = (r, true) ∧ expS r = (c : Int) + L + S + 2 ∧ r.rc = (c : Int) + 2 := by
  refine ⟨_, _, rfl, by omega, by omega, rfl, ?_, ?_, ?_, ?_, ?_⟩
  · rw [hq]; exact cS_in _ b c (by omega) (by omega) (by omega) b0 b1
  · have := cS_in (b + (c + 1 : Nat) + (L + S : Nat)) b (c + 1 : Nat) (by omega) (by omega) (by omega) b0 b1
    have e : (((c + 1 : Nat) : Int) + 1) = (c : Int) + 1 + 1 := by omega
    rw [e] at this
    exact this
  · have := cS_upd (b + c + L) b c ((S : Int) + 1) (by omega) (by omega) (by omega)
    have e1 : (b + c + L + ((S : Int) + 1)) % 65536 = (b + (c + L + S : Nat) + 1) % 65536 := by congr 1; omega
    have e2 : max (b + c + L) (b + c + L + ((S : Int) + 1)) = b + (c + 1 : Nat) + (L + S : Nat) := by omega
    have e3 : (c : Int) + 1 = (c + 1 : Nat) := by omega
    rw [e1, e2, e3] at this
    rw [hq]
    exact this
  · unfold expS cS; simp only; rw [if_neg (by omega)]; omega
  · unfold cS; simp only; omega
theorem sum_exp (b : Int) (c L : Nat) : expS (cS (b + c + L) b c) = (c : Int) + L + 1 := by
  unfold expS cS; simp only; rw [if_neg (by omega)]; omega

set_option maxRecDepth 8000 in
set_option maxHeartbeats 8000000 in
theorem LossSums_walk (a0 : Int) (a1a : Option Addr) (a1l a1c : Nat) (a1e0 : Nat → Int) (a2a : Option Addr) (a2l a2c : Nat) (a2e0 : Nat → Bool) (w : World) (a0w : (Lit.int .u16 a0).wf = true) (a1S : SliceOf w a1a a1l a1c 1 (fun i => [.int .u16 (a1e0 i)])) (a1F0 : ∀ i, i < a1l → (Lit.int .u16 (a1e0 i)).wf = true) (a2S : SliceOf w a2a a2l a2c 1 (fun i => [.bool (a2e0 i)])) :
    Calls Try.prog 5 #[.int .u16 a0, .slice a1a a1l a1c, .slice a2a a2l a2c] w fun e w' => e = .returned (.bool true) ∧ Below w.heap.size w w' := by
  obtain ⟨f0, f1⟩ := wf_u16 a0w
  have hl1 := a1S.size_le
  have hl2 := a2S.size_le
  obtain ⟨b, hb⟩ : ∃ b, (a0 + 1) % 65536 = b := ⟨_, rfl⟩
  have b0 : 0 ≤ b := by omega
  have b1 : b ≤ 65535 := by omega
  have hwb : IntKind.u16.wrap (a0 + 1) = b := by rw [← hb]; simp [IntKind.wrap, IntKind.bits, IntKind.signed]
  have hst := cS_start a0 f0 f1
  rw [hb] at hst
  have HN := Lib.hid (fun W => source_New a0 f0 f1 (newS a0) rfl W)
  have HR := Lib.hid (fun W g hS => source_Run (newS a0) (cS b b 0) (some ⟨g, 0, none⟩) 2 2 (fun i => if i = 0 then a0 else b) 0 1 (by omega) (by omega) (newS_in a0 f0 f1) (fun i _ => by split <;> omega) hst W hS)
  have hc0 : cS b b 0 = cS (b + (0 : Nat) + (0 : Nat)) b (0 : Nat) := by simp
  obtain ⟨f00, hf00⟩ : ∃ f, fracI (1 - 0) ((cS b b 0).rc - 0) = f := ⟨_, rfl⟩
  have HT0 := Lib.hid (fun W => tally_Next 0 0 (cS b b 0) (0 + 1) (cS_in b b 0 b0 (by omega) (by omega) b0 b1) (by omega) 1 (by unfold expS cS; simp only; rw [if_neg (by omega)]; omega) (by omega) (by omega) (by omega) (by omega) (by omega) (by omega) f00 0 hf00 (by unfold clipI cS; simp only; omega) W)
  have hrc0 : (cS b b 0).rc = 1 := by unfold cS; simp only; omega
  have HS1 := Lib.hid a1S
  have HS2 := Lib.hid a2S
  have HF1 := Lib.hid a1F0
  obtain ⟨q0, hq0⟩ : ∃ q0, cS b b 0 = q0 := ⟨_, rfl⟩
  rw [hq0] at HR HT0 hrc0 hc0
  have HQ0 := Lib.hid hc0
  have rc00 : 0 ≤ q0.rc := by omega
  have rc01 : q0.rc ≤ 1000 := by omega
  clear a1S a2S a1F0 a0w hst hq0 hc0 hf00 hrc0
  go_enter Try.func5, Try.ntmps5
  go_wp2_with fail
  refine (law14_awake _).mono ?_
  rintro e w1 ⟨rfl, rfl⟩
  go_wp2_with fail
  refine (HN.out _).mono ?_
  rintro e w2 ⟨rfl, hb2⟩
  have B2 := hb2
  go_wp2_with fail
  refine (HR.out _ _ (SliceOf.litF (n := 2) (Blk.new w2 27 #[.int .u16 a0, .int .u16 b]) rfl (by decide) (fun i => .int .u16 (if i = 0 then a0 else b)) (fun i hi => by
    match i, hi with
    | 0, _ => rfl
    | 1, _ => rfl))).mono ?_
  rintro e w3 ⟨rfl, hb3⟩
  have B3 : Below w.heap.size w w3 := (B2.alloc B2.size _).trans (hb3.mono (Nat.le_trans B2.size (by simp)))
  clear hb2 hb3 B2
  have k5 := Blk.new w3 31 #[.int .u16 q0.mx, .int .i64 q0.cy, .int .i64 q0.ba, .int .i64 q0.bd, .int .i64 q0.pr, .int .i64 q0.rc]
  have hg := B3.size
  have B4 := B3.alloc B3.size (.cells #[.int .u16 q0.mx, .int .i64 q0.cy, .int .i64 q0.ba, .int .i64 q0.bd, .int .i64 q0.pr, .int .i64 q0.rc] 31)
  go_upto_region 4 with fail
  generalize w3.alloc (.cells #[.int .u16 q0.mx, .int .i64 q0.cy, .int .i64 q0.ba, .int .i64 q0.bd, .int .i64 q0.pr, .int .i64 q0.rc] 31) = w4 at *
  generalize w3.heap.size = g at *
  have c5 := k5.cell
  simp at c5
  go_wp2_with fail
  refine (HT0.out _).mono ?_
  rintro e w5 ⟨rfl, hb5⟩
  have k5 := k5.below hb5 k5.lt
  have B5 := below_then B4 hb5 (Nat.le_refl _)
  clear hb5 c5 B3 B4
  have k9 := Blk.new w5 36 #[.int .i64 1, .int .i64 q0.rc]
  have hgt := k5.lt
  have k5 := k5.alloc (.cells #[.int .i64 1, .int .i64 q0.rc] 36)
  have B5 := B5.alloc B5.size (.cells #[.int .i64 1, .int .i64 q0.rc] 36)
  go_upto_region 5 with fail
  generalize w5.alloc (.cells #[.int .i64 1, .int .i64 q0.rc] 36) = w6 at *
  generalize w5.heap.size = gt at *
  go_wp2_with fail
  go_loopw [12, 13, 14, 15] (fun xn xl xs i wr => ∃ (c L S : Nat) (q : S6) (t0 t1 : Int), c + L + S ≤ a2l ∧ c + L + S ≤ 100 ∧ L ≤ 100 * c ∧ xn = .int .u16 ((b + (c + L + S : Nat)) % 65536) ∧ xl = .int .i64 (L : Int) ∧ xs = .int .i64 (S : Int) ∧ i = .int .i64 ((c + L + S : Nat) : Int) ∧ Hid (q = cS (b + c + L) b c) ∧ 0 ≤ t0 ∧ t0 ≤ 1000 ∧ 0 ≤ t1 ∧ t1 ≤ 1000 ∧ Blk wr g 31 #[.int .u16 q.mx, .int .i64 q.cy, .int .i64 q.ba, .int .i64 q.bd, .int .i64 q.pr, .int .i64 q.rc] ∧ Blk wr gt 36 #[.int .i64 t0, .int .i64 t1] ∧ Below w.heap.size w wr) (fun _ _ _ i _ => a2l - (intOf i).toNat)
  case atStart => exact ⟨0, 0, 0, q0, 1, q0.rc, by omega, by omega, by omega, by simp; omega, rfl, rfl, rfl, HQ0, by omega, by omega, by omega, by omega, k5, k9, B5⟩
  case round =>
    clear k5 k9 B5
    obtain ⟨c, L, S, q, t0, t1, hk, hk1, hL, rfl, rfl, rfl, rfl, HQ, x0, x1, y0, y1, k5, k9, B5⟩ := hrel
    obtain ⟨k, hkk⟩ : ∃ k, c + L + S = k := ⟨_, rfl⟩
    obtain ⟨n, hn⟩ : ∃ n, (b + (k : Int)) % 65536 = n := ⟨_, rfl⟩
    have hin : InS ((c : Int) + 1) q := by rw [HQ.out]; exact cS_in _ b c (by omega) (by omega) (by omega) b0 b1
    have hex : expS q = (c : Int) + L + 1 := by rw [HQ.out]; exact sum_exp b c L
    have hrc : q.rc = (c : Int) + 1 := by rw [HQ.out]; rfl
    by_cases hgo : k < a2l ∧ k < 100
    · obtain ⟨hlt, h80⟩ := hgo
      obtain ⟨bb, off, rfl, hbb, hcell⟩ := HS2.out.at1 (by omega)
      have d0 := (B5.cell (p := ⟨bb, off + k, none⟩) hbb).trans (hcell k hlt)
      obtain ⟨dr, hdr⟩ : ∃ dr, a2e0 k = dr := ⟨_, rfl⟩
      rw [hdr] at d0
      obtain ⟨n', r, hr1, n0, n1, hr2, -, hr3, hr4, hr5, hr6⟩ := sum_next b b0 b1 c L S (by omega) hL q HQ.out
      have hwn : IntKind.u16.wrap (n + 1) = n' := by rw [← hr1, ← hn, hkk]; simp [IntKind.wrap, IntKind.bits, IntKind.signed]
      have i0 : (0 : Int) ≤ (k : Int) := by omega
      have i1 : (k : Int) < (a2l : Int) := by omega
      have i2 : (k : Int) < 100 := by omega
      rw [hkk] at hr1 ⊢
      rw [hn]
      have HR2 := Lib.hid hr2
      have HR6 := Lib.hid hr6
      have HU := Lib.hid (fun W => source_Update q r n' ((c : Int) + 1) true hin (by omega) n0 n1 hr4 W)
      obtain ⟨f, hf⟩ : ∃ f, fracI (((c : Int) + L + S + 2) - t0) (r.rc - t1) = f := ⟨_, rfl⟩
      obtain ⟨ff0, ff1⟩ := frac_bd (((c : Int) + L + S + 2) - t0) (r.rc - t1)
      rw [hf] at ff0 ff1
      have HT := Lib.hid (fun W => tally_Next t0 t1 r ((c : Int) + 1 + 1) hr3 (by omega) ((c : Int) + L + S + 2) hr5 (by omega) (by omega) (by omega) (by omega) (by omega) (by omega) f ((L : Int) + S) hf (by rw [hr6]; unfold clipI; omega) W)
      have hn1 : n' = (b + ((k + 1 : Nat) : Int)) % 65536 := by rw [← hr1]; congr 1; omega
      have HN1 := Lib.hid hn1
      have rb0 : 0 ≤ r.rc := by omega
      have rb1 : r.rc ≤ 1000 := by omega
      clear hf hr1 hr2 hr3 hr4 hr5 hr6 hn hin hex hdr hcell hn1 hrc
      cases dr
      · have c5 := k5.cell
        simp at c5
        go_wp2_with fail
        refine (HU.out _).mono ?_
        rintro e w6 ⟨rfl, hb6⟩
        have k5 := k5.below hb6 k5.lt
        have k9 := k9.below hb6 k9.lt
        have B6 := below_then B5 hb6 (Nat.le_refl _)
        have k10 := Blk.new w6 31 #[.int .u16 r.mx, .int .i64 r.cy, .int .i64 r.ba, .int .i64 r.bd, .int .i64 r.pr, .int .i64 r.rc]
        have k5 := k5.alloc (.cells #[.int .u16 r.mx, .int .i64 r.cy, .int .i64 r.ba, .int .i64 r.bd, .int .i64 r.pr, .int .i64 r.rc] 31)
        have k9 := k9.alloc (.cells #[.int .u16 r.mx, .int .i64 r.cy, .int .i64 r.ba, .int .i64 r.bd, .int .i64 r.pr, .int .i64 r.rc] 31)
        have B7 := B6.alloc B6.size (.cells #[.int .u16 r.mx, .int .i64 r.cy, .int .i64 r.ba, .int .i64 r.bd, .int .i64 r.pr, .int .i64 r.rc] 31)
        clear hb6 c5 d0 B5 B6
        go_upto_region 13 with fail
        generalize w6.alloc (.cells #[.int .u16 r.mx, .int .i64 r.cy, .int .i64 r.ba, .int .i64 r.bd, .int .i64 r.pr, .int .i64 r.rc] 31) = w7 at *
        obtain ⟨w8, e8, k5', B8, hk8⟩ := six_set k5 (.int .u16 r.mx) (.int .i64 r.cy) (.int .i64 r.ba) (.int .i64 r.bd) (.int .i64 r.pr) (.int .i64 r.rc) w.heap.size hg
        have B9 := B7.trans B8
        have k9' : Blk w8 gt 36 #[.int .i64 t0, .int .i64 t1] := (hk8 gt (by omega)).trans k9
        have c5 := k5.cell
        have f5 := k5.frozen
        have c10 := k10.cell
        simp at c5 c10
        go_upto_region 14 with fail
        try rw [e8]
        clear e8 c5 f5 c10 k10 hk8 B7 B8 k5 k9
        have c5 := k5'.cell
        have c9 := k9'.cell
        simp at c5 c9
        by_cases hl : k < a1l
        · obtain ⟨bb1, off1, rfl, hbb1, hcell1⟩ := HS1.out.at1 (by omega)
          have d1 := (B9.cell (p := ⟨bb1, off1 + k, none⟩) hbb1).trans (hcell1 k hl)
          obtain ⟨z0, z1⟩ := wf_u16 (HF1.out k hl)
          have j1 : (k : Int) < (a1l : Int) := by omega
          obtain ⟨z, hz⟩ : ∃ z, a1e0 k = z := ⟨_, rfl⟩
          rw [hz] at d1 z0 z1
          have hz7 := u16_and7 z
          clear hcell1 hz
          by_cases h7 : z % 8 = 0
          · rw [h7] at hz7
            go_wp2_with fail
            refine (HT.out _).mono ?_
            rintro e w10 ⟨rfl, hb10⟩
            have k5 := k5'.below hb10 k5'.lt
            have k9 := k9'.below hb10 k9'.lt
            have B10 := below_then B9 hb10 (Nat.le_refl _)
            have k12 := Blk.new w10 36 #[.int .i64 ((c : Int) + L + S + 2), .int .i64 r.rc]
            have k5 := k5.alloc (.cells #[.int .i64 ((c : Int) + L + S + 2), .int .i64 r.rc] 36)
            have k9 := k9.alloc (.cells #[.int .i64 ((c : Int) + L + S + 2), .int .i64 r.rc] 36)
            have B11 := B10.alloc B10.size (.cells #[.int .i64 ((c : Int) + L + S + 2), .int .i64 r.rc] 36)
            clear hb10 c5 c9 d1 B9 B10 k5' k9'
            go_upto_region 19 with fail
            generalize w10.alloc (.cells #[.int .i64 ((c : Int) + L + S + 2), .int .i64 r.rc] 36) = w11 at *
            obtain ⟨w12, e12, k9', B12, hk12⟩ := two_set k9 rfl (.int .i64 ((c : Int) + L + S + 2)) (.int .i64 r.rc) w.heap.size (by omega)
            have B13 := B11.trans B12
            have k5' : Blk w12 g 31 #[.int .u16 r.mx, .int .i64 r.cy, .int .i64 r.ba, .int .i64 r.bd, .int .i64 r.pr, .int .i64 r.rc] := (hk12 g (by omega)).trans k5
            have c9 := k9.cell
            have f9 := k9.frozen
            have c12 := k12.cell
            simp at c9 c12
            go_upto_region 20 with fail
            try rw [e12]
            clear e12 c9 f9 c12 k12 hk12 B11 B12 k5 k9
            go_wp2_with fail
            go_roundw
            case rel => exact ⟨c + 1, L + S, 0, r, _, r.rc, by omega, by omega, by omega, (by rw [HN1.out]; congr 2; omega), by go_num, rfl, (by first | (congr 1; omega) | go_num), HR2, by omega, by omega, by omega, by omega, k5', k9', B13⟩
            case measure => simp only [intOf]; omega
          · have hz8 : ¬ (bits .and .u16 z 7 = 0) := by rw [hz7]; exact h7
            have hz9 : (z % 8 == 0) = false := by simp; exact h7
            go_wp2_with fail
            go_roundw
            case rel => exact ⟨c + 1, L + S, 0, r, t0, t1, by omega, by omega, by omega, (by rw [HN1.out]; congr 2; omega), by go_num, rfl, (by first | (congr 1; omega) | go_num), HR2, by omega, by omega, by omega, by omega, k5', k9', B9⟩
            case measure => simp only [intOf]; omega
        · have j1 : ¬ ((k : Int) < (a1l : Int)) := by omega
          go_wp2_with fail
          go_roundw
          case rel => exact ⟨c + 1, L + S, 0, r, t0, t1, by omega, by omega, by omega, (by rw [HN1.out]; congr 2; omega), by go_num, rfl, (by first | (congr 1; omega) | go_num), HR2, by omega, by omega, by omega, by omega, k5', k9', B9⟩
          case measure => simp only [intOf]; omega
      · go_wp2_with fail
        go_roundw
        case rel => exact ⟨c, L, S + 1, q, t0, t1, by omega, by omega, hL, (by rw [HN1.out]; congr 2; omega), rfl, by go_num, (by first | (congr 1; omega) | go_num), HQ, by omega, by omega, by omega, by omega, k5, k9, B5⟩
        case measure => simp only [intOf]; omega
    · have hge : k < a2l → 100 ≤ k := fun h => by omega
      clear hgo
      have hx : (k < a2l ∧ 100 ≤ k) ∨ k = a2l := by
        rcases Nat.lt_or_ge k a2l with h | h
        · exact .inl ⟨h, hge h⟩
        · exact .inr (by omega)
      clear hge
      obtain ⟨f, hf⟩ : ∃ f, fracI (((c : Int) + L + 1) - 0) (q.rc - 0) = f := ⟨_, rfl⟩
      have HT := Lib.hid (fun W => tally_Next 0 0 q ((c : Int) + 1) hin (by omega) ((c : Int) + L + 1) hex (by omega) (by omega) (by omega) (by omega) (by omega) (by omega) f (L : Int) hf (by rw [hrc]; unfold clipI; omega) W)
      have HO := Lib.hid (fun W => law13_Told q (by unfold InS at hin; omega) (by unfold InS at hin; omega) W)
      have HE := Lib.hid (fun W => ref13_Expected q ((c : Int) + 1) hin (by omega) ((c : Int) + L + 1) hex W)
      have c5 := k5.cell
      simp at c5
      rw [hkk, hn]
      have hsub : ((c : Int) + L + 1 - q.rc == (L : Int)) = true := by rw [beq_iff_eq]; omega
      have HSUB := Lib.hid hsub
      have qb0 : 0 ≤ q.rc := by omega
      have qb1 : q.rc ≤ 1000 := by omega
      clear hf hin hex hrc hn hsub
      rcases hx with ⟨h1, h2⟩ | h1
      · have j1 : (k : Int) < (a2l : Int) := by omega
        have j2 : ¬ ((k : Int) < 100) := by omega
        go_wp2_with fail
        refine (HT.out _).mono ?_
        rintro e w10 ⟨rfl, hb10⟩
        have k5 := (k5.below hb10 k5.lt).alloc (.cells #[.int .i64 ((c : Int) + L + 1), .int .i64 q.rc] 36)
        have B10 := below_then B5 hb10 (Nat.le_refl _)
        have B11 := B10.alloc B10.size (.cells #[.int .i64 ((c : Int) + L + 1), .int .i64 q.rc] 36)
        clear hb10 c5 B5 B10 k9
        go_upto_region 23 with fail
        generalize w10.alloc (.cells #[.int .i64 ((c : Int) + L + 1), .int .i64 q.rc] 36) = w11 at *
        have E0 := fun (g0 : Ext w11) => g0.cell (k5.cell 0) k5.lt
        have E1 := fun (g0 : Ext w11) => g0.cell (k5.cell 1) k5.lt
        have E2 := fun (g0 : Ext w11) => g0.cell (k5.cell 2) k5.lt
        have E3 := fun (g0 : Ext w11) => g0.cell (k5.cell 3) k5.lt
        have E4 := fun (g0 : Ext w11) => g0.cell (k5.cell 4) k5.lt
        have E5 := fun (g0 : Ext w11) => g0.cell (k5.cell 5) k5.lt
        simp at E0 E1 E2 E3 E4 E5
        have hsub := HSUB.out
        refine wp_region_ext (by kernel_rfl) (by kernel_rfl) ?_; (repeat (go_big_quiet_step ((first | (go_at_call 19; with_reducible exact calls_ext _ (HO.out _)) | (go_at_call 18; with_reducible exact calls_ext _ (HE.out _)))))); refine wpQuiet_nil ?_; rintro _ ⟨gq, rfl⟩
        go_wp2_with fail
        go_ret
        exact ⟨rfl, below_then B11 gq.below (Nat.le_refl _)⟩
      · have j1 : ¬ ((k : Int) < (a2l : Int)) := by omega
        go_wp2_with fail
        refine (HT.out _).mono ?_
        rintro e w10 ⟨rfl, hb10⟩
        have k5 := (k5.below hb10 k5.lt).alloc (.cells #[.int .i64 ((c : Int) + L + 1), .int .i64 q.rc] 36)
        have B10 := below_then B5 hb10 (Nat.le_refl _)
        have B11 := B10.alloc B10.size (.cells #[.int .i64 ((c : Int) + L + 1), .int .i64 q.rc] 36)
        clear hb10 c5 B5 B10 k9
        go_upto_region 23 with fail
        generalize w10.alloc (.cells #[.int .i64 ((c : Int) + L + 1), .int .i64 q.rc] 36) = w11 at *
        have E0 := fun (g0 : Ext w11) => g0.cell (k5.cell 0) k5.lt
        have E1 := fun (g0 : Ext w11) => g0.cell (k5.cell 1) k5.lt
        have E2 := fun (g0 : Ext w11) => g0.cell (k5.cell 2) k5.lt
        have E3 := fun (g0 : Ext w11) => g0.cell (k5.cell 3) k5.lt
        have E4 := fun (g0 : Ext w11) => g0.cell (k5.cell 4) k5.lt
        have E5 := fun (g0 : Ext w11) => g0.cell (k5.cell 5) k5.lt
        simp at E0 E1 E2 E3 E4 E5
        have hsub := HSUB.out
        refine wp_region_ext (by kernel_rfl) (by kernel_rfl) ?_; (repeat (go_big_quiet_step ((first | (go_at_call 19; with_reducible exact calls_ext _ (HO.out _)) | (go_at_call 18; with_reducible exact calls_ext _ (HE.out _)))))); refine wpQuiet_nil ?_; rintro _ ⟨gq, rfl⟩
        go_wp2_with fail
        go_ret
        exact ⟨rfl, below_then B11 gq.below (Nat.le_refl _)⟩
end Go.Proofs.Ythngobikokhdlaa
