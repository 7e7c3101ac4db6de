/- The statement CordelleReports, walked: it returns true. No condition but the frame's. (Its second half printed by gen_reports.py.) -/
import Derived.Test.YtolgdcchnmbmnaaRepM
namespace Go.Proofs.Ytolgdcchnmbmnaa
open Go.RowKit BigFrame
attribute [local go_sem ↓] Go.wp_at_zero Go.wp_at_succ

set_option maxRecDepth 8000 in
set_option maxHeartbeats 16000000 in
theorem CordelleReports_walk (a0a : Option Addr) (a0l a0c : Nat) (a0e0 : Nat → Int) (a0e1 : Nat → Bool) (a0e2 : Nat → Int) (a0e3 : Nat → Int) (a0e4 : Nat → Int) (a0e5 : Nat → Int) (a0e6 : Nat → Option Addr) (a0e7 : Nat → Nat) (a0e8 : Nat → Nat) (a0e9 : Nat → Nat → Int) (a0e10 : Nat → Nat → Int) (a0e11 : Nat → Nat → Int) (a0e12 : Nat → Nat → Int) (a0e13 : Nat → Nat → Int) (a0e14 : Nat → Nat → Int) (a0e15 : Nat → Nat → Int) (w : World) (a0S : SliceOf w a0a a0l a0c 7 (fun i => [.int .u32 (a0e0 i), .bool (a0e1 i), .int .i64 (a0e2 i), .int .u32 (a0e3 i), .int .u32 (a0e4 i), .int .u32 (a0e5 i), .slice (a0e6 i) (a0e7 i) (a0e8 i)])) (a0F0 : ∀ i, i < a0l → (Lit.int .u32 (a0e0 i)).wf = true) (a0F1 : ∀ i, i < a0l → (Lit.int .i64 (a0e2 i)).wf = true) (a0F2 : ∀ i, i < a0l → (Lit.int .u32 (a0e3 i)).wf = true) (a0F3 : ∀ i, i < a0l → (Lit.int .u32 (a0e4 i)).wf = true) (a0F4 : ∀ i, i < a0l → (Lit.int .u32 (a0e5 i)).wf = true) (a0F5 : ∀ i, i < a0l → SliceOf w (a0e6 i) (a0e7 i) (a0e8 i) 7 (fun j => [.int .u32 ((a0e9 i) j), .int .i64 ((a0e10 i) j), .int .i64 ((a0e11 i) j), .int .u32 ((a0e12 i) j), .int .u32 ((a0e13 i) j), .int .u32 ((a0e14 i) j), .int .u32 ((a0e15 i) j)])) (a0F6 : ∀ i, i < a0l → (∀ j, j < (a0e7 i) → (Lit.int .u32 ((a0e9 i) j)).wf = true)) (a0F7 : ∀ i, i < a0l → (∀ j, j < (a0e7 i) → (Lit.int .i64 ((a0e10 i) j)).wf = true)) (a0F8 : ∀ i, i < a0l → (∀ j, j < (a0e7 i) → (Lit.int .i64 ((a0e11 i) j)).wf = true)) (a0F9 : ∀ i, i < a0l → (∀ j, j < (a0e7 i) → (Lit.int .u32 ((a0e12 i) j)).wf = true)) (a0F10 : ∀ i, i < a0l → (∀ j, j < (a0e7 i) → (Lit.int .u32 ((a0e13 i) j)).wf = true)) (a0F11 : ∀ i, i < a0l → (∀ j, j < (a0e7 i) → (Lit.int .u32 ((a0e14 i) j)).wf = true)) (a0F12 : ∀ i, i < a0l → (∀ j, j < (a0e7 i) → (Lit.int .u32 ((a0e15 i) j)).wf = true)) :
    Calls Try.prog 3 #[.slice a0a a0l a0c] w fun e w' => e = .returned (.bool true) ∧ Below w.heap.size w w' := by
  obtain ⟨iq, hq0, hq1, hq2, hq3⟩ := info_bk
  obtain ⟨ip, hp0, hp1, hp2, hp3⟩ := info_pc
  obtain ⟨ir, hr0, hr1, hr2, hr3⟩ := info_rp
  have HC1 := Lib.hid (fun W => pc_Check 0 200 ⟨#[]⟩ W ⟨by decide, by decide, by decide, by decide, by decide, by decide⟩)
  have HC2 := Lib.hid (fun W => rep_Check 0 false 0 0 0 0 none 0 0 [] true (by decide) W ⟨rfl, Nat.le_refl _, Nat.zero_le _, fun h => absurd h (by omega)⟩ (by omega))
  have HIN := Lib.hid (fun i (hi : i < a0l) (m : Nat) (hm : m ≤ a0e7 i) => And.intro (And.intro (wfU32 (a0F0 i hi)) (And.intro (wfU32 (a0F2 i hi)) (And.intro (wfU32 (a0F3 i hi)) (wfU32 (a0F4 i hi))))) (And.intro (And.intro (a0F5 i hi).1 (a0F5 i hi).2.1) (blocks_in (a0F5 i hi) (a0F6 i hi) (a0F9 i hi) (a0F10 i hi) (a0F11 i hi) (a0F12 i hi) m hm)))
  have HS := Lib.hid a0S
  clear a0S a0F0 a0F1 a0F2 a0F3 a0F4 a0F5 a0F6 a0F7 a0F8 a0F9 a0F10 a0F11 a0F12
  go_enter Try.func3, Try.ntmps3
  go_wp2_with fail
  refine (HC1.out _).mono ?_
  rintro e w1 ⟨rfl, hb1⟩
  go_wp2_with fail
  refine (HC2.out _).mono ?_
  rintro e w2 ⟨rfl, hb2⟩
  have B2 := below_then hb1 hb2 (Nat.le_refl _)
  clear hb1 hb2 HC1 HC2
  go_wp2_with fail
  go_loopw [3, 4, 5] (fun x3 x4 x5 wr => ∃ (k m : Nat) (rs : List RpR) (pa : Option Addr) (pc : Nat) (aa : Option Addr) (ac : Nat), k ≤ a0l ∧ k ≤ 6 ∧ m ≤ k ∧ x3 = .slice pa m pc ∧ x4 = .slice aa m ac ∧ x5 = .int .i64 k ∧ rs.length = m ∧ wr.ownsRow w.heap.size 25 3 (.slice pa m pc) m (rowG PcR.cells (rs.map RpR.pc)) ∧ wr.ownsRow w.heap.size 32 7 (.slice aa m ac) m (rowG RpR.cells rs) ∧ RpRows wr w.heap.size rs ∧ (∀ x ∈ rs, x.Ok) ∧ Below w.heap.size w wr) (fun _ _ x5 _ => 6 - (intOf x5).toNat)
  case atStart => exact ⟨0, 0, [], none, 0, none, 0, by omega, by omega, by omega, rfl, rfl, rfl, rfl, ⟨rfl, .inl ⟨rfl, rfl⟩⟩, ⟨rfl, .inl ⟨rfl, rfl⟩⟩, (fun x hx => by cases hx), (fun x hx => by cases hx), B2⟩
  case round =>
    clear B2
    obtain ⟨k, m, rs, pa, pc, aa, ac, hka, hk6, hmk, rfl, rfl, rfl, hrl, ownP, ownR, rows, hok, B⟩ := hrel
    have HRL := Lib.hid hrl
    have HOK := Lib.hid hok
    clear hrl hok
    by_cases hgo : k < a0l ∧ k < 6
    · obtain ⟨hlt, h6⟩ := hgo
      obtain ⟨bb, off, rfl, hbb, hcell⟩ := HS.out.2.2 (by omega)
      have hcl := hcell k hlt
      obtain ⟨⟨us, ut, up, ub⟩, ⟨hcap1, hcap2⟩, xs, hxl, hxo, SX⟩ := HIN.out k hlt (min (a0e7 k) 8) (Nat.min_le_left _ _)
      have e0 := (B.cell (p := ⟨bb, off + k * 7, none⟩) hbb).trans (hcl 0 _ rfl)
      have e1 := (B.cell (p := ⟨bb, off + k * 7 + 1, none⟩) hbb).trans (hcl 1 _ rfl)
      have e2 := (B.cell (p := ⟨bb, off + k * 7 + 2, none⟩) hbb).trans (hcl 2 _ rfl)
      have e3 := (B.cell (p := ⟨bb, off + k * 7 + 3, none⟩) hbb).trans (hcl 3 _ rfl)
      have e4 := (B.cell (p := ⟨bb, off + k * 7 + 4, none⟩) hbb).trans (hcl 4 _ rfl)
      have e5 := (B.cell (p := ⟨bb, off + k * 7 + 5, none⟩) hbb).trans (hcl 5 _ rfl)
      have e6 := (B.cell (p := ⟨bb, off + k * 7 + 6, none⟩) hbb).trans (hcl 6 _ rfl)
      obtain ⟨s, hs⟩ : ∃ s, a0e0 k = s := ⟨_, rfl⟩
      obtain ⟨y, hy⟩ : ∃ s, a0e1 k = s := ⟨_, rfl⟩
      obtain ⟨c, hc⟩ : ∃ s, a0e2 k = s := ⟨_, rfl⟩
      obtain ⟨t, ht⟩ : ∃ s, a0e3 k = s := ⟨_, rfl⟩
      obtain ⟨p, hp⟩ : ∃ s, a0e4 k = s := ⟨_, rfl⟩
      obtain ⟨b, hb⟩ : ∃ s, a0e5 k = s := ⟨_, rfl⟩
      obtain ⟨la, hla⟩ : ∃ s, a0e6 k = s := ⟨_, rfl⟩
      obtain ⟨ln, hln⟩ : ∃ s, a0e7 k = s := ⟨_, rfl⟩
      obtain ⟨lc, hlc⟩ : ∃ s, a0e8 k = s := ⟨_, rfl⟩
      rw [hs] at us e0
      rw [hy] at e1
      rw [hc] at e2
      rw [ht] at ut e3
      rw [hp] at up e4
      rw [hb] at ub e5
      rw [hla, hln, hlc] at e6 SX
      rw [hln] at hxl
      rw [hln, hlc] at hcap1
      rw [hlc] at hcap2
      obtain ⟨n, hn⟩ : ∃ n, min ln 8 = n := ⟨_, rfl⟩
      rw [hn] at hxl SX
      have hn8 : n ≤ 8 ∧ n ≤ ln := by omega
      have hn1 : (if 8 < (ln : Int) then 8 else (ln : Int)) = (n : Int) := by rw [← hn]; split <;> omega
      have hn2 : min (ln : Int) 8 = (n : Int) := by omega
      have hnc : (n : Int) ≤ (lc : Int) := by omega
      have hn0 : (0 : Int) ≤ (n : Int) := by omega
      have i0 : (0 : Int) ≤ (k : Int) := by omega
      have i1 : (k : Int) < (a0l : Int) := by omega
      have i2 : (k : Int) < 6 := by omega
      rw [maxLen_eq] at hcap2
      have HSX := Lib.hid (SX.below B)
      have HXL := Lib.hid hxl
      have HXO := Lib.hid hxo
      have HU := Lib.hid (And.intro us (And.intro ut (And.intro up ub)))
      clear hcell hcl hs hy hc ht hp hb hla hln hlc hn us ut up ub SX hxl hxo
      have K4 := Blk.new wr 32 #[.int .u32 s, .bool y, .int .i64 c, .int .u32 t, .int .u32 p, .int .u32 b, .slice la ln lc]
      have B4 : Below wr.heap.size wr (wr.alloc (.cells #[.int .u32 s, .bool y, .int .i64 c, .int .u32 t, .int .u32 p, .int .u32 b, .slice la ln lc] 32)) := (Below.refl _ wr).alloc (Nat.le_refl _) _
      have sB := B.size
      go_upto_region 9 with fail
      clear e0 e1 e2 e3 e4 e5 e6
      obtain ⟨g4, hg4⟩ : ∃ g, wr.heap.size = g := ⟨_, rfl⟩
      rw [hg4] at K4 B4 sB ⊢
      generalize wr.alloc (.cells #[.int .u32 s, .bool y, .int .i64 c, .int .u32 t, .int .u32 p, .int .u32 b, .slice la ln lc] 32) = w4 at *
      have l4 := K4.lt
      have ownl := own_down (own_lit w4 49 7) (show g4 ≤ w4.heap.size by omega)
      have Bl : Below w4.heap.size w4 (w4.alloc (.cells #[] 49)) := (Below.refl _ w4).alloc (Nat.le_refl _) _
      have K5 := K4.below Bl K4.lt
      have B5 := below_then B4 Bl (by omega)
      have k4 := K4.cell
      have k5 := K5.cell
      simp at k4 k5
      have hnews := SliceOf.newsG BkR.cells_len (by decide) (HSX.out.below (by rw [hg4]; exact B5)) HXL.out
      have hrl : (rowG BkR.cells xs).length = n * 7 := by rw [rowG_len BkR.cells_len, HXL.out]
      have s5 := B5.size
      go_upto_region 10 with (at_builtin; refine wpList_append_sl rfl _ _ 30 rfl g4 49 iq (.agg zBkA) 7 40 Try.underlying30 hq0 hq1 hq2 hq3 rfl (by decide) _ 0 [] rfl ownl la n lc (rowG BkR.cells xs) rfl hrl hnews (rowG_one (fun x u hu => by simp [BkR.cells] at hu; rcases hu with rfl | rfl | rfl | rfl | rfl | rfl | rfl <;> rfl) xs) (by rw [maxLen_eq]; omega) (by omega) (by omega) ?_; intro v6 w6 own6 hgrow6 hat6 hsh6; obtain ⟨a6, c6, rfl⟩ := hsh6; have K6 : Blk w6 g4 32 _ := (hgrow6.block _ K5.lt (own_ne_blk ownl K5 (by decide)).symm).trans K5; have k6 := K6.cell; have f6 := K6.frozen; simp at k6)
      -- REGION 10
      have B6 : Below g4 wr w6 := B5.grown hgrow6 (by omega) (fun j hj => (ownl.lt j hj).1)
      have K7 := K6.set_ 6 (.slice a6 (0 + n) c6)
      simp at K7
      have n6 := own_ne_blk own6 K6 (by decide)
      have own7 := own_at own6 (w' := w6.setCell ⟨g4, 6, none⟩ (.slice a6 (0 + n) c6)) (fun j hj => Below.heap_setCell _ ⟨g4, 6, none⟩ _ j (fun e => n6 (by rw [hj]; exact congrArg some e)))
      have B7 := B6.setCell (p := ⟨g4, 6, none⟩) (Nat.le_refl _) (.slice a6 (0 + n) c6)
      simp only [Nat.zero_add, List.nil_append] at own7 K7 B7
      clear k4 k5 K4 K5 ownl hnews hrl B5 B4 Bl hgrow6 hat6 own6 n6 B6 s5 HSX
      generalize w6.setCell ⟨g4, 6, none⟩ (.slice a6 n c6) = w7 at *
      clear K6 k6 f6
      have B7 : Below wr.heap.size wr w7 := by rw [hg4]; exact B7
      have P7 := own_lasts ownP B7
      have R7 := own_lasts ownR B7
      have nR : (Value.slice aa m ac).ownBlock ≠ some g4 := fun h => by have := (ownR.lt g4 h).2; omega
      have nP := own_ne_blk P7 K7 (by decide)
      have rows7 := rows.below B7
      have BB7 := below_then B B7 (Nat.le_refl _)
      have own7 := own_down own7 sB
      have S7 := BkAt.of_own own7 HXL.out
      clear ownP ownR rows B B7
      obtain ⟨z, hz⟩ : ∃ z, mayR y c t p b xs = z := ⟨_, rfl⟩
      have HCK := Lib.hid (rep_Check s y c t p b a6 n c6 xs z hz w7 S7 (by omega))
      have HZ := Lib.hid hz
      have k7 := K7.cell
      simp at k7
      clear hz S7
      go_wp2_with fail
      refine HCK.out.mono ?_
      rintro e w8 ⟨rfl, hb8⟩
      have P8 := own_lasts P7 hb8
      have R8 := own_lasts R7 hb8
      have rows8 := rows7.below hb8
      have own8 := own_lasts own7 hb8
      have K8 := K7.below hb8 K7.lt
      have B8 := below_then BB7 hb8 (Nat.le_refl _)
      have sB8 := B8.size
      clear P7 R7 rows7 own7 K7 BB7 hb8 HCK k7
      cases z
      · clear own8 K8
        go_wp2_with fail
        go_roundw
        case rel => exact ⟨k + 1, m, rs, pa, pc, aa, ac, by omega, by omega, by omega, rfl, rfl, by go_num, HRL.out, P8, R8, rows8, HOK.out, B8⟩
        case measure => simp only [intOf]; omega
      · have HX : Hid (RpR.Ok ⟨s, y, c, t, p, b, a6, n, c6, xs⟩) := Lib.hid ⟨HZ.out, HU.out.1, HU.out.2.1, HU.out.2.2.1, HU.out.2.2.2, HXO.out, HXL.out, hn8.1⟩
        have l8 := K8.lt
        obtain ⟨sb, hsb⟩ : ∃ sb, strOfNums (bodyR s y c t p b xs) = sb := ⟨_, rfl⟩
        obtain ⟨kd, hkd⟩ : ∃ kd, kindR y = kd := ⟨_, rfl⟩
        have HPC := Lib.hid (fun W S => rep_Piece s y c t p b a6 n c6 xs HZ.out HU.out.1 HU.out.2.1 HU.out.2.2.1 HU.out.2.2.2 HXO.out W S)
        rw [hsb, hkd] at HPC
        have HPCC : Hid (RpR.pc ⟨s, y, c, t, p, b, a6, n, c6, xs⟩ = ⟨(n : Int), kd, sb⟩) := Lib.hid (by rw [← hsb, ← hkd]; rfl)
        obtain ⟨rp, hrp⟩ : ∃ l, rowG PcR.cells (rs.map RpR.pc) = l := ⟨_, rfl⟩
        obtain ⟨rr, hrr⟩ : ∃ l, rowG RpR.cells rs = l := ⟨_, rfl⟩
        rw [hrp] at P8
        rw [hrr] at R8
        have HRP : Hid (rowG PcR.cells ((rs ++ [(⟨s, y, c, t, p, b, a6, n, c6, xs⟩ : RpR)]).map RpR.pc) = rp ++ [.int .i64 (n : Int), .int .i64 kd, .string sb]) := Lib.hid (by rw [List.map_append, rowG_append, hrp, List.map_cons, HPCC.out]; rfl)
        have HRR : Hid (rowG RpR.cells (rs ++ [(⟨s, y, c, t, p, b, a6, n, c6, xs⟩ : RpR)]) = rr ++ [.int .u32 s, .bool y, .int .i64 c, .int .u32 t, .int .u32 p, .int .u32 b, .slice a6 n c6]) := Lib.hid (by rw [rowG_append, hrr]; rfl)
        clear hsb hkd hrp hrr
        go_upto_region 11 with fail
        have hne : Nonempty (UWF (CTwo w8 w.heap.size (.slice pa m pc) (.slice aa m ac) m rp rr [.int .i64 (n : Int), .int .i64 kd, .string sb] [.int .u32 s, .bool y, .int .i64 c, .int .u32 t, .int .u32 p, .int .u32 b, .slice a6 n c6])) := ⟨⟨fun _ => false, fun _ => undef, w8.drew, CTwo.start sB8 P8 R8 _⟩⟩
        have E8 := fun (gx : UWF (CTwo w8 w.heap.size (.slice pa m pc) (.slice aa m ac) m rp rr [.int .i64 (n : Int), .int .i64 kd, .string sb] [.int .u32 s, .bool y, .int .i64 c, .int .u32 t, .int .u32 p, .int .u32 b, .slice a6 n c6])) => (show Blk gx.world g4 32 _ from (gx.holds.keep g4 l8 nP nR).trans K8).cell
        simp at E8
        refine wp_region_free [(0, 2, some 2), (3, 0, some 3), (4, 0, some 4), (5, 2, some 7), (8, 0, some 8), (9, 2, none)] (CTwo w8 w.heap.size (.slice pa m pc) (.slice aa m ac) m rp rr [.int .i64 (n : Int), .int .i64 kd, .string sb] [.int .u32 s, .bool y, .int .i64 c, .int .u32 t, .int .u32 p, .int .u32 b, .slice a6 n c6]) (GTwo m (.agg #[.int .i64 (n : Int), .int .i64 kd, .string sb])) (fun q => if q = 2 then .agg #[.int .i64 (n : Int), .int .i64 kd, .string sb] else if q = 3 then .slice (some ⟨0, 0, none⟩) 1 1 else if q = 7 then .slice (some ⟨0, 0, none⟩) 1 1 else .slice (some ⟨0, 0, none⟩) (m + 1) 0) (by kernel_rfl) (by kernel_rfl) ?_ ?_ ?_ ?_
        · intro z hz LL G W hC
          simp [moversI] at hz
          exact hC.quiet (by omega) (by omega) (by omega) (by omega)
        · exact CTwo.start sB8 P8 R8 _
        · intro q
          exact ⟨fun e => by subst e; rfl, fun e => by subst e; exact ⟨_, rfl⟩, fun e => by subst e; exact ⟨_, _, rfl⟩, fun e => by subst e; exact ⟨_, rfl⟩, fun e => by subst e; exact ⟨_, _, rfl⟩⟩
        · intro G hG
          have g2 := (hG 2).a2 rfl
          obtain ⟨x3, g3⟩ := (hG 3).a3 rfl
          obtain ⟨x4, c4, g4'⟩ := (hG 4).a4 rfl
          obtain ⟨x7, g7⟩ := (hG 7).a7 rfl
          obtain ⟨x8, c8, g8⟩ := (hG 8).a8 rfl
          simp only [walkF, List.drop_zero, List.drop_succ_cons, List.take_succ_cons, List.take_zero, List.toList_toArray]; (repeat (go_big_quiet_step (fail))); refine wpQuiet_nil ?_
          refine ⟨_, _, _, _, _, _, rfl, .inl ⟨rfl, ?_, ?_⟩⟩
          · intro LL W hL hA hC
            have own9 := own_at own8 (w' := W) (fun j hj => hC.keep j (own8.lt j hj).2 (own_types own8 P8 (by decide) hj) (own_types own8 R8 (by decide) hj))
            refine ⟨?_⟩; go_simp; simp only [movesToUpon]
            refine (HPC.out W (BkAt.of_own own9 HXL.out)).mono ?_
            rintro e w' ⟨rfl, hb'⟩
            exact ⟨_, rfl, ⟨fun _ => rfl, (fun e => by cases e), (fun e => by cases e), (fun e => by cases e), (fun e => by cases e)⟩, hC.add sB8 hb' (by decide) (by decide) (by decide) (by decide) _⟩
          · intro K' hK'; dsimp only at hK'; rw [g2]; go_big_quiet_op; go_big_quiet_on; (repeat (go_big_quiet_step (fail))); refine wpQuiet_nil ?_
            refine ⟨_, _, _, _, _, _, rfl, .inl ⟨rfl, ?_, ?_⟩⟩
            · intro LL W hL hA hC
              refine ⟨?_⟩; go_simp; simp only [movesToUpon]
              exact ⟨⟨(fun e => by cases e), fun _ => ⟨_, rfl⟩, (fun e => by cases e), (fun e => by cases e), (fun e => by cases e)⟩, hC.mk3 sB8⟩
            · intro K' hK'; dsimp only at hK'; rw [g3]; go_big_quiet_op; go_big_quiet_on; (repeat (go_big_quiet_step (fail))); refine wpQuiet_nil ?_
              refine ⟨_, _, _, _, _, _, rfl, .inl ⟨rfl, ?_, ?_⟩⟩
              · intro LL W hL hA hC
                obtain ⟨xg, q1, q2, q3⟩ := hC.lit3 (hA 3 (by kernel_rfl)) hL
                rw [g3] at q1
                injection q1 with f1 f2 f3
                injection f1 with f1
                injection f1 with f1
                subst f1
                have own0 := hC.p0 hL
                have hnew := World.news_of_block q2
                obtain ⟨g5, cap5, w5, hrun, own5, hgrow5, hat5, hlt5⟩ := run_append_lies (P := Try.prog) _ 33 33 w.heap.size 25 ip _ 3 32 Try.underlying33 hp0 hp1 hp2 hp3 rfl (by decide) _ _ _ own0 ⟨x3, 0, none⟩ 1 1 [.int .i64 (n : Int), .int .i64 kd, .string sb] rfl hnew (by simp [Value.oneCell']) (by omega) (by rw [maxLen_eq]; omega) (by omega) (by have := hC.base.size; omega) _ rfl
                refine MovesTo.append_ rfl rfl rfl hrun ?_
                exact ⟨⟨(fun e => by cases e), (fun e => by cases e), fun _ => ⟨_, _, rfl⟩, (fun e => by cases e), (fun e => by cases e)⟩, hC.app4 sB8 hL own5 hgrow5⟩
              · intro K' hK'; dsimp only at hK'; rw [g4']; go_big_quiet_op; go_big_quiet_on; (repeat (go_big_quiet_step (fail))); refine wpQuiet_nil ?_
                refine ⟨_, _, _, _, _, _, rfl, .inl ⟨rfl, ?_, ?_⟩⟩
                · intro LL W hL hA hC
                  refine ⟨?_⟩; go_simp; simp only [movesToUpon]
                  exact ⟨⟨(fun e => by cases e), (fun e => by cases e), (fun e => by cases e), fun _ => ⟨_, rfl⟩, (fun e => by cases e)⟩, hC.mk7 sB8⟩
                · intro K' hK'; dsimp only at hK'; rw [g7]; go_big_quiet_op; go_big_quiet_on; (repeat (go_big_quiet_step (fail))); refine wpQuiet_nil ?_
                  refine ⟨_, _, _, _, _, _, rfl, .inl ⟨rfl, ?_, ?_⟩⟩
                  · intro LL W hL hA hC
                    obtain ⟨xg, q1, q2, q3⟩ := hC.lit7 (hA 7 (by kernel_rfl)) hL
                    rw [g7] at q1
                    injection q1 with f1 f2 f3
                    injection f1 with f1
                    injection f1 with f1
                    subst f1
                    have own0 := hC.r0 hL
                    have hnew := World.news_of_block q2
                    obtain ⟨g5, cap5, w5, hrun, own5, hgrow5, hat5, hlt5⟩ := run_append_lies (P := Try.prog) _ 22 22 w.heap.size 32 ir _ 7 56 Try.underlying22 hr0 hr1 hr2 hr3 rfl (by decide) _ _ _ own0 ⟨x7, 0, none⟩ 1 1 [.int .u32 s, .bool y, .int .i64 c, .int .u32 t, .int .u32 p, .int .u32 b, .slice a6 n c6] rfl hnew (by simp [Value.oneCell']) (by omega) (by rw [maxLen_eq]; omega) (by omega) (by have := hC.base.size; omega) _ rfl
                    refine MovesTo.append_ rfl rfl rfl hrun ?_
                    exact ⟨⟨(fun e => by cases e), (fun e => by cases e), (fun e => by cases e), (fun e => by cases e), fun _ => ⟨_, _, rfl⟩⟩, hC.app8 sB8 hL own5 hgrow5⟩
                  · intro K' hK'; dsimp only at hK'; rw [g8]; go_big_quiet_op; go_big_quiet_on; (repeat (go_big_quiet_step (fail))); refine wpQuiet_nil ?_
                    intro LL w9 hL hC
                    have P9 := hC.p1 (hL 4 (by decide))
                    rw [g4'] at P9
                    have R9 := hC.r1 (hL 8 (by decide))
                    rw [g8] at R9
                    have rows9 := rows8.keep P8 R8 hC.keep
                    have own9 := own_at own8 (w' := w9) (fun j hj => hC.keep j (own8.lt j hj).2 (own_types own8 P8 (by decide) hj) (own_types own8 R8 (by decide) hj))
                    have B9 := B8.trans hC.base
                    have HLEN : Hid ((rs ++ [(⟨s, y, c, t, p, b, a6, n, c6, xs⟩ : RpR)]).length = m + 1) := Lib.hid (by rw [List.length_append, HRL.out]; rfl)
                    clear hC hL hG g2 g3 g4' g7 g8 E8 hne P8 R8 rows8 own8 K8 B8 nP nR l8
                    go_wp2_with fail
                    go_roundw
                    case rel => exact ⟨k + 1, m + 1, rs ++ [⟨s, y, c, t, p, b, a6, n, c6, xs⟩], _, _, _, _, by omega, by omega, by omega, rfl, rfl, by go_num, HLEN.out, by rw [HRP.out]; exact P9, by rw [HRR.out]; exact R9, rows9.snoc own9, ok_snoc HOK.out HX.out, B9⟩
                    case measure => simp only [intOf]; omega
    · clear HS HIN
      by_cases hlt : k < a0l
      · have q1 : (k : Int) < (a0l : Int) := by omega
        have q2 : ¬ (k : Int) < 6 := by omega
        have SP : PcAt wr pa m pc (rs.map RpR.pc) := PcAt.of_own ownP (by rw [List.length_map, HRL.out])
        have hpl := pieces_len HOK.out (by rw [HRL.out]; omega)
        have hpo : ∀ x ∈ rs.map RpR.pc, x.Ok := fun x hx => by
          obtain ⟨y, hy, rfl⟩ := List.mem_map.1 hx
          exact (HOK.out y hy).pcOk
        have HPK := Lib.hid (pc_Pack pa m pc (rs.map RpR.pc) wr SP hpo (by omega) (by omega))
        obtain ⟨sp, hsp⟩ : ∃ s, strOfNums ((rs.map RpR.pc).flatMap bytP) = s := ⟨_, rfl⟩
        rw [hsp] at HPK
        have HSL := Lib.hid (fun W => pc_Split sp (rs.map RpR.pc) m (by rw [List.length_map, HRL.out]) (by rw [← hsp]; exact pieces_str _) hpo (by omega) (by omega) W)
        clear SP hpl hpo hsp ownP
        go_wp2_with fail
        refine HPK.out.mono ?_
        rintro e w3 ⟨rfl, hb3⟩
        go_wp2_with fail
        refine (HSL.out w3).mono ?_
        rintro e w4 ⟨ga, gc, rfl, ownG, hb4⟩
        have B3 := below_then B hb3 (Nat.le_refl _)
        have B4 := below_then B3 hb4 (Nat.le_refl _)
        have R4 := own_lasts (own_lasts ownR hb3) hb4
        have rows4 := (rows.below hb3).below hb4
        obtain ⟨a1', c1', e1, SR⟩ := SliceOf.of_rowG RpR.cells_len zRp R4 HRL.out
        injection e1 with e1 e2 e3
        subst e1 e3
        have SG : PcAt w4 ga m gc (rs.map RpR.pc) := PcAt.of_own ownG (by rw [List.length_map, HRL.out])
        clear hb3 hb4 B B3 ownR rows R4 ownG HPK HSL
        go_wp2_with fail
        obtain ⟨wl, hwl⟩ : ∃ wl, wl = wr := ⟨_, rfl⟩
        subst hwl
        go_loopw [74] (fun x wr => ∃ j : Nat, j ≤ m ∧ x = .int .i64 j ∧ Below w4.heap.size w4 wr ∧ Below w.heap.size w wr) (fun x _ => m - (intOf x).toNat)
        case atStart => exact ⟨0, by omega, rfl, Below.refl _ _, B4⟩
        case round =>
          clear B4
          obtain ⟨j, hjm, rfl, Bl, B⟩ := hrel
          by_cases hlt : j < m
          · obtain ⟨gg, goff, rfl, hgg, hgc⟩ := SG.at_ (by omega)
            obtain ⟨rg, roff, rfl, hrg, hrc⟩ := SR.2.2 (by omega)
            obtain ⟨x, hx, hcx⟩ := hgc j hlt
            rw [List.getElem?_map] at hx
            obtain ⟨r, hr, rfl⟩ := Option.map_eq_some_iff.1 hx
            have hok := HOK.out r (List.mem_of_getElem? hr)
            have hgd : rs.getD j zRp = r := by rw [List.getD_eq_getElem?_getD, hr]; rfl
            have hrj := hrc j hlt
            simp only [hgd] at hrj
            have own1 := rows4 r (List.mem_of_getElem? hr)
            obtain ⟨s, y, c, t, p, b, la, n, cp, l⟩ := r
            have S1 := BkAt.of_own own1 hok.len
            obtain ⟨o1, o2, o3, o4, o5, o6, o7, o8⟩ := hok
            simp only at o1 o2 o3 o4 o5 o6 o7 o8 own1 S1
            have hsb := RpR.bytes_body ⟨s, y, c, t, p, b, la, n, cp, l⟩
            obtain ⟨sb, hsb2⟩ : ∃ sb, strOfNums (RpR.body ⟨s, y, c, t, p, b, la, n, cp, l⟩) = sb := ⟨_, rfl⟩
            rw [hsb2] at hsb
            have HOF := Lib.hid (fun W => rep_Of s y c t p b l sb hsb o1 o2 o3 o4 o5 o6 n o7 W)
            obtain ⟨kd, hkd⟩ : ∃ kd, kindR y = kd := ⟨_, rfl⟩
            rw [hkd] at HOF
            have e0 := (Bl.cell (p := ⟨gg, goff + j * 3, none⟩) hgg).trans (hcx 0 (.int .i64 (n : Int)) rfl)
            have e1 := (Bl.cell (p := ⟨gg, goff + j * 3 + 1, none⟩) hgg).trans (hcx 1 (.int .i64 kd) (by rw [← hkd]; rfl))
            have e2 := (Bl.cell (p := ⟨gg, goff + j * 3 + 2, none⟩) hgg).trans (hcx 2 (.string sb) (by rw [← hsb2]; rfl))
            have d0 := (Bl.cell (p := ⟨rg, roff + j * 7, none⟩) hrg).trans (hrj 0 _ rfl)
            have d1 := (Bl.cell (p := ⟨rg, roff + j * 7 + 1, none⟩) hrg).trans (hrj 1 _ rfl)
            have d2 := (Bl.cell (p := ⟨rg, roff + j * 7 + 2, none⟩) hrg).trans (hrj 2 _ rfl)
            have d3 := (Bl.cell (p := ⟨rg, roff + j * 7 + 3, none⟩) hrg).trans (hrj 3 _ rfl)
            have d4 := (Bl.cell (p := ⟨rg, roff + j * 7 + 4, none⟩) hrg).trans (hrj 4 _ rfl)
            have d5 := (Bl.cell (p := ⟨rg, roff + j * 7 + 5, none⟩) hrg).trans (hrj 5 _ rfl)
            have d6 := (Bl.cell (p := ⟨rg, roff + j * 7 + 6, none⟩) hrg).trans (hrj 6 _ rfl)
            simp only at e0 e1 e2 d0 d1 d2 d3 d4 d5 d6
            have HTO := Lib.hid (fun W la cp (S : BkAt W la n cp l) => law08_Told s y c t p b la n cp l o2 o3 o4 o5 o6 (by omega) W S)
            have HSA := Lib.hid (fun W a1 a2 q1 q2 (S1 : RdAt W a1 n q1 l) (S2 : RdAt W a2 n q2 l) => law08_Same s y c t p b a1 a2 n q1 q2 l (by omega) W S1 S2)
            have HLN := Lib.hid o7
            have S1 := S1.below Bl
            have i0 : (0 : Int) ≤ (j : Int) := by omega
            have i1 : (j : Int) < (m : Int) := by omega
            have hrl2 : rg < wr.heap.size := Nat.lt_of_lt_of_le hrg Bl.size
            clear hx hr hcx hgd hrj own1 hsb hsb2 hkd hgc hrc o1 o2 o3 o4 o5 o6 o7 o8
            have K10 := Blk.new wr 25 #[.int .i64 (n : Int), .int .i64 kd, .string sb]
            have B10 : Below wr.heap.size wr (wr.alloc (.cells #[.int .i64 (n : Int), .int .i64 kd, .string sb] 25)) := (Below.refl _ wr).alloc (Nat.le_refl _) _
            go_upto_region 18 with fail
            obtain ⟨g10, hg10⟩ : ∃ g, wr.heap.size = g := ⟨_, rfl⟩
            rw [hg10] at K10 ⊢
            generalize wr.alloc (.cells #[.int .i64 (n : Int), .int .i64 kd, .string sb] 25) = w5 at *
            have k10 := K10.cell
            simp at k10
            clear e0 e1 e2 hg10
            go_wp2_with fail
            refine (HOF.out _).mono ?_
            rintro e w6 ⟨la2, cp2, rfl, S2, hb6⟩
            have B6 := below_then B10 hb6 (Nat.le_refl _)
            have K11 := Blk.new w6 32 #[.int .u32 s, .bool y, .int .i64 c, .int .u32 t, .int .u32 p, .int .u32 b, .slice la2 n cp2]
            have B11 : Below w6.heap.size w6 (w6.alloc (.cells #[.int .u32 s, .bool y, .int .i64 c, .int .u32 t, .int .u32 p, .int .u32 b, .slice la2 n cp2] 32)) := (Below.refl _ w6).alloc (Nat.le_refl _) _
            clear k10 K10 B10 hb6 HOF
            go_upto_region 19 with fail
            obtain ⟨g11, hg11⟩ : ∃ g, w6.heap.size = g := ⟨_, rfl⟩
            have B7 := below_then B6 B11 (Nat.le_refl _)
            have S27 := S2.below B11
            rw [hg11] at K11 ⊢
            generalize w6.alloc (.cells #[.int .u32 s, .bool y, .int .i64 c, .int .u32 t, .int .u32 p, .int .u32 b, .slice la2 n cp2] 32) = w7 at *
            clear hg11 B11 B6 S2
            have S17 := S1.below B7
            have D0 := (B7.cell (p := ⟨rg, roff + j * 7, none⟩) hrl2).trans d0
            have D1 := (B7.cell (p := ⟨rg, roff + j * 7 + 1, none⟩) hrl2).trans d1
            have D2 := (B7.cell (p := ⟨rg, roff + j * 7 + 2, none⟩) hrl2).trans d2
            have D3 := (B7.cell (p := ⟨rg, roff + j * 7 + 3, none⟩) hrl2).trans d3
            have D4 := (B7.cell (p := ⟨rg, roff + j * 7 + 4, none⟩) hrl2).trans d4
            have D5 := (B7.cell (p := ⟨rg, roff + j * 7 + 5, none⟩) hrl2).trans d5
            have D6 := (B7.cell (p := ⟨rg, roff + j * 7 + 6, none⟩) hrl2).trans d6
            have hl7 : rg < w7.heap.size := Nat.lt_of_lt_of_le hrl2 B7.size
            have hne : Nonempty (UWF (Facts w7 (FRp s y c t p b n l))) := Facts.ne w7 _
            have E11 := fun (gx : UWF (Facts w7 (FRp s y c t p b n l))) => (K11.below gx.holds.below K11.lt).cell
            have E0 := fun (gx : UWF (Facts w7 (FRp s y c t p b n l))) => (gx.holds.below.cell (p := ⟨rg, roff + j * 7, none⟩) hl7).trans D0
            have E1 := fun (gx : UWF (Facts w7 (FRp s y c t p b n l))) => (gx.holds.below.cell (p := ⟨rg, roff + j * 7 + 1, none⟩) hl7).trans D1
            have E2 := fun (gx : UWF (Facts w7 (FRp s y c t p b n l))) => (gx.holds.below.cell (p := ⟨rg, roff + j * 7 + 2, none⟩) hl7).trans D2
            have E3 := fun (gx : UWF (Facts w7 (FRp s y c t p b n l))) => (gx.holds.below.cell (p := ⟨rg, roff + j * 7 + 3, none⟩) hl7).trans D3
            have E4 := fun (gx : UWF (Facts w7 (FRp s y c t p b n l))) => (gx.holds.below.cell (p := ⟨rg, roff + j * 7 + 4, none⟩) hl7).trans D4
            have E5 := fun (gx : UWF (Facts w7 (FRp s y c t p b n l))) => (gx.holds.below.cell (p := ⟨rg, roff + j * 7 + 5, none⟩) hl7).trans D5
            have E6 := fun (gx : UWF (Facts w7 (FRp s y c t p b n l))) => (gx.holds.below.cell (p := ⟨rg, roff + j * 7 + 6, none⟩) hl7).trans D6
            simp at E11 E0 E1 E2 E3 E4 E5 E6
            clear d0 d1 d2 d3 d4 d5 d6 D0 D1 D2 D3 D4 D5 D6
            refine wp_region_free [(0, 4, some 4), (5, 4, some 9), (10, 0, some 10), (11, 2, none)] (Facts w7 (FRp s y c t p b n l)) (GRp s y c t p b n) (fun q => if q = 10 then .bool true else .agg #[.int .i64 s, .bool y, .int .i64 c, .int .i64 t, .int .i64 p, .int .i64 b, .slice none n 0]) (by kernel_rfl) (by kernel_rfl) ?_ ?_ ?_ ?_
            · intro z hz LL G W hC
              simp [moversI] at hz
              refine hC.quiet (fun v V => ⟨fun hi => ?_, fun hi => ?_⟩)
              · omega
              · omega
            · exact Facts.start _ _ _
            · intro q
              exact ⟨fun e => by subst e; exact ⟨_, _, rfl⟩, fun e => by subst e; exact ⟨_, _, rfl⟩, fun e => by subst e; rfl⟩
            · intro G hG
              obtain ⟨x4, y4, g4⟩ := (hG 4).a4 rfl
              obtain ⟨x9, y9, g9⟩ := (hG 9).a9 rfl
              have g10' := (hG 10).a10 rfl
              simp only [walkF, List.drop_zero, List.drop_succ_cons, List.take_succ_cons, List.take_zero, List.toList_toArray]; (repeat (go_big_quiet_step (fail))); refine wpQuiet_nil ?_
              refine ⟨_, _, _, _, _, _, rfl, .inl ⟨rfl, ?_, ?_⟩⟩
              · intro LL W hL hA hC
                refine ⟨?_⟩; go_simp; simp only [movesToUpon]
                refine (HTO.out W _ _ (S27.below hC.below)).mono ?_
                rintro e w' ⟨ta, tc, rfl, ownT, hb'⟩
                exact ⟨_, rfl, ⟨fun _ => ⟨_, _, rfl⟩, (fun e => by cases e), (fun e => by cases e)⟩, hC.add (FRp_lasts _ _ _ _ _ _ _ _) hb' ⟨fun _ => ⟨_, _, rfl, RdAt.of_own ownT HLN.out⟩, (fun e => by cases e)⟩⟩
              · intro K' hK'; dsimp only at hK'; rw [g4]; go_big_quiet_op; go_big_quiet_on; (repeat (go_big_quiet_step (fail))); refine wpQuiet_nil ?_
                refine ⟨_, _, _, _, _, _, rfl, .inl ⟨rfl, ?_, ?_⟩⟩
                · intro LL W hL hA hC
                  refine ⟨?_⟩; go_simp; simp only [movesToUpon]
                  refine (HTO.out W _ _ (S17.below hC.below)).mono ?_
                  rintro e w' ⟨ta, tc, rfl, ownT, hb'⟩
                  exact ⟨_, rfl, ⟨(fun e => by cases e), fun _ => ⟨_, _, rfl⟩, (fun e => by cases e)⟩, hC.add (FRp_lasts _ _ _ _ _ _ _ _) hb' ⟨(fun e => by cases e), fun _ => ⟨_, _, rfl, RdAt.of_own ownT HLN.out⟩⟩⟩
                · intro K' hK'; dsimp only at hK'; rw [g9]; go_big_quiet_op; go_big_quiet_on; (repeat (go_big_quiet_step (fail))); refine wpQuiet_nil ?_
                  refine ⟨_, _, _, _, _, _, rfl, .inl ⟨rfl, ?_, ?_⟩⟩
                  · intro LL W hL hA hC
                    obtain ⟨ta, tc, q1, T1⟩ := (hC.fact 4 (hA 4 (by kernel_rfl))).1 rfl
                    obtain ⟨ua, uc, q2, T2⟩ := (hC.fact 9 (hA 9 (by kernel_rfl))).2 rfl
                    rw [g4] at q1
                    rw [g9] at q2
                    simp at q1 q2
                    obtain ⟨rfl, rfl⟩ := q1
                    obtain ⟨rfl, rfl⟩ := q2
                    refine ⟨?_⟩; go_simp; simp only [movesToUpon]
                    refine (HSA.out W _ _ _ _ T1 T2).mono ?_
                    rintro e w' ⟨rfl, hb'⟩
                    exact ⟨_, rfl, ⟨(fun e => by cases e), (fun e => by cases e), fun _ => rfl⟩, hC.add (FRp_lasts _ _ _ _ _ _ _ _) hb' ⟨(fun e => by cases e), (fun e => by cases e)⟩⟩
                  · intro K' hK'; dsimp only at hK'; rw [g10']; go_big_quiet_op; go_big_quiet_on; (repeat (go_big_quiet_step (fail))); refine wpQuiet_nil ?_
                    intro LL w9 hL hC
                    have B9 := B7.trans (hC.below.mono B7.size)
                    have Bl9 := below_then Bl B9 (Nat.le_refl _)
                    have Bw9 := below_then B B9 (Nat.le_refl _)
                    clear hC hL hG g4 g9 g10' E11 E0 E1 E2 E3 E4 E5 E6 hne K11 S17 S27 S1 B7 B9 Bl B
                    go_wp2_with fail
                    go_roundw
                    case rel => exact ⟨j + 1, by omega, by go_num, Bl9, Bw9⟩
                    case measure => simp only [intOf]; omega
          · obtain rfl : j = m := by omega
            go_wp2_with fail
            go_ret
            exact ⟨rfl, B⟩
      · have q1 : ¬ (k : Int) < (a0l : Int) := by omega
        have SP : PcAt wr pa m pc (rs.map RpR.pc) := PcAt.of_own ownP (by rw [List.length_map, HRL.out])
        have hpl := pieces_len HOK.out (by rw [HRL.out]; omega)
        have hpo : ∀ x ∈ rs.map RpR.pc, x.Ok := fun x hx => by
          obtain ⟨y, hy, rfl⟩ := List.mem_map.1 hx
          exact (HOK.out y hy).pcOk
        have HPK := Lib.hid (pc_Pack pa m pc (rs.map RpR.pc) wr SP hpo (by omega) (by omega))
        obtain ⟨sp, hsp⟩ : ∃ s, strOfNums ((rs.map RpR.pc).flatMap bytP) = s := ⟨_, rfl⟩
        rw [hsp] at HPK
        have HSL := Lib.hid (fun W => pc_Split sp (rs.map RpR.pc) m (by rw [List.length_map, HRL.out]) (by rw [← hsp]; exact pieces_str _) hpo (by omega) (by omega) W)
        clear SP hpl hpo hsp ownP
        go_wp2_with fail
        refine HPK.out.mono ?_
        rintro e w3 ⟨rfl, hb3⟩
        go_wp2_with fail
        refine (HSL.out w3).mono ?_
        rintro e w4 ⟨ga, gc, rfl, ownG, hb4⟩
        have B3 := below_then B hb3 (Nat.le_refl _)
        have B4 := below_then B3 hb4 (Nat.le_refl _)
        have R4 := own_lasts (own_lasts ownR hb3) hb4
        have rows4 := (rows.below hb3).below hb4
        obtain ⟨a1', c1', e1, SR⟩ := SliceOf.of_rowG RpR.cells_len zRp R4 HRL.out
        injection e1 with e1 e2 e3
        subst e1 e3
        have SG : PcAt w4 ga m gc (rs.map RpR.pc) := PcAt.of_own ownG (by rw [List.length_map, HRL.out])
        clear hb3 hb4 B B3 ownR rows R4 ownG HPK HSL
        go_wp2_with fail
        obtain ⟨wl, hwl⟩ : ∃ wl, wl = wr := ⟨_, rfl⟩
        subst hwl
        go_loopw [74] (fun x wr => ∃ j : Nat, j ≤ m ∧ x = .int .i64 j ∧ Below w4.heap.size w4 wr ∧ Below w.heap.size w wr) (fun x _ => m - (intOf x).toNat)
        case atStart => exact ⟨0, by omega, rfl, Below.refl _ _, B4⟩
        case round =>
          clear B4
          obtain ⟨j, hjm, rfl, Bl, B⟩ := hrel
          by_cases hlt : j < m
          · obtain ⟨gg, goff, rfl, hgg, hgc⟩ := SG.at_ (by omega)
            obtain ⟨rg, roff, rfl, hrg, hrc⟩ := SR.2.2 (by omega)
            obtain ⟨x, hx, hcx⟩ := hgc j hlt
            rw [List.getElem?_map] at hx
            obtain ⟨r, hr, rfl⟩ := Option.map_eq_some_iff.1 hx
            have hok := HOK.out r (List.mem_of_getElem? hr)
            have hgd : rs.getD j zRp = r := by rw [List.getD_eq_getElem?_getD, hr]; rfl
            have hrj := hrc j hlt
            simp only [hgd] at hrj
            have own1 := rows4 r (List.mem_of_getElem? hr)
            obtain ⟨s, y, c, t, p, b, la, n, cp, l⟩ := r
            have S1 := BkAt.of_own own1 hok.len
            obtain ⟨o1, o2, o3, o4, o5, o6, o7, o8⟩ := hok
            simp only at o1 o2 o3 o4 o5 o6 o7 o8 own1 S1
            have hsb := RpR.bytes_body ⟨s, y, c, t, p, b, la, n, cp, l⟩
            obtain ⟨sb, hsb2⟩ : ∃ sb, strOfNums (RpR.body ⟨s, y, c, t, p, b, la, n, cp, l⟩) = sb := ⟨_, rfl⟩
            rw [hsb2] at hsb
            have HOF := Lib.hid (fun W => rep_Of s y c t p b l sb hsb o1 o2 o3 o4 o5 o6 n o7 W)
            obtain ⟨kd, hkd⟩ : ∃ kd, kindR y = kd := ⟨_, rfl⟩
            rw [hkd] at HOF
            have e0 := (Bl.cell (p := ⟨gg, goff + j * 3, none⟩) hgg).trans (hcx 0 (.int .i64 (n : Int)) rfl)
            have e1 := (Bl.cell (p := ⟨gg, goff + j * 3 + 1, none⟩) hgg).trans (hcx 1 (.int .i64 kd) (by rw [← hkd]; rfl))
            have e2 := (Bl.cell (p := ⟨gg, goff + j * 3 + 2, none⟩) hgg).trans (hcx 2 (.string sb) (by rw [← hsb2]; rfl))
            have d0 := (Bl.cell (p := ⟨rg, roff + j * 7, none⟩) hrg).trans (hrj 0 _ rfl)
            have d1 := (Bl.cell (p := ⟨rg, roff + j * 7 + 1, none⟩) hrg).trans (hrj 1 _ rfl)
            have d2 := (Bl.cell (p := ⟨rg, roff + j * 7 + 2, none⟩) hrg).trans (hrj 2 _ rfl)
            have d3 := (Bl.cell (p := ⟨rg, roff + j * 7 + 3, none⟩) hrg).trans (hrj 3 _ rfl)
            have d4 := (Bl.cell (p := ⟨rg, roff + j * 7 + 4, none⟩) hrg).trans (hrj 4 _ rfl)
            have d5 := (Bl.cell (p := ⟨rg, roff + j * 7 + 5, none⟩) hrg).trans (hrj 5 _ rfl)
            have d6 := (Bl.cell (p := ⟨rg, roff + j * 7 + 6, none⟩) hrg).trans (hrj 6 _ rfl)
            simp only at e0 e1 e2 d0 d1 d2 d3 d4 d5 d6
            have HTO := Lib.hid (fun W la cp (S : BkAt W la n cp l) => law08_Told s y c t p b la n cp l o2 o3 o4 o5 o6 (by omega) W S)
            have HSA := Lib.hid (fun W a1 a2 q1 q2 (S1 : RdAt W a1 n q1 l) (S2 : RdAt W a2 n q2 l) => law08_Same s y c t p b a1 a2 n q1 q2 l (by omega) W S1 S2)
            have HLN := Lib.hid o7
            have S1 := S1.below Bl
            have i0 : (0 : Int) ≤ (j : Int) := by omega
            have i1 : (j : Int) < (m : Int) := by omega
            have hrl2 : rg < wr.heap.size := Nat.lt_of_lt_of_le hrg Bl.size
            clear hx hr hcx hgd hrj own1 hsb hsb2 hkd hgc hrc o1 o2 o3 o4 o5 o6 o7 o8
            have K10 := Blk.new wr 25 #[.int .i64 (n : Int), .int .i64 kd, .string sb]
            have B10 : Below wr.heap.size wr (wr.alloc (.cells #[.int .i64 (n : Int), .int .i64 kd, .string sb] 25)) := (Below.refl _ wr).alloc (Nat.le_refl _) _
            go_upto_region 18 with fail
            obtain ⟨g10, hg10⟩ : ∃ g, wr.heap.size = g := ⟨_, rfl⟩
            rw [hg10] at K10 ⊢
            generalize wr.alloc (.cells #[.int .i64 (n : Int), .int .i64 kd, .string sb] 25) = w5 at *
            have k10 := K10.cell
            simp at k10
            clear e0 e1 e2 hg10
            go_wp2_with fail
            refine (HOF.out _).mono ?_
            rintro e w6 ⟨la2, cp2, rfl, S2, hb6⟩
            have B6 := below_then B10 hb6 (Nat.le_refl _)
            have K11 := Blk.new w6 32 #[.int .u32 s, .bool y, .int .i64 c, .int .u32 t, .int .u32 p, .int .u32 b, .slice la2 n cp2]
            have B11 : Below w6.heap.size w6 (w6.alloc (.cells #[.int .u32 s, .bool y, .int .i64 c, .int .u32 t, .int .u32 p, .int .u32 b, .slice la2 n cp2] 32)) := (Below.refl _ w6).alloc (Nat.le_refl _) _
            clear k10 K10 B10 hb6 HOF
            go_upto_region 19 with fail
            obtain ⟨g11, hg11⟩ : ∃ g, w6.heap.size = g := ⟨_, rfl⟩
            have B7 := below_then B6 B11 (Nat.le_refl _)
            have S27 := S2.below B11
            rw [hg11] at K11 ⊢
            generalize w6.alloc (.cells #[.int .u32 s, .bool y, .int .i64 c, .int .u32 t, .int .u32 p, .int .u32 b, .slice la2 n cp2] 32) = w7 at *
            clear hg11 B11 B6 S2
            have S17 := S1.below B7
            have D0 := (B7.cell (p := ⟨rg, roff + j * 7, none⟩) hrl2).trans d0
            have D1 := (B7.cell (p := ⟨rg, roff + j * 7 + 1, none⟩) hrl2).trans d1
            have D2 := (B7.cell (p := ⟨rg, roff + j * 7 + 2, none⟩) hrl2).trans d2
            have D3 := (B7.cell (p := ⟨rg, roff + j * 7 + 3, none⟩) hrl2).trans d3
            have D4 := (B7.cell (p := ⟨rg, roff + j * 7 + 4, none⟩) hrl2).trans d4
            have D5 := (B7.cell (p := ⟨rg, roff + j * 7 + 5, none⟩) hrl2).trans d5
            have D6 := (B7.cell (p := ⟨rg, roff + j * 7 + 6, none⟩) hrl2).trans d6
            have hl7 : rg < w7.heap.size := Nat.lt_of_lt_of_le hrl2 B7.size
            have hne : Nonempty (UWF (Facts w7 (FRp s y c t p b n l))) := Facts.ne w7 _
            have E11 := fun (gx : UWF (Facts w7 (FRp s y c t p b n l))) => (K11.below gx.holds.below K11.lt).cell
            have E0 := fun (gx : UWF (Facts w7 (FRp s y c t p b n l))) => (gx.holds.below.cell (p := ⟨rg, roff + j * 7, none⟩) hl7).trans D0
            have E1 := fun (gx : UWF (Facts w7 (FRp s y c t p b n l))) => (gx.holds.below.cell (p := ⟨rg, roff + j * 7 + 1, none⟩) hl7).trans D1
            have E2 := fun (gx : UWF (Facts w7 (FRp s y c t p b n l))) => (gx.holds.below.cell (p := ⟨rg, roff + j * 7 + 2, none⟩) hl7).trans D2
            have E3 := fun (gx : UWF (Facts w7 (FRp s y c t p b n l))) => (gx.holds.below.cell (p := ⟨rg, roff + j * 7 + 3, none⟩) hl7).trans D3
            have E4 := fun (gx : UWF (Facts w7 (FRp s y c t p b n l))) => (gx.holds.below.cell (p := ⟨rg, roff + j * 7 + 4, none⟩) hl7).trans D4
            have E5 := fun (gx : UWF (Facts w7 (FRp s y c t p b n l))) => (gx.holds.below.cell (p := ⟨rg, roff + j * 7 + 5, none⟩) hl7).trans D5
            have E6 := fun (gx : UWF (Facts w7 (FRp s y c t p b n l))) => (gx.holds.below.cell (p := ⟨rg, roff + j * 7 + 6, none⟩) hl7).trans D6
            simp at E11 E0 E1 E2 E3 E4 E5 E6
            clear d0 d1 d2 d3 d4 d5 d6 D0 D1 D2 D3 D4 D5 D6
            refine wp_region_free [(0, 4, some 4), (5, 4, some 9), (10, 0, some 10), (11, 2, none)] (Facts w7 (FRp s y c t p b n l)) (GRp s y c t p b n) (fun q => if q = 10 then .bool true else .agg #[.int .i64 s, .bool y, .int .i64 c, .int .i64 t, .int .i64 p, .int .i64 b, .slice none n 0]) (by kernel_rfl) (by kernel_rfl) ?_ ?_ ?_ ?_
            · intro z hz LL G W hC
              simp [moversI] at hz
              refine hC.quiet (fun v V => ⟨fun hi => ?_, fun hi => ?_⟩)
              · omega
              · omega
            · exact Facts.start _ _ _
            · intro q
              exact ⟨fun e => by subst e; exact ⟨_, _, rfl⟩, fun e => by subst e; exact ⟨_, _, rfl⟩, fun e => by subst e; rfl⟩
            · intro G hG
              obtain ⟨x4, y4, g4⟩ := (hG 4).a4 rfl
              obtain ⟨x9, y9, g9⟩ := (hG 9).a9 rfl
              have g10' := (hG 10).a10 rfl
              simp only [walkF, List.drop_zero, List.drop_succ_cons, List.take_succ_cons, List.take_zero, List.toList_toArray]; (repeat (go_big_quiet_step (fail))); refine wpQuiet_nil ?_
              refine ⟨_, _, _, _, _, _, rfl, .inl ⟨rfl, ?_, ?_⟩⟩
              · intro LL W hL hA hC
                refine ⟨?_⟩; go_simp; simp only [movesToUpon]
                refine (HTO.out W _ _ (S27.below hC.below)).mono ?_
                rintro e w' ⟨ta, tc, rfl, ownT, hb'⟩
                exact ⟨_, rfl, ⟨fun _ => ⟨_, _, rfl⟩, (fun e => by cases e), (fun e => by cases e)⟩, hC.add (FRp_lasts _ _ _ _ _ _ _ _) hb' ⟨fun _ => ⟨_, _, rfl, RdAt.of_own ownT HLN.out⟩, (fun e => by cases e)⟩⟩
              · intro K' hK'; dsimp only at hK'; rw [g4]; go_big_quiet_op; go_big_quiet_on; (repeat (go_big_quiet_step (fail))); refine wpQuiet_nil ?_
                refine ⟨_, _, _, _, _, _, rfl, .inl ⟨rfl, ?_, ?_⟩⟩
                · intro LL W hL hA hC
                  refine ⟨?_⟩; go_simp; simp only [movesToUpon]
                  refine (HTO.out W _ _ (S17.below hC.below)).mono ?_
                  rintro e w' ⟨ta, tc, rfl, ownT, hb'⟩
                  exact ⟨_, rfl, ⟨(fun e => by cases e), fun _ => ⟨_, _, rfl⟩, (fun e => by cases e)⟩, hC.add (FRp_lasts _ _ _ _ _ _ _ _) hb' ⟨(fun e => by cases e), fun _ => ⟨_, _, rfl, RdAt.of_own ownT HLN.out⟩⟩⟩
                · intro K' hK'; dsimp only at hK'; rw [g9]; go_big_quiet_op; go_big_quiet_on; (repeat (go_big_quiet_step (fail))); refine wpQuiet_nil ?_
                  refine ⟨_, _, _, _, _, _, rfl, .inl ⟨rfl, ?_, ?_⟩⟩
                  · intro LL W hL hA hC
                    obtain ⟨ta, tc, q1, T1⟩ := (hC.fact 4 (hA 4 (by kernel_rfl))).1 rfl
                    obtain ⟨ua, uc, q2, T2⟩ := (hC.fact 9 (hA 9 (by kernel_rfl))).2 rfl
                    rw [g4] at q1
                    rw [g9] at q2
                    simp at q1 q2
                    obtain ⟨rfl, rfl⟩ := q1
                    obtain ⟨rfl, rfl⟩ := q2
                    refine ⟨?_⟩; go_simp; simp only [movesToUpon]
                    refine (HSA.out W _ _ _ _ T1 T2).mono ?_
                    rintro e w' ⟨rfl, hb'⟩
                    exact ⟨_, rfl, ⟨(fun e => by cases e), (fun e => by cases e), fun _ => rfl⟩, hC.add (FRp_lasts _ _ _ _ _ _ _ _) hb' ⟨(fun e => by cases e), (fun e => by cases e)⟩⟩
                  · intro K' hK'; dsimp only at hK'; rw [g10']; go_big_quiet_op; go_big_quiet_on; (repeat (go_big_quiet_step (fail))); refine wpQuiet_nil ?_
                    intro LL w9 hL hC
                    have B9 := B7.trans (hC.below.mono B7.size)
                    have Bl9 := below_then Bl B9 (Nat.le_refl _)
                    have Bw9 := below_then B B9 (Nat.le_refl _)
                    clear hC hL hG g4 g9 g10' E11 E0 E1 E2 E3 E4 E5 E6 hne K11 S17 S27 S1 B7 B9 Bl B
                    go_wp2_with fail
                    go_roundw
                    case rel => exact ⟨j + 1, by omega, by go_num, Bl9, Bw9⟩
                    case measure => simp only [intOf]; omega
          · obtain rfl : j = m := by omega
            go_wp2_with fail
            go_ret
            exact ⟨rfl, B⟩
end Go.Proofs.Ytolgdcchnmbmnaa
