/- GapsClone, walked. No condition. (Printed by gen_gda.py.) -/
import Derived.Test.YtonamlgipoannaaGapsPlay
namespace Go.Proofs.Ytonamlgipoannaa
open Go.RowKit BigFrame
attribute [local go_sem ↓] Go.wp_at_zero Go.wp_at_succ

theorem GGDown {w wl wr : World} {v : Value} (h : ∀ k, v.ownBlock = some k → wl.heap.size ≤ k) (hs : w.heap.size ≤ wl.heap.size) : ∀ k, v.ownBlock = some k → w.heap.size ≤ k := fun k hk => Nat.le_trans hs (h k hk)
set_option maxRecDepth 8000 in
set_option maxHeartbeats 16000000 in
theorem GapsClone_walk (a0a : Option Addr) (a0l a0c : Nat) (a0e0 : Nat → Int) (a0e1 : Nat → Int) (a0e2 : Nat → Int) (a1a : Option Addr) (a1l a1c : Nat) (a1e0 : Nat → Int) (a1e1 : Nat → Int) (a1e2 : Nat → Int) (w : World) (a0S : SliceOf w a0a a0l a0c 3 (fun i => [.int .i64 (a0e0 i), .int .i64 (a0e1 i), .int .i64 (a0e2 i)])) (a0F0 : ∀ i, i < a0l → (Lit.int .i64 (a0e0 i)).wf = true) (a0F1 : ∀ i, i < a0l → (Lit.int .i64 (a0e1 i)).wf = true) (a0F2 : ∀ i, i < a0l → (Lit.int .i64 (a0e2 i)).wf = true) (a1S : SliceOf w a1a a1l a1c 3 (fun i => [.int .i64 (a1e0 i), .int .i64 (a1e1 i), .int .i64 (a1e2 i)])) (a1F0 : ∀ i, i < a1l → (Lit.int .i64 (a1e0 i)).wf = true) (a1F1 : ∀ i, i < a1l → (Lit.int .i64 (a1e1 i)).wf = true) (a1F2 : ∀ i, i < a1l → (Lit.int .i64 (a1e2 i)).wf = true) :
    Calls Try.prog 10 #[.slice a0a a0l a0c, .slice a1a a1l a1c] w fun e w' => e = .returned (.bool true) ∧ Below w.heap.size w w' := by
  have HNew := Lib.hid (fun W => gaps_New 6 2 1 2 6 2 1 2 (by decide) (by decide) (by decide) (by decide) W)
  have HRN := Lib.hid (fun W => ref22_New 6 2 1 2 6 2 1 2 (by decide) (by decide) (by decide) (by decide) W)
  have GS := Lib.hid (Good.start (a := 6) (b := 2) (c := 1) (d := 2) (A := 6) (B := 2) (C := 1) (D := 2) (by decide) (by decide) (by decide) (by decide))
  have HS0 := Lib.hid a0S
  have HS1 := Lib.hid a1S
  have hl0 := a0S.size_le
  have hl1 := a1S.size_le
  clear a0S a0F0 a0F1 a0F2 a1S a1F0 a1F1 a1F2
  go_enter Try.func10, Try.ntmps10
  go_wp2_with fail
  refine (law22_awake _).mono ?_
  rintro e w0 ⟨rfl, B0⟩
  have hK := Blk.new w0 53 #[.int .i64 6, .int .i64 2, .int .i64 1, .int .i64 2]
  have B1 : Below w0.heap.size w0 (w0.alloc (.cells #[.int .i64 6, .int .i64 2, .int .i64 1, .int .i64 2] 53)) := (Below.refl _ w0).alloc (Nat.le_refl _) _
  go_upto_region 4 with fail
  have K1 := hK
  have B01 := below_then B0 B1 (Nat.le_refl _)
  generalize w0.alloc (.cells #[.int .i64 6, .int .i64 2, .int .i64 1, .int .i64 2] 53) = w1 at *
  clear hK B1 B0
  go_upto_region 4 with fail
  have hne : Nonempty (UWF (CMkG w1 6 2 1 2 false 0 0 [] #[.int .i64 6, .int .i64 2, .int .i64 1, .int .i64 2, .slice none 0 0, .bool false, .int .i64 0, .int .i64 0] 1 4 6)) := ⟨⟨fun _ => false, fun _ => undef, w1.drew, CMkG.start w1 _⟩⟩
  have EC := fun (gx : UWF (CMkG w1 6 2 1 2 false 0 0 [] #[.int .i64 6, .int .i64 2, .int .i64 1, .int .i64 2, .slice none 0 0, .bool false, .int .i64 0, .int .i64 0] 1 4 6)) => (K1.below gx.holds.below K1.lt).cell
  simp at EC
  refine wp_region_free [(0, 1, some 1), (2, 1, some 3), (4, 0, some 4), (5, 1, some 6), (7, 0, none)] (CMkG w1 6 2 1 2 false 0 0 [] #[.int .i64 6, .int .i64 2, .int .i64 1, .int .i64 2, .slice none 0 0, .bool false, .int .i64 0, .int .i64 0] 1 4 6) (GNwG (gval 6 2 1 2 false 0 0 none 0 0)) (fun q => if q = 3 then gval 6 2 1 2 false 0 0 none 0 0 else .pointer (some ⟨0, 0, none⟩)) (by kernel_rfl) (by kernel_rfl) ?_ ?_ ?_ ?_
  · intro z hz LL G W hC
    simp [moversI] at hz
    exact hC.quiet (by omega) (by omega) (by omega)
  · exact CMkG.start w1 _
  · intro z
    exact ⟨fun e => ⟨0, by subst e; rfl⟩, fun e => ⟨0, by subst e; rfl⟩, fun e => by subst e; rfl⟩
  · intro G hG
    obtain ⟨g, g1⟩ := (hG 1).one rfl
    have g3 := (hG 3).ref rfl
    obtain ⟨xb, g4⟩ := (hG 4).four rfl
    unfold gval at g3
    simp only [walkF, List.drop_zero, List.drop_succ_cons, List.take_succ_cons, List.take_zero, List.toList_toArray]; (repeat (go_big_quiet_step (fail))); refine wpQuiet_nil ?_
    refine ⟨_, _, _, _, _, _, rfl, .inl ⟨rfl, ?_, ?_⟩⟩
    · intro LL W hL hA hC
      refine ⟨?_⟩; go_simp; simp only [movesToUpon]
      refine (HNew.out W).mono ?_
      rintro e w' ⟨gc', rfl, q', hg', hB'⟩
      exact ⟨_, rfl, ⟨fun _ => ⟨_, rfl⟩, (fun e => by cases e), (fun e => by cases e)⟩, hC.call (by decide) (by decide) q' hg' (fun k e => by cases e) hB'⟩
    · intro K' hK'; dsimp only at hK'; rw [g1]; go_big_quiet_op; go_big_quiet_on; (repeat (go_big_quiet_step (fail))); refine wpQuiet_nil ?_
      refine ⟨_, _, _, _, _, _, rfl, .inl ⟨rfl, ?_, ?_⟩⟩
      · intro LL W hL hA hC
        refine ⟨?_⟩; go_simp; simp only [movesToUpon]
        refine (HRN.out W).mono ?_
        rintro e w' ⟨rfl, hB'⟩
        exact ⟨_, rfl, ⟨(fun e => by cases e), (fun e => by cases e), fun _ => rfl⟩, hC.adds hB' (by decide) (by decide) (by decide) _⟩
      · intro K' hK'; dsimp only at hK'; rw [g3]; go_big_quiet_op; go_big_quiet_on; (repeat (go_big_quiet_step (fail))); refine wpQuiet_nil ?_
        refine ⟨_, _, _, _, _, _, rfl, .inl ⟨rfl, ?_, ?_⟩⟩
        · intro LL W hL hA hC
          refine ⟨?_⟩; go_simp; simp only [movesToUpon]
          exact ⟨⟨(fun e => by cases e), fun _ => ⟨_, rfl⟩, (fun e => by cases e)⟩, hC.made (by decide) (by decide) hL⟩
        · intro K' hK'; dsimp only at hK'; rw [g4]; go_big_quiet_op; go_big_quiet_on; (repeat (go_big_quiet_step (fail))); refine wpQuiet_nil ?_
          refine ⟨_, _, _, _, _, _, rfl, .inl ⟨rfl, ?_, ?_⟩⟩
          · intro LL W hL hA hC
            obtain ⟨hx0, k0⟩ := hC.xb5 (hA 4 (by kernel_rfl)) hL g4
            have ck0 := k0.cell
            have fk0 := k0.frozen
            simp at ck0
            obtain ⟨wS, eS, KS, BS, hkS⟩ := eight_set k0 (.int .i64 6) (.int .i64 2) (.int .i64 1) (.int .i64 2) (.slice none 0 0) (.bool false) (.int .i64 0) (.int .i64 0) w1.heap.size hx0
            refine ⟨?_⟩; go_simp; simp only [movesToUpon]
            exact ⟨⟨(fun e => by cases e), (fun e => by cases e), (fun e => by cases e)⟩, hC.stored (by decide) (by decide) (hA 4 (by kernel_rfl)) g4 KS BS hkS _⟩
          · intro K' hK'; dsimp only at hK'; go_big_quiet_op; go_big_quiet_on; (repeat (go_big_quiet_step (fail))); refine wpQuiet_nil ?_
            intro LL w4 hL hC
            obtain ⟨v9, q9, hg9, hv9, K9, hx9, n1, n2⟩ := hC.done (hL 1 (by decide)) (hL 4 (by decide)) (hL 6 (by decide)) g1 g4
            have K4 := K1.below hC.below K1.lt
            have B04 := below_then B01 hC.below (Nat.le_refl _)
            have s01 := B01.size
            have HB0 : BothG w4 g xb 6 2 1 2 false 0 0 [] v9 none 0 0 := ⟨⟨q9, rowt_nil _, GS.out, fun r hr => by cases hr⟩, K9, n2, n1⟩
            have hgB : w.heap.size ≤ g := by omega
            have hxbB : w.heap.size ≤ xb := by omega
            have hv : ∀ k, v9.ownBlock = some k → w.heap.size ≤ k := fun k hk => by have := hv9 k hk; omega
            clear hC hL hG g1 g3 g4 EC hne K1 B01 q9 hg9 hv9 K9 hx9 n1 n2
            clear K4
            go_upto_region 8 with fail
            go_wp2_with fail
            go_loopw [8, 10] (fun x8 x10 wr => ∃ (i : Nat) (now : Int) (y : Bool) (e0 u : Int) (l : List WR) (v : Value) (sa : Option Addr) (n sc : Nat), i ≤ a0l ∧ i ≤ 20 ∧ x10 = .int .i64 i ∧ x8 = .int .i64 now ∧ 0 ≤ now ∧ now ≤ 15 * (i : Int) ∧ BothG wr g xb 6 2 1 2 y e0 u l v sa n sc ∧ (∀ k, v.ownBlock = some k → w.heap.size ≤ k) ∧ Below w.heap.size w wr) (fun _ xi _ => a0l - (intOf xi).toNat)
            case atStart => exact ⟨0, 0, false, 0, 0, [], v9, none, 0, 0, by omega, by omega, rfl, rfl, by omega, by omega, HB0, hv, B04⟩
            case round =>
              clear HB0 hv B04
              obtain ⟨i, now, y, e0, u, l, v, sa, n, sc, hi, hi40, rfl, rfl, hw0, hw1, H, hv, B⟩ := hrel
              by_cases hgo : i < a0l ∧ i < 20
              · obtain ⟨hlt, h40⟩ := hgo
                obtain ⟨bb, off, rfl, hbb, hcell⟩ := HS0.out.at3x (by omega)
                obtain ⟨hc0, hc1, hc2⟩ := hcell i hlt
                obtain ⟨kd, hkd⟩ : ∃ kd, a0e0 i = kd := ⟨_, rfl⟩
                obtain ⟨nn, hnn⟩ : ∃ N, a0e1 i = N := ⟨_, rfl⟩
                obtain ⟨lt, hlt'⟩ : ∃ N, a0e2 i = N := ⟨_, rfl⟩
                rw [hkd] at hc0
                rw [hnn] at hc1
                rw [hlt'] at hc2
                clear hkd hnn hlt' hcell
                have i0 : (0 : Int) ≤ (i : Int) := by omega
                have i1 : (i : Int) < (a0l : Int) := by omega
                have i2 : (i : Int) < 20 := by omega
                have wk : IntKind.i64.wrap ((i : Int) + 1) = ((i + 1 : Nat) : Int) := by rw [IntWalk.i64_in _ (by omega)]; omega
                obtain ⟨l0, hl0⟩ : ∃ x, bits .and .i64 lt 15 = x := ⟨_, rfl⟩
                have hl0b : 0 ≤ l0 ∧ l0 ≤ 15 := by rw [← hl0, i64_and15]; omega
                obtain ⟨nw, hnw⟩ : ∃ x, now + l0 = x := ⟨_, rfl⟩
                have wnw : IntKind.i64.wrap (now + l0) = nw := by rw [IntWalk.i64_in _ (by omega), hnw]
                have hnw0 : 0 ≤ nw ∧ nw ≤ 15 * ((i + 1 : Nat) : Int) := by omega
                clear hnw
                have d2 := (B.cell (p := ⟨bb, off + i * 3 + 2, none⟩) hbb).trans hc2
                go_upto_region 12 with fail
                clear d2
                have hne : Nonempty (UWF (CDoG wr g xb 6 2 1 2 y e0 u l v sa n sc)) := ⟨⟨fun _ => false, fun _ => undef, wr.drew, CDoG.start H _⟩⟩
                have sB := B.size
                refine wp_region_free [(0, 1, some 1), (2, 5, some 7), (8, 3, some 11), (12, 1, none)] (CDoG wr g xb 6 2 1 2 y e0 u l v sa n sc) (GDoG 6 2 1 2 (.agg #[.int .i64 6, .int .i64 2, .int .i64 1, .int .i64 2, .slice sa n sc, .bool y, .int .i64 e0, .int .i64 u])) (G0DoG 6 2 1 2 (.agg #[.int .i64 6, .int .i64 2, .int .i64 1, .int .i64 2, .slice sa n sc, .bool y, .int .i64 e0, .int .i64 u])) (by kernel_rfl) (by kernel_rfl) ?_ ?_ ?_ ?_
                · intro z hz LL G W hC
                  simp [moversI] at hz
                  exact hC.quiet (by omega) (by omega) (by omega)
                · exact CDoG.start H _
                · exact G0DoG_ok 6 2 1 2 _
                · intro G hG
                  have g1 := (hG 1).load rfl
                  obtain ⟨y1, e1, u1, ra, rn, rc, g7⟩ := (hG 7).call rfl
                  unfold gval at g7
                  have E := fun (gw : UWF (CDoG wr g xb 6 2 1 2 y e0 u l v sa n sc)) => B.trans (gw.holds.down sB hgB hxbB hv)
                  have E0 := fun (gw : UWF (CDoG wr g xb 6 2 1 2 y e0 u l v sa n sc)) => ((E gw).cell (p := ⟨bb, off + i * 3, none⟩) hbb).trans hc0
                  have E1 := fun (gw : UWF (CDoG wr g xb 6 2 1 2 y e0 u l v sa n sc)) => ((E gw).cell (p := ⟨bb, off + i * 3 + 1, none⟩) hbb).trans hc1
                  have E2 := fun (gw : UWF (CDoG wr g xb 6 2 1 2 y e0 u l v sa n sc)) => ((E gw).cell (p := ⟨bb, off + i * 3 + 2, none⟩) hbb).trans hc2
                  simp only [walkF, List.drop_zero, List.drop_succ_cons, List.take_succ_cons, List.take_zero, List.toList_toArray]; (repeat (go_big_quiet_step (fail))); refine wpQuiet_nil ?_
                  refine ⟨_, _, _, _, _, _, rfl, .inl ⟨rfl, ?_, ?_⟩⟩
                  · intro LL W hL hA hC
                    have k0 := (hC.x0 (hC.xb0 hL)).cell
                    simp at k0
                    refine ⟨?_⟩; go_simp; simp only [movesToUpon]
                    exact ⟨⟨fun _ => rfl, (fun e => by cases e)⟩, hC.loaded hL _⟩
                  · intro K' hK'; dsimp only at hK'; rw [g1]; go_big_quiet_op; go_big_quiet_on; (repeat (go_big_quiet_step (fail))); refine wpQuiet_nil ?_
                    refine ⟨_, _, _, _, _, _, rfl, .inl ⟨rfl, ?_, ?_⟩⟩
                    · intro LL W hL hA hC
                      refine ⟨?_⟩; go_simp; simp only [movesToUpon]
                      exact hC.call H hL kd nn lt nw
                    · intro K' hK'; dsimp only at hK'; rw [g7]; go_big_quiet_op; go_big_quiet_on; (repeat (go_big_quiet_step (fail))); refine wpQuiet_nil ?_
                      refine ⟨_, _, _, _, _, _, rfl, .inl ⟨rfl, ?_, ?_⟩⟩
                      · intro LL W hL hA hC
                        have k0 := hC.x0 hL
                        have ck0 := k0.cell
                        have fk0 := k0.frozen
                        simp at ck0
                        obtain ⟨wS, eS, KS, BS, hkS⟩ := eight_set k0 (.int .i64 6) (.int .i64 2) (.int .i64 1) (.int .i64 2) (.slice ra rn rc) (.bool y1) (.int .i64 e1) (.int .i64 u1) 0 (Nat.zero_le _)
                        refine ⟨?_⟩; go_simp; simp only [movesToUpon]
                        exact ⟨⟨(fun e => by cases e), (fun e => by cases e)⟩, hC.stored H (hA 1 (by kernel_rfl)) (hA 7 (by kernel_rfl)) hL g7 KS BS hkS _⟩
                      · intro K' hK'; dsimp only at hK'; go_big_quiet_op; go_big_quiet_on; (repeat (go_big_quiet_step (fail))); refine wpQuiet_nil ?_
                        intro LL w9 hL hC
                        have B9 := hC.down sB hgB hxbB hv
                        have s9 := hC.size
                        obtain ⟨l', v', H9, hr9⟩ := hC.done H (hL 7 (by decide)) (hL 11 (by decide)) g7
                        clear hC hL hG g1 g7 E E0 E1 E2 hne hc0 hc1 hc2
                        have hv9 : ∀ k, v'.ownBlock = some k → w.heap.size ≤ k := fun k hk => by
                          rcases hr9 k hk with h1 | h1
                          · exact hv k h1
                          · omega
                        have B09 := B.trans B9
                        clear B9 B hr9 hv H
                        go_wp2_with fail
                        go_roundw
                        case rel => exact ⟨i + 1, nw, y1, e1, u1, l', v', ra, rn, rc, by omega, by omega, by go_num, by go_num, by omega, by omega, H9, hv9, B09⟩
                        case measure => simp only [intOf]; omega
              · have hex : (i : Int) < (a0l : Int) ∧ ¬ (i : Int) < 20 ∨ ¬ (i : Int) < (a0l : Int) := by omega
                have hnm : now ≤ 300 := by omega
                clear hgo
                obtain ⟨wl, hwl⟩ : ∃ wl, wl = wr := ⟨_, rfl⟩
                subst hwl
                have HCl := Lib.hid (fun (W : World) (q : GV W g 6 2 1 2 y e0 u l v) => gaps_Clone g 6 2 1 2 y e0 u l v W q (by have := H.h.good.small; omega))
                have hsB := B.size
                have HX := H.x
                rcases hex with ⟨i1, i2⟩ | i1
                all_goals
                  go_upto_region 15 with fail
                  clear i1
                  try clear i2
                  have hne : Nonempty (UWF (CMkG wl 6 2 1 2 y e0 u l #[.int .i64 6, .int .i64 2, .int .i64 1, .int .i64 2, .slice sa n sc, .bool y, .int .i64 e0, .int .i64 u] 1 3 5)) := ⟨⟨fun _ => false, fun _ => undef, wl.drew, CMkG.start wl _⟩⟩
                  refine wp_region_free [(0, 1, some 1), (2, 1, some 3), (4, 1, some 5), (6, 0, none)] (CMkG wl 6 2 1 2 y e0 u l #[.int .i64 6, .int .i64 2, .int .i64 1, .int .i64 2, .slice sa n sc, .bool y, .int .i64 e0, .int .i64 u] 1 3 5) (GMkG 1 3) (fun _ => .pointer (some ⟨0, 0, none⟩)) (by kernel_rfl) (by kernel_rfl) ?_ ?_ ?_ ?_
                  · intro z hz LL G W hC
                    simp [moversI] at hz
                    exact hC.quiet (by omega) (by omega) (by omega)
                  · exact CMkG.start wl _
                  · intro z _
                    exact ⟨0, rfl⟩
                  · intro G hG
                    obtain ⟨gc, g1⟩ := hG 1 (.inl rfl)
                    obtain ⟨x2, g3⟩ := hG 3 (.inr rfl)
                    have E0 := fun (gw : UWF (CMkG wl 6 2 1 2 y e0 u l #[.int .i64 6, .int .i64 2, .int .i64 1, .int .i64 2, .slice sa n sc, .bool y, .int .i64 e0, .int .i64 u] 1 3 5)) => (HX.below gw.holds.below HX.lt).cell
                    simp at E0
                    simp only [walkF, List.drop_zero, List.drop_succ_cons, List.take_succ_cons, List.take_zero, List.toList_toArray]; (repeat (go_big_quiet_step (fail))); refine wpQuiet_nil ?_
                    refine ⟨_, _, _, _, _, _, rfl, .inl ⟨rfl, ?_, ?_⟩⟩
                    · intro LL W hL hA hC
                      refine ⟨?_⟩; go_simp; simp only [movesToUpon]
                      refine (HCl.out W (H.h.q.below hC.below)).mono ?_
                      rintro e w' ⟨gc', rfl, v', q', hg', hv', hB'⟩
                      exact ⟨_, rfl, (fun _ => ⟨_, rfl⟩), hC.call (by decide) (by decide) q' hg' hv' hB'⟩
                    · intro K' hK'; dsimp only at hK'; rw [g1]; go_big_quiet_op; go_big_quiet_on; (repeat (go_big_quiet_step (fail))); refine wpQuiet_nil ?_
                      refine ⟨_, _, _, _, _, _, rfl, .inl ⟨rfl, ?_, ?_⟩⟩
                      · intro LL W hL hA hC
                        refine ⟨?_⟩; go_simp; simp only [movesToUpon]
                        exact ⟨(fun _ => ⟨_, rfl⟩), hC.made (by decide) (by decide) hL⟩
                      · intro K' hK'; dsimp only at hK'; rw [g3]; go_big_quiet_op; go_big_quiet_on; (repeat (go_big_quiet_step (fail))); refine wpQuiet_nil ?_
                        refine ⟨_, _, _, _, _, _, rfl, .inl ⟨rfl, ?_, ?_⟩⟩
                        · intro LL W hL hA hC
                          obtain ⟨hx0, k0⟩ := hC.xb5 (hA 3 (by kernel_rfl)) hL g3
                          have ck0 := k0.cell
                          have fk0 := k0.frozen
                          simp at ck0
                          obtain ⟨wS, eS, KS, BS, hkS⟩ := eight_set k0 (.int .i64 6) (.int .i64 2) (.int .i64 1) (.int .i64 2) (.slice sa n sc) (.bool y) (.int .i64 e0) (.int .i64 u) wl.heap.size hx0
                          refine ⟨?_⟩; go_simp; simp only [movesToUpon]
                          exact ⟨(fun e => by rcases e with e | e <;> cases e), hC.stored (by decide) (by decide) (hA 3 (by kernel_rfl)) g3 KS BS hkS _⟩
                        · intro K' hK'; dsimp only at hK'; go_big_quiet_op; go_big_quiet_on; (repeat (go_big_quiet_step (fail))); refine wpQuiet_nil ?_
                          intro LL w9 hL hC
                          obtain ⟨v', q9, hgc, hv9, K9, hx2, n1, n2⟩ := hC.done (hL 1 (by decide)) (hL 3 (by decide)) (hL 5 (by decide)) g1 g3
                          have Bc := hC.below
                          have h9 := H.below Bc
                          have H2 : BothG w9 gc x2 6 2 1 2 y e0 u l v' sa n sc := ⟨⟨q9, h9.h.row, H.h.good, H.h.wait⟩, K9, n2, n1⟩
                          clear hC hL hG g1 g3 E0 hne K9 q9 h9 HX
                          go_wp2_with fail
                          go_loopw [8, 13] (fun x8 x13 wr => ∃ (i : Nat) (now : Int) (y : Bool) (e0 u : Int) (l : List WR) (v : Value) (sa : Option Addr) (n sc : Nat), i ≤ a1l ∧ i ≤ 20 ∧ x13 = .int .i64 i ∧ x8 = .int .i64 now ∧ 0 ≤ now ∧ now ≤ 300 + 15 * (i : Int) ∧ BothG wr gc x2 6 2 1 2 y e0 u l v sa n sc ∧ (∀ k, v.ownBlock = some k → wl.heap.size ≤ k) ∧ Below wl.heap.size wl wr) (fun _ xi _ => a1l - (intOf xi).toNat)
                          case atStart => exact ⟨0, now, y, e0, u, l, _, _, _, _, by omega, by omega, rfl, rfl, by omega, by omega, H2, hv9, Bc⟩
                          case round =>
                            clear H2 Bc hv9
                            have HH := Lib.hid H
                            have HBB := Lib.hid B
                            obtain ⟨l0, hl0'⟩ : ∃ l0, l0 = l := ⟨_, rfl⟩
                            obtain ⟨v0, hv0'⟩ : ∃ v0, v0 = v := ⟨_, rfl⟩
                            obtain ⟨y9, hy9⟩ : ∃ c0, c0 = y := ⟨_, rfl⟩
                            obtain ⟨e9, he9⟩ : ∃ c0, c0 = e0 := ⟨_, rfl⟩
                            obtain ⟨u9, hu9⟩ : ∃ c0, c0 = u := ⟨_, rfl⟩
                            obtain ⟨sa0, hsa0⟩ : ∃ z, z = sa := ⟨_, rfl⟩
                            obtain ⟨n0, hn0⟩ : ∃ z, z = n := ⟨_, rfl⟩
                            obtain ⟨sc0, hsc0⟩ : ∃ z, z = sc := ⟨_, rfl⟩
                            obtain ⟨now0, hnow0⟩ : ∃ z, z = now := ⟨_, rfl⟩
                            subst hl0' hv0' hy9 he9 hu9 hsa0 hn0 hsc0 hnow0
                            clear H hv B hi hi40 n1 n2 HCl hw0 hw1 hnm
                            obtain ⟨i, now, y, e0, u, l, v, sa, n, sc, hi, hi40, rfl, rfl, hw0, hw1, H, hv, B⟩ := hrel
                            by_cases hgo : i < a1l ∧ i < 20
                            · obtain ⟨hlt, h40⟩ := hgo
                              obtain ⟨bb, off, rfl, hbb, hcell⟩ := HS1.out.at3x (by omega)
                              obtain ⟨hc0, hc1, hc2⟩ := hcell i hlt
                              obtain ⟨kd, hkd⟩ : ∃ kd, a1e0 i = kd := ⟨_, rfl⟩
                              obtain ⟨nn, hnn⟩ : ∃ N, a1e1 i = N := ⟨_, rfl⟩
                              obtain ⟨lt, hlt'⟩ : ∃ N, a1e2 i = N := ⟨_, rfl⟩
                              rw [hkd] at hc0
                              rw [hnn] at hc1
                              rw [hlt'] at hc2
                              clear hkd hnn hlt' hcell
                              have i0 : (0 : Int) ≤ (i : Int) := by omega
                              have i1 : (i : Int) < (a1l : Int) := by omega
                              have i2 : (i : Int) < 20 := by omega
                              have wk : IntKind.i64.wrap ((i : Int) + 1) = ((i + 1 : Nat) : Int) := by rw [IntWalk.i64_in _ (by omega)]; omega
                              obtain ⟨l0, hl0⟩ : ∃ x, bits .and .i64 lt 15 = x := ⟨_, rfl⟩
                              have hl0b : 0 ≤ l0 ∧ l0 ≤ 15 := by rw [← hl0, i64_and15]; omega
                              obtain ⟨nw, hnw⟩ : ∃ x, now + l0 = x := ⟨_, rfl⟩
                              have wnw : IntKind.i64.wrap (now + l0) = nw := by rw [IntWalk.i64_in _ (by omega), hnw]
                              have hnw0 : 0 ≤ nw ∧ nw ≤ 300 + 15 * ((i + 1 : Nat) : Int) := by omega
                              clear hnw
                              have d2 := ((HBB.out.trans (B.mono hsB)).cell (p := ⟨bb, off + i * 3 + 2, none⟩) hbb).trans hc2
                              go_upto_region 22 with fail
                              clear d2
                              have hne : Nonempty (UWF (CDoG wr gc x2 6 2 1 2 y e0 u l v sa n sc)) := ⟨⟨fun _ => false, fun _ => undef, wr.drew, CDoG.start H _⟩⟩
                              have sB := B.size
                              refine wp_region_free [(0, 1, some 1), (2, 5, some 7), (8, 3, some 11), (12, 1, none)] (CDoG wr gc x2 6 2 1 2 y e0 u l v sa n sc) (GDoG 6 2 1 2 (.agg #[.int .i64 6, .int .i64 2, .int .i64 1, .int .i64 2, .slice sa n sc, .bool y, .int .i64 e0, .int .i64 u])) (G0DoG 6 2 1 2 (.agg #[.int .i64 6, .int .i64 2, .int .i64 1, .int .i64 2, .slice sa n sc, .bool y, .int .i64 e0, .int .i64 u])) (by kernel_rfl) (by kernel_rfl) ?_ ?_ ?_ ?_
                              · intro z hz LL G W hC
                                simp [moversI] at hz
                                exact hC.quiet (by omega) (by omega) (by omega)
                              · exact CDoG.start H _
                              · exact G0DoG_ok 6 2 1 2 _
                              · intro G hG
                                have g1 := (hG 1).load rfl
                                obtain ⟨y1, e1, u1, ra, rn, rc, g7⟩ := (hG 7).call rfl
                                unfold gval at g7
                                have E := fun (gw : UWF (CDoG wr gc x2 6 2 1 2 y e0 u l v sa n sc)) => (HBB.out.trans (B.mono hsB)).trans ((gw.holds.down sB hgc hx2 hv).mono hsB)
                                have E0 := fun (gw : UWF (CDoG wr gc x2 6 2 1 2 y e0 u l v sa n sc)) => ((E gw).cell (p := ⟨bb, off + i * 3, none⟩) hbb).trans hc0
                                have E1 := fun (gw : UWF (CDoG wr gc x2 6 2 1 2 y e0 u l v sa n sc)) => ((E gw).cell (p := ⟨bb, off + i * 3 + 1, none⟩) hbb).trans hc1
                                have E2 := fun (gw : UWF (CDoG wr gc x2 6 2 1 2 y e0 u l v sa n sc)) => ((E gw).cell (p := ⟨bb, off + i * 3 + 2, none⟩) hbb).trans hc2
                                simp only [walkF, List.drop_zero, List.drop_succ_cons, List.take_succ_cons, List.take_zero, List.toList_toArray]; (repeat (go_big_quiet_step (fail))); refine wpQuiet_nil ?_
                                refine ⟨_, _, _, _, _, _, rfl, .inl ⟨rfl, ?_, ?_⟩⟩
                                · intro LL W hL hA hC
                                  have k0 := (hC.x0 (hC.xb0 hL)).cell
                                  simp at k0
                                  refine ⟨?_⟩; go_simp; simp only [movesToUpon]
                                  exact ⟨⟨fun _ => rfl, (fun e => by cases e)⟩, hC.loaded hL _⟩
                                · intro K' hK'; dsimp only at hK'; rw [g1]; go_big_quiet_op; go_big_quiet_on; (repeat (go_big_quiet_step (fail))); refine wpQuiet_nil ?_
                                  refine ⟨_, _, _, _, _, _, rfl, .inl ⟨rfl, ?_, ?_⟩⟩
                                  · intro LL W hL hA hC
                                    refine ⟨?_⟩; go_simp; simp only [movesToUpon]
                                    exact hC.call H hL kd nn lt nw
                                  · intro K' hK'; dsimp only at hK'; rw [g7]; go_big_quiet_op; go_big_quiet_on; (repeat (go_big_quiet_step (fail))); refine wpQuiet_nil ?_
                                    refine ⟨_, _, _, _, _, _, rfl, .inl ⟨rfl, ?_, ?_⟩⟩
                                    · intro LL W hL hA hC
                                      have k0 := hC.x0 hL
                                      have ck0 := k0.cell
                                      have fk0 := k0.frozen
                                      simp at ck0
                                      obtain ⟨wS, eS, KS, BS, hkS⟩ := eight_set k0 (.int .i64 6) (.int .i64 2) (.int .i64 1) (.int .i64 2) (.slice ra rn rc) (.bool y1) (.int .i64 e1) (.int .i64 u1) 0 (Nat.zero_le _)
                                      refine ⟨?_⟩; go_simp; simp only [movesToUpon]
                                      exact ⟨⟨(fun e => by cases e), (fun e => by cases e)⟩, hC.stored H (hA 1 (by kernel_rfl)) (hA 7 (by kernel_rfl)) hL g7 KS BS hkS _⟩
                                    · intro K' hK'; dsimp only at hK'; go_big_quiet_op; go_big_quiet_on; (repeat (go_big_quiet_step (fail))); refine wpQuiet_nil ?_
                                      intro LL w9 hL hC
                                      have B9 := hC.down sB hgc hx2 hv
                                      have s9 := hC.size
                                      obtain ⟨l', v', H9, hr9⟩ := hC.done H (hL 7 (by decide)) (hL 11 (by decide)) g7
                                      clear hC hL hG g1 g7 E E0 E1 E2 hne hc0 hc1 hc2
                                      have hv9 : ∀ k, v'.ownBlock = some k → wl.heap.size ≤ k := fun k hk => by
                                        rcases hr9 k hk with h1 | h1
                                        · exact hv k h1
                                        · omega
                                      have B09 := B.trans B9
                                      clear B9 B hr9 hv H
                                      go_wp2_with fail
                                      go_roundw
                                      case rel => exact ⟨i + 1, nw, y1, e1, u1, l', v', ra, rn, rc, by omega, by omega, by go_num, by go_num, by omega, by omega, H9, hv9, B09⟩
                                      case measure => simp only [intOf]; omega
                            · have hex : (i : Int) < (a1l : Int) ∧ ¬ (i : Int) < 20 ∨ ¬ (i : Int) < (a1l : Int) := by omega
                              clear hgo
                              have H1 := HH.out.below B
                              have HI1 := Lib.hid (fun (W : World) (hb : Below wr.heap.size wr W) => law22_Is g 6 2 1 2 y9 e9 u9 l0 v0 sa0 n0 sc0 W (H1.h.q.below hb) (H1.h.row.below hb) (by have h1 := H1.h.row.len; have h2 := H1.h.good.small; omega))
                              have HI2 := Lib.hid (fun (W : World) (hb : Below wr.heap.size wr W) => law22_Is gc 6 2 1 2 y e0 u l v sa n sc W (H.h.q.below hb) (H.h.row.below hb) (by have h1 := H.h.row.len; have h2 := H.h.good.small; omega))
                              unfold gval at HI1 HI2
                              have hx1 := H1.x
                              have hx2 := H.x
                              have cx := hx1.cell
                              have cy := hx2.cell
                              simp at cx cy
                              have Bw := HBB.out.trans (B.mono hsB)
                              rcases hex with ⟨i1, i2⟩ | i1
                              all_goals
                                go_wp2_with fail
                                refine (HI1.out wr (Below.refl _ _)).mono ?_
                                rintro e w5 ⟨rfl, B5⟩
                                have K5 := hx2.below B5 hx2.lt
                                have cz := K5.cell
                                simp at cz
                                have Bw5 := below_then Bw B5 (Nat.le_refl _)
                                go_wp2_with fail
                                refine (HI2.out w5 B5).mono ?_
                                rintro e w6 ⟨rfl, B6⟩
                                have Bw6 := below_then Bw5 B6 (Nat.le_refl _)
                                go_wp2_with fail
                                go_ret
                                exact ⟨rfl, Bw6⟩
end Go.Proofs.Ytonamlgipoannaa
