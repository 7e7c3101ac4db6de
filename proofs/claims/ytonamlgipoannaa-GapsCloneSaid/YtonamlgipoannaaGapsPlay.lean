/- GapsPlay, walked. No condition. (Printed by gen_gda.py.) -/
import Derived.Test.YtonamlgipoannaaGapsMk
import Derived.Test.YtonamlgipoannaaMapsB
namespace Go.Proofs.Ytonamlgipoannaa
open Go.RowKit BigFrame
attribute [local go_sem ↓] Go.wp_at_zero Go.wp_at_succ

theorem refcg_eql (x0 y0 : Int) (x1 y1 : Int) (x2 y2 : Int) (x3 y3 : Int) (w : World) : (binOp .eql 53 (.agg #[.int .i64 x0, .int .i64 x1, .int .i64 x2, .int .i64 x3]) (.agg #[.int .i64 y0, .int .i64 y1, .int .i64 y2, .int .i64 y3])).run Try.prog w = .ok (.bool ((x0 == y0) && (x1 == y1) && (x2 == y2) && (x3 == y3))) w := by
  have hS : Try.prog.underlying 53 = some (.struct (Try.prog.fieldsOf 53)) := by kernel_rfl
  have hp : Try.prog.stoodInHeld 53 = false := by kernel_rfl
  have u3 := Try.underlying3
  have a3 := Try.isAgg3
  have z3 := Try.sizeOf3
  rw [run_eql_struct, show (10000 : Nat) = 9999 + 1 from rfl, run_equalIn_agg w 9999 53 _ _ hS hp]
  simp only [Program.fieldsOf, Try.underlying53]
  go_simp
  by_cases h0 : x0 = y0
  rotate_left
  · simp [h0]
  subst h0
  by_cases h1 : x1 = y1
  rotate_left
  · simp [h1]
  subst h1
  by_cases h2 : x2 = y2
  rotate_left
  · simp [h2]
  subst h2
  by_cases h3 : x3 = y3
  rotate_left
  · simp [h3]
  subst h3
  (try simp [])
theorem refcg_neq (x0 y0 : Int) (x1 y1 : Int) (x2 y2 : Int) (x3 y3 : Int) (w : World) : (binOp .neq 53 (.agg #[.int .i64 x0, .int .i64 x1, .int .i64 x2, .int .i64 x3]) (.agg #[.int .i64 y0, .int .i64 y1, .int .i64 y2, .int .i64 y3])).run Try.prog w = .ok (.bool (!((x0 == y0) && (x1 == y1) && (x2 == y2) && (x3 == y3)))) w := by
  have hS : Try.prog.underlying 53 = some (.struct (Try.prog.fieldsOf 53)) := by kernel_rfl
  have hp : Try.prog.stoodInHeld 53 = false := by kernel_rfl
  have u3 := Try.underlying3
  have a3 := Try.isAgg3
  have z3 := Try.sizeOf3
  rw [run_neq_struct, show (10000 : Nat) = 9999 + 1 from rfl, run_equalIn_agg w 9999 53 _ _ hS hp]
  simp only [Program.fieldsOf, Try.underlying53]
  go_simp
  by_cases h0 : x0 = y0
  rotate_left
  · simp [h0]
  subst h0
  by_cases h1 : x1 = y1
  rotate_left
  · simp [h1]
  subst h1
  by_cases h2 : x2 = y2
  rotate_left
  · simp [h2]
  subst h2
  by_cases h3 : x3 = y3
  rotate_left
  · simp [h3]
  subst h3
  (try simp [])
theorem refcg_guard (op : BinOp) (x y : Operand) (xs ys : Array Value) (w : World) : (eqGuard op 53 x y (.agg xs) (.agg ys)).run Try.prog w = .ok () w := run_eqGuard_agg w op 53 x y xs ys (by kernel_rfl)

theorem refcg_neq1 (x0 x1 x2 x3 : Int) (w : World) : (binOp .neq 53 (.agg #[.int .i64 x0, .int .i64 x1, .int .i64 x2, .int .i64 x3]) (.agg #[.int .i64 x0, .int .i64 x1, .int .i64 x2, .int .i64 x3])).run Try.prog w = .ok (.bool false) w := by
  rw [refcg_neq]; simp
attribute [local go_sem] refcg_neq1 refcg_guard
structure GNwG (rv : Value) (q : Nat) (v : Value) : Prop where
  one : q = 1 → ∃ n, v = .pointer (some ⟨n, 0, none⟩)
  four : q = 4 → ∃ n, v = .pointer (some ⟨n, 0, none⟩)
  ref : q = 3 → v = rv
theorem rowt_nil (W : World) : RowT W none 0 0 [] := ⟨rfl, Nat.le_refl _, by omega, fun h => absurd h (by omega)⟩
set_option maxRecDepth 8000 in
set_option maxHeartbeats 8000000 in
theorem GapsPlay_walk (a0x0 : Int) (a0x1 : Int) (a0x2 : Int) (a0x3 : Int) (a1 : Int) (a2a : Option Addr) (a2l a2c : Nat) (a2e0 : Nat → Int) (a2e1 : Nat → Int) (a2e2 : Nat → Int) (w : World) (a0x0w0 : (Lit.int .i64 a0x0).wf = true) (a0x1w0 : (Lit.int .i64 a0x1).wf = true) (a0x2w0 : (Lit.int .i64 a0x2).wf = true) (a0x3w0 : (Lit.int .i64 a0x3).wf = true) (a1w : (Lit.int .i64 a1).wf = true) (a2S : SliceOf w a2a a2l a2c 3 (fun i => [.int .i64 (a2e0 i), .int .i64 (a2e1 i), .int .i64 (a2e2 i)])) (a2F0 : ∀ i, i < a2l → (Lit.int .i64 (a2e0 i)).wf = true) (a2F1 : ∀ i, i < a2l → (Lit.int .i64 (a2e1 i)).wf = true) (a2F2 : ∀ i, i < a2l → (Lit.int .i64 (a2e2 i)).wf = true) :
    Calls Try.prog 9 #[.agg #[.int .i64 a0x0, .int .i64 a0x1, .int .i64 a0x2, .int .i64 a0x3], .int .i64 a1, .slice a2a a2l a2c] w fun e w' => e = .returned (.bool true) ∧ Below w.heap.size w w' := by
  obtain ⟨a, ha⟩ : ∃ a, clipI a0x0 1 1024 = a := ⟨_, rfl⟩
  obtain ⟨b, hb⟩ : ∃ a, clipI a0x1 1 100 = a := ⟨_, rfl⟩
  obtain ⟨c, hc⟩ : ∃ a, clipI a0x2 0 1048576 = a := ⟨_, rfl⟩
  obtain ⟨d, hd⟩ : ∃ a, clipI a0x3 1 1048576 = a := ⟨_, rfl⟩
  have HNew := Lib.hid (fun W => gaps_New a0x0 a0x1 a0x2 a0x3 a b c d ha hb hc hd W)
  have HRN := Lib.hid (fun W => ref22_New a0x0 a0x1 a0x2 a0x3 a b c d ha hb hc hd W)
  have HCl := Lib.hid (fun W => gaps_Clip a0x0 a0x1 a0x2 a0x3 a b c d ha hb hc hd W)
  have HRC := Lib.hid (fun W => ref22_Clip a0x0 a0x1 a0x2 a0x3 a b c d ha hb hc hd W)
  have GS := Lib.hid (Good.start ha hb hc hd)
  have HS := Lib.hid a2S
  have hl2 := a2S.size_le
  obtain ⟨p, hp⟩ : ∃ p, (if 1099511627776 < a1 then 1099511627776 else a1) = p := ⟨_, rfl⟩
  obtain ⟨p2, hp2⟩ : ∃ p2, (if 0 < p then p else 0) = p2 := ⟨_, rfl⟩
  have hpb : 0 ≤ p2 ∧ p2 ≤ 1099511627776 := by rw [← hp2, ← hp]; split <;> split <;> omega
  clear ha hb hc hd a2S a2F0 a2F1 a2F2 a0x0w0 a0x1w0 a0x2w0 a0x3w0 a1w
  have hK := Blk.new w 53 #[.int .i64 a0x0, .int .i64 a0x1, .int .i64 a0x2, .int .i64 a0x3]
  have B0 : Below w.heap.size w (w.alloc (.cells #[.int .i64 a0x0, .int .i64 a0x1, .int .i64 a0x2, .int .i64 a0x3] 53)) := (Below.refl _ w).alloc (Nat.le_refl _) _
  go_enter Try.func9, Try.ntmps9
  go_upto_region 1 with fail
  generalize w.alloc (.cells #[.int .i64 a0x0, .int .i64 a0x1, .int .i64 a0x2, .int .i64 a0x3] 53) = w0 at *
  go_wp2_with fail
  refine (law22_awake _).mono ?_
  rintro e w1 ⟨rfl, B1⟩
  have K1 := hK.below B1 hK.lt
  have B01 := below_then B0 B1 (Nat.le_refl _)
  clear hK B1 B0
  go_upto_region 3 with fail
  have hne : Nonempty (UWF (CMkG w1 a b c d false 0 0 [] #[.int .i64 a, .int .i64 b, .int .i64 c, .int .i64 d, .slice none 0 0, .bool false, .int .i64 0, .int .i64 0] 1 4 6)) := ⟨⟨fun _ => false, fun _ => undef, w1.drew, CMkG.start w1 _⟩⟩
  have EC := fun (gx : UWF (CMkG w1 a b c d false 0 0 [] #[.int .i64 a, .int .i64 b, .int .i64 c, .int .i64 d, .slice none 0 0, .bool false, .int .i64 0, .int .i64 0] 1 4 6)) => (K1.below gx.holds.below K1.lt).cell
  simp at EC
  refine wp_region_free [(0, 1, some 1), (2, 1, some 3), (4, 0, some 4), (5, 1, some 6), (7, 0, none)] (CMkG w1 a b c d false 0 0 [] #[.int .i64 a, .int .i64 b, .int .i64 c, .int .i64 d, .slice none 0 0, .bool false, .int .i64 0, .int .i64 0] 1 4 6) (GNwG (gval a b c d false 0 0 none 0 0)) (fun q => if q = 3 then gval a b c d false 0 0 none 0 0 else .pointer (some ⟨0, 0, none⟩)) (by kernel_rfl) (by kernel_rfl) ?_ ?_ ?_ ?_
  · intro z hz LL G W hC
    simp [moversI] at hz
    exact hC.quiet (by omega) (by omega) (by omega)
  · exact CMkG.start w1 _
  · intro z
    exact ⟨fun e => ⟨0, by subst e; rfl⟩, fun e => ⟨0, by subst e; rfl⟩, fun e => by subst e; rfl⟩
  · intro G hG
    obtain ⟨g, g1⟩ := (hG 1).one rfl
    have g3 := (hG 3).ref rfl
    obtain ⟨xb, g4⟩ := (hG 4).four rfl
    unfold gval at g3
    simp only [walkF, List.drop_zero, List.drop_succ_cons, List.take_succ_cons, List.take_zero, List.toList_toArray]; (repeat (go_big_quiet_step (fail))); refine wpQuiet_nil ?_
    refine ⟨_, _, _, _, _, _, rfl, .inl ⟨rfl, ?_, ?_⟩⟩
    · intro LL W hL hA hC
      refine ⟨?_⟩; go_simp; simp only [movesToUpon]
      refine (HNew.out W).mono ?_
      rintro e w' ⟨gc', rfl, q', hg', hB'⟩
      exact ⟨_, rfl, ⟨fun _ => ⟨_, rfl⟩, (fun e => by cases e), (fun e => by cases e)⟩, hC.call (by decide) (by decide) q' hg' (fun k e => by cases e) hB'⟩
    · intro K' hK'; dsimp only at hK'; rw [g1]; go_big_quiet_op; go_big_quiet_on; (repeat (go_big_quiet_step (fail))); refine wpQuiet_nil ?_
      refine ⟨_, _, _, _, _, _, rfl, .inl ⟨rfl, ?_, ?_⟩⟩
      · intro LL W hL hA hC
        refine ⟨?_⟩; go_simp; simp only [movesToUpon]
        refine (HRN.out W).mono ?_
        rintro e w' ⟨rfl, hB'⟩
        exact ⟨_, rfl, ⟨(fun e => by cases e), (fun e => by cases e), fun _ => rfl⟩, hC.adds hB' (by decide) (by decide) (by decide) _⟩
      · intro K' hK'; dsimp only at hK'; rw [g3]; go_big_quiet_op; go_big_quiet_on; (repeat (go_big_quiet_step (fail))); refine wpQuiet_nil ?_
        refine ⟨_, _, _, _, _, _, rfl, .inl ⟨rfl, ?_, ?_⟩⟩
        · intro LL W hL hA hC
          refine ⟨?_⟩; go_simp; simp only [movesToUpon]
          exact ⟨⟨(fun e => by cases e), fun _ => ⟨_, rfl⟩, (fun e => by cases e)⟩, hC.made (by decide) (by decide) hL⟩
        · intro K' hK'; dsimp only at hK'; rw [g4]; go_big_quiet_op; go_big_quiet_on; (repeat (go_big_quiet_step (fail))); refine wpQuiet_nil ?_
          refine ⟨_, _, _, _, _, _, rfl, .inl ⟨rfl, ?_, ?_⟩⟩
          · intro LL W hL hA hC
            obtain ⟨hx0, k0⟩ := hC.xb5 (hA 4 (by kernel_rfl)) hL g4
            have ck0 := k0.cell
            have fk0 := k0.frozen
            simp at ck0
            obtain ⟨wS, eS, KS, BS, hkS⟩ := eight_set k0 (.int .i64 a) (.int .i64 b) (.int .i64 c) (.int .i64 d) (.slice none 0 0) (.bool false) (.int .i64 0) (.int .i64 0) w1.heap.size hx0
            refine ⟨?_⟩; go_simp; simp only [movesToUpon]
            exact ⟨⟨(fun e => by cases e), (fun e => by cases e), (fun e => by cases e)⟩, hC.stored (by decide) (by decide) (hA 4 (by kernel_rfl)) g4 KS BS hkS _⟩
          · intro K' hK'; dsimp only at hK'; go_big_quiet_op; go_big_quiet_on; (repeat (go_big_quiet_step (fail))); refine wpQuiet_nil ?_
            intro LL w4 hL hC
            obtain ⟨v9, q9, hg9, hv9, K9, hx9, n1, n2⟩ := hC.done (hL 1 (by decide)) (hL 4 (by decide)) (hL 6 (by decide)) g1 g4
            have K4 := K1.below hC.below K1.lt
            have B04 := below_then B01 hC.below (Nat.le_refl _)
            have s01 := B01.size
            have HB0 : BothG w4 g xb a b c d false 0 0 [] v9 none 0 0 := ⟨⟨q9, rowt_nil _, GS.out, fun r hr => by cases hr⟩, K9, n2, n1⟩
            have hgB : w.heap.size ≤ g := by omega
            have hxbB : w.heap.size ≤ xb := by omega
            have hv : ∀ k, v9.ownBlock = some k → w.heap.size ≤ k := fun k hk => by have := hv9 k hk; omega
            clear hC hL hG g1 g3 g4 EC hne K1 B01 q9 hg9 hv9 K9 hx9 n1 n2
            have EC2 := fun (gx : Ext w4) => (K4.below gx.below K4.lt).cell
            simp at EC2
            go_upto_region 4 with fail
            refine wp_region_ext (by kernel_rfl) (by kernel_rfl) ?_; (repeat (go_big_quiet_step ((first | (go_at_call 31; with_reducible exact calls_ext _ (HCl.out _)) | (go_at_call 32; with_reducible exact calls_ext _ (HRC.out _)))))); refine wpQuiet_nil ?_; rintro _ ⟨gq, rfl⟩
            have B05 := below_then B04 gq.below (Nat.le_refl _)
            have HB5 := HB0.below gq.below
            generalize gq.world = w5 at *
            clear EC2 HB0 B04 K4
            go_upto_region 7 with fail
            go_wp2_with fail
            go_loopw [9, 11] (fun x9 x11 wr => ∃ (i : Nat) (now : Int) (y : Bool) (e0 u : Int) (l : List WR) (v : Value) (sa : Option Addr) (n sc : Nat), i ≤ a2l ∧ i ≤ 40 ∧ x11 = .int .i64 i ∧ x9 = .int .i64 now ∧ 0 ≤ now ∧ now ≤ 1099511627776 + 255 * (i : Int) ∧ BothG wr g xb a b c d y e0 u l v sa n sc ∧ (∀ k, v.ownBlock = some k → w.heap.size ≤ k) ∧ Below w.heap.size w wr) (fun _ xi _ => a2l - (intOf xi).toNat)
            case atStart => exact ⟨0, p2, false, 0, 0, [], v9, none, 0, 0, by omega, by omega, rfl, by go_num, by omega, by omega, HB5, hv, B05⟩
            case round =>
              clear HB5 hv B05
              obtain ⟨i, now, y, e0, u, l, v, sa, n, sc, hi, hi40, rfl, rfl, hw0, hw1, H, hv, B⟩ := hrel
              by_cases hgo : i < a2l ∧ i < 40
              · obtain ⟨hlt, h40⟩ := hgo
                obtain ⟨bb, off, rfl, hbb, hcell⟩ := HS.out.at3x (by omega)
                obtain ⟨hc0, hc1, hc2⟩ := hcell i hlt
                obtain ⟨kd, hkd⟩ : ∃ kd, a2e0 i = kd := ⟨_, rfl⟩
                obtain ⟨nn, hnn⟩ : ∃ N, a2e1 i = N := ⟨_, rfl⟩
                obtain ⟨lt, hlt'⟩ : ∃ N, a2e2 i = N := ⟨_, rfl⟩
                rw [hkd] at hc0
                rw [hnn] at hc1
                rw [hlt'] at hc2
                clear hkd hnn hlt' hcell
                have i0 : (0 : Int) ≤ (i : Int) := by omega
                have i1 : (i : Int) < (a2l : Int) := by omega
                have i2 : (i : Int) < 40 := by omega
                have wk : IntKind.i64.wrap ((i : Int) + 1) = ((i + 1 : Nat) : Int) := by rw [IntWalk.i64_in _ (by omega)]; omega
                obtain ⟨l0, hl0⟩ : ∃ x, bits .and .i64 lt 255 = x := ⟨_, rfl⟩
                have hl0b : 0 ≤ l0 ∧ l0 ≤ 255 := by rw [← hl0, i64_and255]; omega
                obtain ⟨nw, hnw⟩ : ∃ x, now + l0 = x := ⟨_, rfl⟩
                have wnw : IntKind.i64.wrap (now + l0) = nw := by rw [IntWalk.i64_in _ (by omega), hnw]
                have hnw0 : 0 ≤ nw ∧ nw ≤ 1099511627776 + 255 * ((i + 1 : Nat) : Int) := by omega
                clear hnw
                have d2 := (B.cell (p := ⟨bb, off + i * 3 + 2, none⟩) hbb).trans hc2
                go_upto_region 11 with fail
                clear d2
                have hne : Nonempty (UWF (CDoG wr g xb a b c d y e0 u l v sa n sc)) := ⟨⟨fun _ => false, fun _ => undef, wr.drew, CDoG.start H _⟩⟩
                have sB := B.size
                refine wp_region_free [(0, 1, some 1), (2, 5, some 7), (8, 3, some 11), (12, 1, none)] (CDoG wr g xb a b c d y e0 u l v sa n sc) (GDoG a b c d (.agg #[.int .i64 a, .int .i64 b, .int .i64 c, .int .i64 d, .slice sa n sc, .bool y, .int .i64 e0, .int .i64 u])) (G0DoG a b c d (.agg #[.int .i64 a, .int .i64 b, .int .i64 c, .int .i64 d, .slice sa n sc, .bool y, .int .i64 e0, .int .i64 u])) (by kernel_rfl) (by kernel_rfl) ?_ ?_ ?_ ?_
                · intro z hz LL G W hC
                  simp [moversI] at hz
                  exact hC.quiet (by omega) (by omega) (by omega)
                · exact CDoG.start H _
                · exact G0DoG_ok a b c d _
                · intro G hG
                  have g1 := (hG 1).load rfl
                  obtain ⟨y1, e1, u1, ra, rn, rc, g7⟩ := (hG 7).call rfl
                  unfold gval at g7
                  have E := fun (gw : UWF (CDoG wr g xb a b c d y e0 u l v sa n sc)) => B.trans (gw.holds.down sB hgB hxbB hv)
                  have E0 := fun (gw : UWF (CDoG wr g xb a b c d y e0 u l v sa n sc)) => ((E gw).cell (p := ⟨bb, off + i * 3, none⟩) hbb).trans hc0
                  have E1 := fun (gw : UWF (CDoG wr g xb a b c d y e0 u l v sa n sc)) => ((E gw).cell (p := ⟨bb, off + i * 3 + 1, none⟩) hbb).trans hc1
                  have E2 := fun (gw : UWF (CDoG wr g xb a b c d y e0 u l v sa n sc)) => ((E gw).cell (p := ⟨bb, off + i * 3 + 2, none⟩) hbb).trans hc2
                  simp only [walkF, List.drop_zero, List.drop_succ_cons, List.take_succ_cons, List.take_zero, List.toList_toArray]; (repeat (go_big_quiet_step (fail))); refine wpQuiet_nil ?_
                  refine ⟨_, _, _, _, _, _, rfl, .inl ⟨rfl, ?_, ?_⟩⟩
                  · intro LL W hL hA hC
                    have k0 := (hC.x0 (hC.xb0 hL)).cell
                    simp at k0
                    refine ⟨?_⟩; go_simp; simp only [movesToUpon]
                    exact ⟨⟨fun _ => rfl, (fun e => by cases e)⟩, hC.loaded hL _⟩
                  · intro K' hK'; dsimp only at hK'; rw [g1]; go_big_quiet_op; go_big_quiet_on; (repeat (go_big_quiet_step (fail))); refine wpQuiet_nil ?_
                    refine ⟨_, _, _, _, _, _, rfl, .inl ⟨rfl, ?_, ?_⟩⟩
                    · intro LL W hL hA hC
                      refine ⟨?_⟩; go_simp; simp only [movesToUpon]
                      exact hC.call H hL kd nn lt nw
                    · intro K' hK'; dsimp only at hK'; rw [g7]; go_big_quiet_op; go_big_quiet_on; (repeat (go_big_quiet_step (fail))); refine wpQuiet_nil ?_
                      refine ⟨_, _, _, _, _, _, rfl, .inl ⟨rfl, ?_, ?_⟩⟩
                      · intro LL W hL hA hC
                        have k0 := hC.x0 hL
                        have ck0 := k0.cell
                        have fk0 := k0.frozen
                        simp at ck0
                        obtain ⟨wS, eS, KS, BS, hkS⟩ := eight_set k0 (.int .i64 a) (.int .i64 b) (.int .i64 c) (.int .i64 d) (.slice ra rn rc) (.bool y1) (.int .i64 e1) (.int .i64 u1) 0 (Nat.zero_le _)
                        refine ⟨?_⟩; go_simp; simp only [movesToUpon]
                        exact ⟨⟨(fun e => by cases e), (fun e => by cases e)⟩, hC.stored H (hA 1 (by kernel_rfl)) (hA 7 (by kernel_rfl)) hL g7 KS BS hkS _⟩
                      · intro K' hK'; dsimp only at hK'; go_big_quiet_op; go_big_quiet_on; (repeat (go_big_quiet_step (fail))); refine wpQuiet_nil ?_
                        intro LL w9 hL hC
                        have B9 := hC.down sB hgB hxbB hv
                        have s9 := hC.size
                        obtain ⟨l', v', H9, hr9⟩ := hC.done H (hL 7 (by decide)) (hL 11 (by decide)) g7
                        clear hC hL hG g1 g7 E E0 E1 E2 hne hc0 hc1 hc2
                        have hv9 : ∀ k, v'.ownBlock = some k → w.heap.size ≤ k := fun k hk => by
                          rcases hr9 k hk with h1 | h1
                          · exact hv k h1
                          · omega
                        have B09 := B.trans B9
                        clear B9 B hr9 hv H
                        obtain ⟨n9, hn9⟩ : ∃ z, rn = z := ⟨_, rfl⟩
                        have hlen := H9.h.row.len
                        have hm1 := H9.h.good.len
                        rw [hlen] at hm1
                        have hn1 := H9.h.good.small
                        rw [hlen] at hn1
                        have HI := Lib.hid (law22_Is g a b c d y1 e1 u1 l' v' ra rn rc w9 H9.h.q H9.h.row (by omega))
                        unfold gval at HI
                        have X := H9.x.cell
                        simp at X
                        have t1 : ¬ a < (rn : Int) := by omega
                        clear hlen hn9
                        go_wp2_with fail
                        refine HI.out.mono ?_
                        rintro e wx ⟨rfl, BX⟩
                        have HX := H9.below BX
                        have X2 := HX.x.cell
                        simp at X2
                        clear X HI H9
                        have BE := below_then B09 BX (Nat.le_refl _)
                        go_wp2_with fail
                        go_roundw
                        case rel => exact ⟨i + 1, nw, y1, e1, u1, l', v', ra, rn, rc, by omega, by omega, by go_num, by go_num, by omega, by omega, HX, hv9, BE⟩
                        case measure => simp only [intOf]; omega
              · have hex : (i : Int) < (a2l : Int) → ¬ (i : Int) < 40 := by omega
                by_cases h1 : i < a2l
                · have i1 : (i : Int) < (a2l : Int) := by omega
                  have i2 : ¬ (i : Int) < 40 := by omega
                  go_wp2_with fail
                  go_ret
                  exact ⟨rfl, B⟩
                · have i1 : ¬ (i : Int) < (a2l : Int) := by omega
                  go_wp2_with fail
                  go_ret
                  exact ⟨rfl, B⟩
end Go.Proofs.Ytonamlgipoannaa
