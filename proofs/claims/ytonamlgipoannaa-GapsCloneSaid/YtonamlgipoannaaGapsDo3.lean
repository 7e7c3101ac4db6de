/- The statements' do of gaps: Forget. No condition but that both stand. (Printed by gen_gapsdo3.py.) -/
import Derived.Test.YtonamlgipoannaaGapsDo0
namespace Go.Proofs.Ytonamlgipoannaa
open Go.RowKit BigFrame
attribute [local go_sem ↓] Go.wp_at_zero Go.wp_at_succ

set_option maxRecDepth 20000 in
set_option maxHeartbeats 16000000 in
theorem law22_do3 (g : Nat) (a b c d : Int) (y : Bool) (e' u : Int) (l : List WR) (v : Value) (sa : Option Addr) (n sc : Nat) (kd nn lt now q : Int) (hk0 : kd ≠ 0) (hk1 : kd ≠ 1) (hk2 : kd ≠ 2) (hq : clipI nn (-1099511627776) 1099511627776 = q) (w : World) (h : GV w g a b c d y e' u l v) (R : RowT w sa n sc l) (G : Good a b c d y e' l) :
    Calls Try.prog 33 #[.pointer (some ⟨g, 0, none⟩), gval a b c d y e' u sa n sc, .agg #[.int .i64 kd, .int .i64 nn, .int .i64 lt], .int .i64 now] w fun e w' => ∃ sa' n' sc', e = .returned (.tuple #[gval a b c d y e' u sa' n' sc', .bool true]) ∧ RowT w' sa' n' sc' (fgW nn l) ∧ ∃ v', GV w' g a b c d y e' u (fgW nn l) v' ∧ Moved w w' g v v' := by
  have hln := R.len
  obtain ⟨rr, hrr⟩ : ∃ x : Int, (l.length : Int) - ((fgW nn l).length : Int) = x := ⟨_, rfl⟩
  have HP0 : ∀ W : World, GV W g a b c d y e' u l v → Calls Try.prog 29 #[.pointer (some ⟨g, 0, none⟩), .int .i64 nn] W fun e w' => e = .returned (.int .i64 rr) ∧ ∃ v', GV w' g a b c d y e' u (fgW nn l) v' ∧ Moved W w' g v v' := fun W hW => by
    refine (gaps_Forget g a b c d y e' u l v nn q hq W hW G.rise (by have := G.small; omega)).mono ?_
    rintro e w' ⟨k, rfl, hU, v', h', M⟩
    obtain ⟨f1, f2⟩ := fg_upto hq hU G.lo (fun r hr => by have := G.hi r hr; have := G.e1; omega)
    rw [f1]
    refine ⟨?_, v', h', M⟩
    rw [← hrr, f1, List.length_drop]
    congr 2; omega
  have HR0 : ∀ W : World, RowT W sa n sc l → Calls Try.prog 62 #[gval a b c d y e' u sa n sc, .int .i64 nn] W fun e w' => ∃ sa' n' sc', e = .returned (.tuple #[gval a b c d y e' u sa' n' sc', .int .i64 rr]) ∧ RowT w' sa' n' sc' (fgW nn l) ∧ Below W.heap.size W w' := fun W hW => by
    refine (ref22_Forget a b c d y e' u l sa n sc nn W hW (by have := G.small; omega)).mono ?_
    rintro e w' ⟨sa', n', sc', rfl, h1, h2⟩
    have h3 := h1.len
    exact ⟨sa', n', sc', by rw [← hrr, h3, hln], h1, h2⟩
  have HP := Lib.hid HP0
  have HR' := Lib.hid HR0
  obtain ⟨l2, hl2⟩ : ∃ x, fgW nn l = x := ⟨_, rfl⟩
  rw [hl2] at HP HR' ⊢
  have hgl := h.blk.lt
  have hvl := fun k (e : v.ownBlock = some k) => (h.own.lt k e).2
  have t0 : (kd == 0) = false := by simp [hk0]
  have t1 : (kd == 1) = false := by simp [hk1]
  have t2 : (kd == 2) = false := by simp [hk2]
  clear HP0 HR0 hl2 hrr hq G hln hk0 hk1 hk2
  obtain ⟨K1, K2, K3, B1, z1⟩ := three_new0 w #[.int .i64 a, .int .i64 b, .int .i64 c, .int .i64 d, .slice sa n sc, .bool y, .int .i64 e', .int .i64 u] #[.int .i64 kd, .int .i64 nn, .int .i64 lt] #[.int .i64 0, .int .i64 0, .int .i64 0, .int .i64 0, .slice none 0 0, .bool false, .int .i64 0, .int .i64 0] 70 60 70
  unfold gval at HR' ⊢
  go_enter Try.func33, Try.ntmps33
  go_upto_region 1 with fail
  generalize ((w.alloc (.cells #[.int .i64 a, .int .i64 b, .int .i64 c, .int .i64 d, .slice sa n sc, .bool y, .int .i64 e', .int .i64 u] 70)).alloc (.cells #[.int .i64 kd, .int .i64 nn, .int .i64 lt] 60)).alloc (.cells #[.int .i64 0, .int .i64 0, .int .i64 0, .int .i64 0, .slice none 0 0, .bool false, .int .i64 0, .int .i64 0] 70) = w1 at *
  have c1 := K1.cell
  have c2 := K2.cell
  simp at c1 c2
  have R1 := R.below B1
  have H1 := h.below B1
  go_upto_region 3 with fail
  go_wp2_with fail
  refine (HR'.out w1 R1).mono ?_
  rintro e w2 ⟨sa2, n2, sc2, rfl, R2, B2⟩
  have H2 := H1.below B2
  have B12 := below_then B1 B2 (Nat.le_refl _)
  have s2 := B2.size
  have Kx := Blk.new w2 70 #[.int .i64 a, .int .i64 b, .int .i64 c, .int .i64 d, .slice sa2 n2 sc2, .bool y, .int .i64 e', .int .i64 u]
  have Br : Below w2.heap.size w2 (w2.alloc (.cells #[.int .i64 a, .int .i64 b, .int .i64 c, .int .i64 d, .slice sa2 n2 sc2, .bool y, .int .i64 e', .int .i64 u] 70)) := (Below.refl _ w2).alloc (Nat.le_refl _) _
  have K3a := (K3.below B2 K3.lt).below Br (by have := K3.lt; omega)
  clear c1 c2
  go_upto_region 4 with fail
  obtain ⟨br, hbr⟩ : ∃ br, w2.heap.size = br := ⟨_, rfl⟩
  have H3 := H2.below Br
  have R3 := R2.below Br
  have B13 := below_then B12 Br (Nat.le_refl _)
  have hrl2 := K3.lt
  rw [hbr] at Kx Br ⊢
  have hrn : w.heap.size + 1 + 1 < br := by omega
  generalize w2.alloc (.cells #[.int .i64 a, .int .i64 b, .int .i64 c, .int .i64 d, .slice sa2 n2 sc2, .bool y, .int .i64 e', .int .i64 u] 70) = w3 at *
  clear hbr K1 K2 K3 H1 H2 R1 R2 Br
  have hrl := K3a.lt
  have hrg : w.heap.size + 1 + 1 ≠ g := by omega
  have hvr : v.ownBlock ≠ some (w.heap.size + 1 + 1) := fun e => by have := hvl _ e; omega
  have s13 := B13.size
  have j1 : (rr == rr) = true := by simp
  have EX := fun (gx : UWF (CMov w3 g (w.heap.size + 1 + 1) v (fun W => GV W g a b c d y e' u l v) (fun v' W => GV W g a b c d y e' u l2 v') 70 #[.int .i64 0, .int .i64 0, .int .i64 0, .int .i64 0, .slice none 0 0, .bool false, .int .i64 0, .int .i64 0] #[.int .i64 a, .int .i64 b, .int .i64 c, .int .i64 d, .slice sa2 n2 sc2, .bool y, .int .i64 e', .int .i64 u] 3 6)) => (show Blk gx.world br 70 _ from (gx.holds.keep br Kx.lt (by omega) (fun e => by have := hvl _ e; omega) (by omega)).trans Kx).cell
  simp at EX
  have hne : Nonempty (UWF (CMov w3 g (w.heap.size + 1 + 1) v (fun W => GV W g a b c d y e' u l v) (fun v' W => GV W g a b c d y e' u l2 v') 70 #[.int .i64 0, .int .i64 0, .int .i64 0, .int .i64 0, .slice none 0 0, .bool false, .int .i64 0, .int .i64 0] #[.int .i64 a, .int .i64 b, .int .i64 c, .int .i64 d, .slice sa2 n2 sc2, .bool y, .int .i64 e', .int .i64 u] 3 6)) := ⟨⟨fun _ => false, fun _ => undef, w3.drew, CMov.start H3.drewn K3a _⟩⟩
  refine wp_region_free [(0, 3, some 3), (4, 2, some 6), (7, 1, none)] (CMov w3 g (w.heap.size + 1 + 1) v (fun W => GV W g a b c d y e' u l v) (fun v' W => GV W g a b c d y e' u l2 v') 70 #[.int .i64 0, .int .i64 0, .int .i64 0, .int .i64 0, .slice none 0 0, .bool false, .int .i64 0, .int .i64 0] #[.int .i64 a, .int .i64 b, .int .i64 c, .int .i64 d, .slice sa2 n2 sc2, .bool y, .int .i64 e', .int .i64 u] 3 6) (GOneV 3 (.int .i64 rr)) (fun _ => .int .i64 rr) (by kernel_rfl) (by kernel_rfl) ?_ ?_ ?_ ?_
  · intro z hz LL G W hC
    simp [moversI] at hz
    exact hC.quiet (by omega) (by omega)
  · exact CMov.start H3.drewn K3a _
  · intro q e
    rfl
  · intro G hG
    have g4 := hG 3 rfl
    simp only [walkF, List.drop_zero, List.drop_succ_cons, List.take_succ_cons, List.take_zero, List.toList_toArray]; (repeat (go_big_quiet_step (fail))); refine wpQuiet_nil ?_
    refine ⟨_, _, _, _, _, _, rfl, .inl ⟨rfl, ?_, ?_⟩⟩
    · intro LL W hL hA hC
      refine ⟨?_⟩; go_simp; simp only [movesToUpon]
      refine (HP.out W (hC.q0 hL)).mono ?_
      rintro e w4 ⟨rfl, v4, H4, M4⟩
      exact ⟨_, rfl, fun _ => rfl, hC.call (by decide) hrl hrg hvr H4 M4 _⟩
    · intro K' hK'; dsimp only at hK'; rw [g4]; go_big_quiet_op; go_big_quiet_on; (repeat (go_big_quiet_step (fail))); refine wpQuiet_nil ?_
      refine ⟨_, _, _, _, _, _, rfl, .inl ⟨rfl, ?_, ?_⟩⟩
      · intro LL W hL hA hC
        have k0 := hC.r0 hL
        have ck0 := k0.cell
        have fk0 := k0.frozen
        simp at ck0
        obtain ⟨wS, eS, KS, BS, hkS⟩ := eight_set k0 (.int .i64 a) (.int .i64 b) (.int .i64 c) (.int .i64 d) (.slice sa2 n2 sc2) (.bool y) (.int .i64 e') (.int .i64 u) 0 (Nat.zero_le _)
        refine ⟨?_⟩; go_simp; simp only [movesToUpon]
        exact ⟨(fun e => by cases e), hC.store (by decide) hrl hvr (fun W W' q hk => q.far hk (Ne.symm hrg) hvr) (fun v' W W' q hv hk => q.far hk (Ne.symm hrg) hv) KS BS hkS _⟩
      · intro K' hK'; dsimp only at hK'; go_big_quiet_op; go_big_quiet_on; (repeat (go_big_quiet_step (fail))); refine wpQuiet_nil ?_
        intro LL w9 hL hC
        have K9 := hC.r1 (hL 6 (by decide))
        obtain ⟨v9, H9, hr9⟩ := hC.q1 (hL 3 (by decide))
        have B9 := hC.below
        have k9 := hC.keep
        have c9 := K9.cell
        simp at c9
        have R9 := R3.at_ hC.size (fun k _ K => k9 k K.lt (Blk.ne_ K H3.blk (by decide)) (own_ne_blk H3.own K (by decide)) (Blk.ne_ K K3a (by decide)))
        have M9 : Moved w w9 g v v9 := ⟨(B13.mono (Nat.zero_le _)).trans B9, fun k e1 e2 e3 => (k9 k (by omega) e2 e3 (by omega)).trans (B13.block k e1), fun k hk => by
          rcases hr9 k hk with e1 | e1
          · exact .inl e1
          · right; omega⟩
        clear hC hL hG g4 EX hne
        go_wp2_with fail
        refine bodyPost_ret (v := .tuple #[.agg #[.int .i64 a, .int .i64 b, .int .i64 c, .int .i64 d, .slice sa2 n2 sc2, .bool y, .int .i64 e', .int .i64 u], .bool true]) ?_ rfl ⟨sa2, n2, sc2, rfl, R9, v9, H9, M9⟩
        simp [results, Try.results33, go_sem, c9]
        try rfl
end Go.Proofs.Ytonamlgipoannaa
