/- The statements' do of gaps: Came. No condition but that both stand. -/
import Derived.Test.YtonamlgipoannaaGapsR6
import Derived.Test.YtonamlgipoannaaGapsDo
namespace Go.Proofs.Ytonamlgipoannaa
open Go.RowKit BigFrame
attribute [local go_sem ↓] Go.wp_at_zero Go.wp_at_succ
attribute [local go_sem] i64_and63

def GOneV (i : Nat) (u : Value) (q : Nat) (v : Value) : Prop := q = i → v = u
set_option maxRecDepth 20000 in
set_option maxHeartbeats 16000000 in
theorem law22_do0 (g : Nat) (a b c d : Int) (y : Bool) (e' u : Int) (l : List WR) (v : Value) (sa : Option Addr) (n sc : Nat) (kd nn lt now N T N0 : Int) (hkd : (kd = 0 ∧ IntKind.i64.wrap (e' + nn % 64) = N0) ∨ (kd = 1 ∧ nn = N0)) (hN : clipI N0 (-1099511627776) 1099511627776 = N) (hT : clipI now 0 1099511627776 = T) (w : World) (h : GV w g a b c d y e' u l v) (R : RowT w sa n sc l) (G : Good a b c d y e' l) :
    Calls Try.prog 33 #[.pointer (some ⟨g, 0, none⟩), gval a b c d y e' u sa n sc, .agg #[.int .i64 kd, .int .i64 nn, .int .i64 lt], .int .i64 now] w fun e w' => ∃ sa' n' sc', e = .returned (.tuple #[gval a b c d true (camE y e' N) (camU a y e' u l.length N) sa' n' sc', .bool true]) ∧ RowT w' sa' n' sc' (camL a c d y e' l N T) ∧ ∃ v', GV w' g a b c d true (camE y e' N) (camU a y e' u l.length N) (camL a c d y e' l N T) v' ∧ Moved w w' g v v' := by
  have HP := Lib.hid (fun (W : World) (q : GV W g a b c d y e' u l v) => gaps_Came g a b c d y e' u l v N0 now N T hN hT W q G)
  have HR' := Lib.hid (fun (W : World) (r : RowT W sa n sc l) => ref22_Came a b c d y e' u l sa n sc N0 now N T hN hT W r G)
  obtain ⟨l2, hl2⟩ : ∃ x, camL a c d y e' l N T = x := ⟨_, rfl⟩
  obtain ⟨e2, he2⟩ : ∃ x, camE y e' N = x := ⟨_, rfl⟩
  obtain ⟨u2, hu2⟩ : ∃ x, camU a y e' u l.length N = x := ⟨_, rfl⟩
  obtain ⟨rr, hrr⟩ : ∃ x, camR a y e' l.length N = x := ⟨_, rfl⟩
  rw [hl2, he2, hu2, hrr] at HP HR'
  rw [hl2, he2, hu2]
  have hgl := h.blk.lt
  have hvl := fun k (e : v.ownBlock = some k) => (h.own.lt k e).2
  clear hl2 he2 hu2 hrr hN hT G
  obtain ⟨K1, K2, K3, B1, z1⟩ := three_new0 w #[.int .i64 a, .int .i64 b, .int .i64 c, .int .i64 d, .slice sa n sc, .bool y, .int .i64 e', .int .i64 u] #[.int .i64 kd, .int .i64 nn, .int .i64 lt] #[.int .i64 0, .int .i64 0, .int .i64 0, .int .i64 0, .slice none 0 0, .bool false, .int .i64 0, .int .i64 0] 70 60 70
  unfold gval at HR' ⊢
  have hcs : (kd = 0 ∧ IntKind.i64.wrap (e' + nn % 64) = N0) ∨ (kd = 1 ∧ nn = N0) := hkd
  clear hkd
  rcases hcs with ⟨rfl, hx⟩ | ⟨rfl, rfl⟩
  all_goals
    go_enter Try.func33, Try.ntmps33
    go_upto_region 1 with fail
    generalize ((w.alloc (.cells #[.int .i64 a, .int .i64 b, .int .i64 c, .int .i64 d, .slice sa n sc, .bool y, .int .i64 e', .int .i64 u] 70)).alloc (.cells #[.int .i64 _, .int .i64 nn, .int .i64 lt] 60)).alloc (.cells #[.int .i64 0, .int .i64 0, .int .i64 0, .int .i64 0, .slice none 0 0, .bool false, .int .i64 0, .int .i64 0] 70) = w1 at *
    have c1 := K1.cell
    have c2 := K2.cell
    simp at c1 c2
    have R1 := R.below B1
    have H1 := h.below B1
    go_upto_region 11 with fail
    go_wp2_with fail
    refine (HR'.out w1 R1).mono ?_
    rintro e w2 ⟨sa2, n2, sc2, rfl, R2, B2⟩
    have H2 := H1.below B2
    have B12 := below_then B1 B2 (Nat.le_refl _)
    have s2 := B2.size
    have Kx := Blk.new w2 70 #[.int .i64 a, .int .i64 b, .int .i64 c, .int .i64 d, .slice sa2 n2 sc2, .bool true, .int .i64 e2, .int .i64 u2]
    have Br : Below w2.heap.size w2 (w2.alloc (.cells #[.int .i64 a, .int .i64 b, .int .i64 c, .int .i64 d, .slice sa2 n2 sc2, .bool true, .int .i64 e2, .int .i64 u2] 70)) := (Below.refl _ w2).alloc (Nat.le_refl _) _
    have K3a := (K3.below B2 K3.lt).below Br (by have := K3.lt; omega)
    clear c1 c2
    go_upto_region 12 with fail
    obtain ⟨br, hbr⟩ : ∃ br, w2.heap.size = br := ⟨_, rfl⟩
    have H3 := H2.below Br
    have R3 := R2.below Br
    have B13 := below_then B12 Br (Nat.le_refl _)
    have hrl2 := K3.lt
    rw [hbr] at Kx Br ⊢
    have hrn : w.heap.size + 1 + 1 < br := by omega
    generalize w2.alloc (.cells #[.int .i64 a, .int .i64 b, .int .i64 c, .int .i64 d, .slice sa2 n2 sc2, .bool true, .int .i64 e2, .int .i64 u2] 70) = w3 at *
    clear hbr K1 K2 K3 H1 H2 R1 R2 Br
    have hrl := K3a.lt
    have hrg : w.heap.size + 1 + 1 ≠ g := by omega
    have hvr : v.ownBlock ≠ some (w.heap.size + 1 + 1) := fun e => by have := hvl _ e; omega
    have s13 := B13.size
    have j1 : (rr == rr) = true := by simp
    have EX := fun (gx : UWF (CMov w3 g (w.heap.size + 1 + 1) v (fun W => GV W g a b c d y e' u l v) (fun v' W => GV W g a b c d true e2 u2 l2 v') 70 #[.int .i64 0, .int .i64 0, .int .i64 0, .int .i64 0, .slice none 0 0, .bool false, .int .i64 0, .int .i64 0] #[.int .i64 a, .int .i64 b, .int .i64 c, .int .i64 d, .slice sa2 n2 sc2, .bool true, .int .i64 e2, .int .i64 u2] 4 7)) => (show Blk gx.world br 70 _ from (gx.holds.keep br Kx.lt (by omega) (fun e => by have := hvl _ e; omega) (by omega)).trans Kx).cell
    simp at EX
    have hne : Nonempty (UWF (CMov w3 g (w.heap.size + 1 + 1) v (fun W => GV W g a b c d y e' u l v) (fun v' W => GV W g a b c d true e2 u2 l2 v') 70 #[.int .i64 0, .int .i64 0, .int .i64 0, .int .i64 0, .slice none 0 0, .bool false, .int .i64 0, .int .i64 0] #[.int .i64 a, .int .i64 b, .int .i64 c, .int .i64 d, .slice sa2 n2 sc2, .bool true, .int .i64 e2, .int .i64 u2] 4 7)) := ⟨⟨fun _ => false, fun _ => undef, w3.drew, CMov.start H3.drewn K3a _⟩⟩
    refine wp_region_free [(0, 4, some 4), (5, 2, some 7), (8, 1, none)] (CMov w3 g (w.heap.size + 1 + 1) v (fun W => GV W g a b c d y e' u l v) (fun v' W => GV W g a b c d true e2 u2 l2 v') 70 #[.int .i64 0, .int .i64 0, .int .i64 0, .int .i64 0, .slice none 0 0, .bool false, .int .i64 0, .int .i64 0] #[.int .i64 a, .int .i64 b, .int .i64 c, .int .i64 d, .slice sa2 n2 sc2, .bool true, .int .i64 e2, .int .i64 u2] 4 7) (GOneV 4 (.int .i64 rr)) (fun _ => .int .i64 rr) (by kernel_rfl) (by kernel_rfl) ?_ ?_ ?_ ?_
    · intro z hz LL G W hC
      simp [moversI] at hz
      exact hC.quiet (by omega) (by omega)
    · exact CMov.start H3.drewn K3a _
    · intro q e
      rfl
    · intro G hG
      have g4 := hG 4 rfl
      simp only [walkF, List.drop_zero, List.drop_succ_cons, List.take_succ_cons, List.take_zero, List.toList_toArray]; (repeat (go_big_quiet_step (fail))); refine wpQuiet_nil ?_
      refine ⟨_, _, _, _, _, _, rfl, .inl ⟨rfl, ?_, ?_⟩⟩
      · intro LL W hL hA hC
        refine ⟨?_⟩; go_simp; simp only [movesToUpon]
        refine (HP.out W (hC.q0 hL)).mono ?_
        rintro e w4 ⟨rfl, v4, H4, M4⟩
        exact ⟨_, rfl, fun _ => rfl, hC.call (by decide) hrl hrg hvr H4 M4 _⟩
      · intro K' hK'; dsimp only at hK'; rw [g4]; go_big_quiet_op; go_big_quiet_on; (repeat (go_big_quiet_step (fail))); refine wpQuiet_nil ?_
        refine ⟨_, _, _, _, _, _, rfl, .inl ⟨rfl, ?_, ?_⟩⟩
        · intro LL W hL hA hC
          have k0 := hC.r0 hL
          have ck0 := k0.cell
          have fk0 := k0.frozen
          simp at ck0
          obtain ⟨wS, eS, KS, BS, hkS⟩ := eight_set k0 (.int .i64 a) (.int .i64 b) (.int .i64 c) (.int .i64 d) (.slice sa2 n2 sc2) (.bool true) (.int .i64 e2) (.int .i64 u2) 0 (Nat.zero_le _)
          refine ⟨?_⟩; go_simp; simp only [movesToUpon]
          exact ⟨(fun e => by cases e), hC.store (by decide) hrl hvr (fun W W' q hk => q.far hk (Ne.symm hrg) hvr) (fun v' W W' q hv hk => q.far hk (Ne.symm hrg) hv) KS BS hkS _⟩
        · intro K' hK'; dsimp only at hK'; go_big_quiet_op; go_big_quiet_on; (repeat (go_big_quiet_step (fail))); refine wpQuiet_nil ?_
          intro LL w9 hL hC
          have K9 := hC.r1 (hL 7 (by decide))
          obtain ⟨v9, H9, hr9⟩ := hC.q1 (hL 4 (by decide))
          have B9 := hC.below
          have k9 := hC.keep
          have c9 := K9.cell
          simp at c9
          have R9 := R3.at_ hC.size (fun k _ K => k9 k K.lt (Blk.ne_ K H3.blk (by decide)) (own_ne_blk H3.own K (by decide)) (Blk.ne_ K K3a (by decide)))
          have M9 : Moved w w9 g v v9 := ⟨(B13.mono (Nat.zero_le _)).trans B9, fun k e1 e2 e3 => (k9 k (by omega) e2 e3 (by omega)).trans (B13.block k e1), fun k hk => by
            rcases hr9 k hk with e1 | e1
            · exact .inl e1
            · right; omega⟩
          clear hC hL hG g4 EX hne
          go_wp2_with fail
          refine bodyPost_ret (v := .tuple #[.agg #[.int .i64 a, .int .i64 b, .int .i64 c, .int .i64 d, .slice sa2 n2 sc2, .bool true, .int .i64 e2, .int .i64 u2], .bool true]) ?_ rfl ⟨sa2, n2, sc2, rfl, R9, v9, H9, M9⟩
          simp [results, Try.results33, go_sem, c9]
          try rfl
end Go.Proofs.Ytonamlgipoannaa
