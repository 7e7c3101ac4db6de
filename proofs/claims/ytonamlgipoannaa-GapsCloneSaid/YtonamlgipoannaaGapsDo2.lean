/- The statements' do of gaps: Due. No condition but that both stand. -/
import Derived.Test.YtonamlgipoannaaGapsDo3
namespace Go.Proofs.Ytonamlgipoannaa
open Go.RowKit BigFrame
attribute [local go_sem ↓] Go.wp_at_zero Go.wp_at_succ

structure CDue (w0 : World) (g r : Nat) (v : Value) (Q0 : World → Prop) (Q1 : Value → World → Prop) (rt : TypeId) (zs cs : Array Value) (i j B : Nat) (wv : Value) (m : Nat) (xs : List Value) (L : Nat → Bool) (G : Nat → Value) (W : World) : Prop where
  cm : CMov w0 g r v Q0 Q1 rt zs cs i j L G W
  sw : W.ownsRow B 3 1 wv m xs
  sl : L i = true → ∃ a c, G i = .slice a m c ∧ W.ownsRow B 3 1 (.slice a m c) m xs
structure GDue2 (m : Nat) (q : Nat) (v : Value) : Prop where
  a3 : q = 3 → ∃ a c, v = .slice a m c
  a5 : q = 5 → v = .bool true
section
variable {w0 W W' : World} {g r B m : Nat} {v v' wv : Value} {Q0 : World → Prop} {Q1 : Value → World → Prop} {rt : TypeId} {zs cs : Array Value} {xs : List Value} {L : Nat → Bool} {G : Nat → Value}
theorem CDue.quiet (h : CDue w0 g r v Q0 Q1 rt zs cs 3 6 B wv m xs L G W) {z : Nat} (hi : z ≠ 3) (hj : z ≠ 6) : CDue w0 g r v Q0 Q1 rt zs cs 3 6 B wv m xs (upd L z) G W :=
  ⟨h.cm.quiet hi hj, h.sw, fun e => h.sl (by rw [updL_ne L (Ne.symm hi)] at e; exact e)⟩
theorem CDue.call (h : CDue w0 g r v Q0 Q1 rt zs cs 3 6 B wv m xs L G W) (hr : r < w0.heap.size) (hrg : r ≠ g) (hvr : v.ownBlock ≠ some r) (hg : g < B) (hv : ∀ k, v.ownBlock = some k → k < B) (hB : B ≤ w0.heap.size) (q' : Q1 v' W') (M : Moved W W' g v v') {a : Option Addr} {c : Nat} (own : W'.ownsRow W.heap.size 3 1 (.slice a m c) m xs) :
    CDue w0 g r v Q0 Q1 rt zs cs 3 6 B wv m xs (upd L 3) (upF G 3 (.slice a m c)) W' :=
  ⟨h.cm.call (by decide) hr hrg hvr q' M _, own_at h.sw (fun j hj => M.keep j (h.sw.lt j hj).2 (by have := (h.sw.lt j hj).1; omega) (fun e => by have := (h.sw.lt j hj).1; have := hv j e; omega)), fun _ => ⟨a, c, upF_same _ _ _, own_low own (by have := h.cm.size; omega)⟩⟩
theorem CDue.adds (h : CDue w0 g r v Q0 Q1 rt zs cs 3 6 B wv m xs L G W) (hB : Below W.heap.size W W') (hr : r < w0.heap.size) (h0 : ∀ W W', Q0 W → Below W.heap.size W W' → Q0 W') (h1 : ∀ v' W W', Q1 v' W → Below W.heap.size W W' → Q1 v' W') (u : Value) : CDue w0 g r v Q0 Q1 rt zs cs 3 6 B wv m xs (upd L 5) (upF G 5 u) W' :=
  ⟨h.cm.adds hB hr h0 h1 (by decide) (by decide) u, own_at h.sw (fun j hj => hB.block j (h.sw.lt j hj).2), fun e => by
    rw [updL_ne L (by decide)] at e
    obtain ⟨a, c, h2, h3⟩ := h.sl e
    exact ⟨a, c, by rw [upF_ne _ _ (by decide)]; exact h2, own_at h3 (fun j hj => hB.block j (h3.lt j hj).2)⟩⟩
theorem CDue.store (h : CDue w0 g r v Q0 Q1 rt zs cs 3 6 B wv m xs L G W) (hr : r < w0.heap.size) (hvr : v.ownBlock ≠ some r) (hrB : r < B) (h0 : ∀ W W', Q0 W → (∀ k, k ≠ r → W'.heap[k]? = W.heap[k]?) → Q0 W') (h1 : ∀ v' W W', Q1 v' W → v'.ownBlock ≠ some r → (∀ k, k ≠ r → W'.heap[k]? = W.heap[k]?) → Q1 v' W')
    (K : Blk W' r rt cs) (hB : Below 0 W W') (hk : ∀ k, k ≠ r → W'.heap[k]? = W.heap[k]?) (u : Value) : CDue w0 g r v Q0 Q1 rt zs cs 3 6 B wv m xs (upd L 6) (upF G 6 u) W' :=
  ⟨h.cm.store (by decide) hr hvr h0 h1 K hB hk u, own_at h.sw (fun j hj => hk j (by have := (h.sw.lt j hj).1; omega)), fun e => by
    rw [updL_ne L (by decide)] at e
    obtain ⟨a, c, h2, h3⟩ := h.sl e
    exact ⟨a, c, by rw [upF_ne _ _ (by decide)]; exact h2, own_at h3 (fun j hj => hk j (by have := (h3.lt j hj).1; omega))⟩⟩
end
set_option maxRecDepth 20000 in
set_option maxHeartbeats 16000000 in
theorem law22_do2 (g : Nat) (a b c d : Int) (y : Bool) (e' u : Int) (l : List WR) (v : Value) (sa : Option Addr) (n sc : Nat) (nn lt now T : Int) (hT : clipI now 0 1099511627776 = T) (w : World) (h : GV w g a b c d y e' u l v) (R : RowT w sa n sc l) (G : Good a b c d y e' l) (hw : ∀ r ∈ l, WaitOk d r) :
    Calls Try.prog 33 #[.pointer (some ⟨g, 0, none⟩), gval a b c d y e' u sa n sc, .agg #[.int .i64 2, .int .i64 nn, .int .i64 lt], .int .i64 now] w fun e w' => ∃ sa' n' sc', e = .returned (.tuple #[gval a b c d y e' (dueU b T u l) sa' n' sc', .bool true]) ∧ RowT w' sa' n' sc' (dueL b T l) ∧ ∃ v', GV w' g a b c d y e' (dueU b T u l) (dueL b T l) v' ∧ Moved w w' g v v' := by
  have hln := R.len
  have hsm := G.small
  have HP0 : ∀ W : World, GV W g a b c d y e' u l v → Calls Try.prog 25 #[.pointer (some ⟨g, 0, none⟩), .int .i64 now] W fun e w' => ∃ vo, e = .returned vo ∧ (∃ zo, w'.ownsRow W.heap.size 3 1 vo zo (dueO b T l)) ∧ ∃ v', GV w' g a b c d y e' (dueU b T u l) (dueL b T l) v' ∧ Moved W w' g v v' := fun W hW => by
    refine (gaps_Due g a b c d y e' u l v now T hT W hW (by omega) G.b2 G.ok).mono ?_
    rintro e w' ⟨vo, rfl, ho, v', h', hv', K⟩
    exact ⟨vo, rfl, ho, v', h', K.below, fun k e1 e2 _ => K.keep k e1 e2, fun k e => .inr (hv' k e)⟩
  have HR0 := fun (W : World) (r : RowT W sa n sc l) => ref22_Due a b c d y e' u l sa n sc now T hT W r (by omega) G.b2 G.d0 G.d1 G.ok hw
  have HLEN := Lib.hid (show (dueO b T l).length ≤ 1024 by
    rw [dueO_eq, List.length_map]
    unfold dueN
    rw [List.length_map]
    exact Nat.le_trans (List.length_filter_le _ _) hsm)
  have HEL := Lib.hid (show ∀ i, i < (dueO b T l).length → (dueO b T l)[i]? = some (Value.int .i64 ((dueN b T l).getD i 0)) from fun i hi => by
    rw [dueO_eq, List.length_map] at hi
    rw [dueO_eq, List.getElem?_map, List.getElem?_eq_getElem hi]
    simp [List.getD, hi])
  have HP := Lib.hid HP0
  have HR' := Lib.hid HR0
  obtain ⟨l2, hl2⟩ : ∃ x, dueL b T l = x := ⟨_, rfl⟩
  obtain ⟨u2, hu2⟩ : ∃ x, dueU b T u l = x := ⟨_, rfl⟩
  rw [hl2, hu2] at HP HR' ⊢
  have hgl := h.blk.lt
  have hvl := fun k (e : v.ownBlock = some k) => (h.own.lt k e).2
  clear HP0 HR0 hl2 hu2 hT G hln hsm hw
  obtain ⟨K1, K2, K3, B1, z1⟩ := three_new0 w #[.int .i64 a, .int .i64 b, .int .i64 c, .int .i64 d, .slice sa n sc, .bool y, .int .i64 e', .int .i64 u] #[.int .i64 2, .int .i64 nn, .int .i64 lt] #[.int .i64 0, .int .i64 0, .int .i64 0, .int .i64 0, .slice none 0 0, .bool false, .int .i64 0, .int .i64 0] 70 60 70
  unfold gval at HR' ⊢
  go_enter Try.func33, Try.ntmps33
  go_upto_region 1 with fail
  generalize ((w.alloc (.cells #[.int .i64 a, .int .i64 b, .int .i64 c, .int .i64 d, .slice sa n sc, .bool y, .int .i64 e', .int .i64 u] 70)).alloc (.cells #[.int .i64 2, .int .i64 nn, .int .i64 lt] 60)).alloc (.cells #[.int .i64 0, .int .i64 0, .int .i64 0, .int .i64 0, .slice none 0 0, .bool false, .int .i64 0, .int .i64 0] 70) = w1 at *
  have c1 := K1.cell
  have c2 := K2.cell
  simp at c1 c2
  have R1 := R.below B1
  have H1 := h.below B1
  go_upto_region 9 with fail
  go_wp2_with fail
  refine (HR'.out w1 R1).mono ?_
  rintro e w2 ⟨sa2, n2, sc2, wv, rfl, ⟨m, own2⟩, R2, B2⟩
  obtain ⟨wa, wc, rfl, hm⟩ := own_slice own2
  have hm1 : m ≤ 1024 := by rw [hm]; exact HLEN.out
  have HMM := Lib.hid hm
  clear hm
  have s1 := B1.size
  have H2 := H1.below B2
  have B12 := below_then B1 B2 (Nat.le_refl _)
  have s2 := B2.size
  have Kx := Blk.new w2 70 #[.int .i64 a, .int .i64 b, .int .i64 c, .int .i64 d, .slice sa2 n2 sc2, .bool y, .int .i64 e', .int .i64 u2]
  have Br : Below w2.heap.size w2 (w2.alloc (.cells #[.int .i64 a, .int .i64 b, .int .i64 c, .int .i64 d, .slice sa2 n2 sc2, .bool y, .int .i64 e', .int .i64 u2] 70)) := (Below.refl _ w2).alloc (Nat.le_refl _) _
  have K3a := (K3.below B2 K3.lt).below Br (by have := K3.lt; omega)
  clear c1 c2
  go_upto_region 10 with fail
  obtain ⟨br, hbr⟩ : ∃ br, w2.heap.size = br := ⟨_, rfl⟩
  have H3 := H2.below Br
  have R3 := R2.below Br
  have own3 := own_at own2 (fun j hj => Br.block j (own2.lt j hj).2)
  have B13 := below_then B12 Br (Nat.le_refl _)
  have hrl2 := K3.lt
  rw [hbr] at Kx Br ⊢
  have hrn : w.heap.size + 1 + 1 < br := by omega
  generalize w2.alloc (.cells #[.int .i64 a, .int .i64 b, .int .i64 c, .int .i64 d, .slice sa2 n2 sc2, .bool y, .int .i64 e', .int .i64 u2] 70) = w3 at *
  have s3 := Br.size
  clear hbr K1 K2 K3 H1 H2 R1 R2 Br
  have hrl := K3a.lt
  have hrg : w.heap.size + 1 + 1 ≠ g := by omega
  have hvr : v.ownBlock ≠ some (w.heap.size + 1 + 1) := fun e => by have := hvl _ e; omega
  have s13 := B13.size
  have hgB : g < w1.heap.size := by omega
  have hvB : ∀ k, v.ownBlock = some k → k < w1.heap.size := fun k e => by have := hvl k e; omega
  have hrB : w.heap.size + 1 + 1 < w1.heap.size := by omega
  have EX := fun (gx : UWF (CDue w3 g (w.heap.size + 1 + 1) v (fun W => GV W g a b c d y e' u l v) (fun v' W => GV W g a b c d y e' u2 l2 v') 70 #[.int .i64 0, .int .i64 0, .int .i64 0, .int .i64 0, .slice none 0 0, .bool false, .int .i64 0, .int .i64 0] #[.int .i64 a, .int .i64 b, .int .i64 c, .int .i64 d, .slice sa2 n2 sc2, .bool y, .int .i64 e', .int .i64 u2] 3 6 w1.heap.size (.slice wa m wc) m (dueO b T l))) => (show Blk gx.world br 70 _ from (gx.holds.cm.keep br Kx.lt (by omega) (fun e => by have := hvl _ e; omega) (by omega)).trans Kx).cell
  simp at EX
  have hne : Nonempty (UWF (CDue w3 g (w.heap.size + 1 + 1) v (fun W => GV W g a b c d y e' u l v) (fun v' W => GV W g a b c d y e' u2 l2 v') 70 #[.int .i64 0, .int .i64 0, .int .i64 0, .int .i64 0, .slice none 0 0, .bool false, .int .i64 0, .int .i64 0] #[.int .i64 a, .int .i64 b, .int .i64 c, .int .i64 d, .slice sa2 n2 sc2, .bool y, .int .i64 e', .int .i64 u2] 3 6 w1.heap.size (.slice wa m wc) m (dueO b T l))) := ⟨⟨fun _ => false, fun _ => undef, w3.drew, ⟨CMov.start H3.drewn K3a _, own3, (fun e => by cases e)⟩⟩⟩
  clear z1
  refine wp_region_free [(0, 3, some 3), (4, 1, some 5), (6, 0, some 6), (7, 1, none)] (CDue w3 g (w.heap.size + 1 + 1) v (fun W => GV W g a b c d y e' u l v) (fun v' W => GV W g a b c d y e' u2 l2 v') 70 #[.int .i64 0, .int .i64 0, .int .i64 0, .int .i64 0, .slice none 0 0, .bool false, .int .i64 0, .int .i64 0] #[.int .i64 a, .int .i64 b, .int .i64 c, .int .i64 d, .slice sa2 n2 sc2, .bool y, .int .i64 e', .int .i64 u2] 3 6 w1.heap.size (.slice wa m wc) m (dueO b T l)) (GDue2 m) (fun q => if q = 3 then .slice none m 0 else .bool true) (by kernel_rfl) (by kernel_rfl) ?_ ?_ ?_ ?_
  · intro z hz LL G W hC
    simp [moversI] at hz
    exact hC.quiet (by omega) (by omega)
  · exact ⟨CMov.start H3.drewn K3a _, own3, (fun e => by cases e)⟩
  · intro q
    exact ⟨fun e => by subst e; exact ⟨_, _, rfl⟩, fun e => by subst e; rfl⟩
  · intro G hG
    obtain ⟨ga, gc, g3⟩ := (hG 3).a3 rfl
    have g5 := (hG 5).a5 rfl
    simp only [walkF, List.drop_zero, List.drop_succ_cons, List.take_succ_cons, List.take_zero, List.toList_toArray]; (repeat (go_big_quiet_step (fail))); refine wpQuiet_nil ?_
    refine ⟨_, _, _, _, _, _, rfl, .inl ⟨rfl, ?_, ?_⟩⟩
    · intro LL W hL hA hC
      refine ⟨?_⟩; go_simp; simp only [movesToUpon]
      refine (HP.out W (hC.cm.q0 hL)).mono ?_
      rintro e w4 ⟨vo, rfl, ⟨zo, own4⟩, v4, H4, M4⟩
      obtain ⟨oa, oc, rfl, hz⟩ := own_slice own4
      have hzm : zo = m := by rw [hz]; exact HMM.out.symm
      rw [hzm] at own4 ⊢
      clear hz hzm
      exact ⟨_, rfl, ⟨fun _ => ⟨_, _, rfl⟩, (fun e => by cases e)⟩, hC.call hrl hrg hvr hgB hvB (by omega) H4 M4 own4⟩
    · intro K' hK'; dsimp only at hK'; rw [g3]; go_big_quiet_op; go_big_quiet_on; (repeat (go_big_quiet_step (fail))); refine wpQuiet_nil ?_
      refine ⟨_, _, _, _, _, _, rfl, .inl ⟨rfl, ?_, ?_⟩⟩
      · intro LL W hL hA hC
        obtain ⟨a', c', hg, own5⟩ := hC.sl (hA 3 (by kernel_rfl))
        rw [g3] at hg
        injection hg with f1 f2 f3
        subst f1 f3
        obtain ⟨_, _, q1, SA⟩ := SliceOf.of_own own5 (fun i => .int .i64 ((dueN b T l).getD i 0)) (fun i hi => HEL.out i (by have := HMM.out; omega))
        injection q1 with q1 q2 q3
        subst q1 q3
        obtain ⟨_, _, q1, SB⟩ := SliceOf.of_own hC.sw (fun i => .int .i64 ((dueN b T l).getD i 0)) (fun i hi => HEL.out i (by have := HMM.out; omega))
        injection q1 with q1 q2 q3
        subst q1 q3
        refine ⟨?_⟩; go_simp; simp only [movesToUpon]
        refine (law01_SameYes _ _ m _ _ _ W SA SB (by omega)).mono ?_
        rintro e w' ⟨rfl, B5⟩
        exact ⟨_, rfl, ⟨(fun e => by cases e), fun _ => rfl⟩, hC.adds B5 hrl (fun W W' q hb => q.below hb) (fun v' W W' q hb => q.below hb) _⟩
      · intro K' hK'; dsimp only at hK'; rw [g5]; go_big_quiet_op; go_big_quiet_on; (repeat (go_big_quiet_step (fail))); refine wpQuiet_nil ?_
        refine ⟨_, _, _, _, _, _, rfl, .inl ⟨rfl, ?_, ?_⟩⟩
        · intro LL W hL hA hC
          have k0 := hC.cm.r0 hL
          have ck0 := k0.cell
          have fk0 := k0.frozen
          simp at ck0
          obtain ⟨wS, eS, KS, BS, hkS⟩ := eight_set k0 (.int .i64 a) (.int .i64 b) (.int .i64 c) (.int .i64 d) (.slice sa2 n2 sc2) (.bool y) (.int .i64 e') (.int .i64 u2) 0 (Nat.zero_le _)
          refine ⟨?_⟩; go_simp; simp only [movesToUpon]
          exact ⟨⟨(fun e => by cases e), (fun e => by cases e)⟩, hC.store hrl hvr hrB (fun W W' q hk => q.far hk (Ne.symm hrg) hvr) (fun v' W W' q hv hk => q.far hk (Ne.symm hrg) hv) KS BS hkS _⟩
        · intro K' hK'; dsimp only at hK'; go_big_quiet_op; go_big_quiet_on; (repeat (go_big_quiet_step (fail))); refine wpQuiet_nil ?_
          intro LL w9 hL hC
          have K9 := hC.cm.r1 (hL 6 (by decide))
          obtain ⟨v9, H9, hr9⟩ := hC.cm.q1 (hL 3 (by decide))
          have B9 := hC.cm.below
          have k9 := hC.cm.keep
          have c9 := K9.cell
          simp at c9
          have R9 := R3.at_ hC.cm.size (fun k _ K => k9 k K.lt (Blk.ne_ K H3.blk (by decide)) (own_ne_blk H3.own K (by decide)) (Blk.ne_ K K3a (by decide)))
          have M9 : Moved w w9 g v v9 := ⟨(B13.mono (Nat.zero_le _)).trans B9, fun k e1 e2 e3 => (k9 k (by omega) e2 e3 (by omega)).trans (B13.block k e1), fun k hk => by
            rcases hr9 k hk with e1 | e1
            · exact .inl e1
            · right; omega⟩
          clear hC hL hG g3 g5 EX hne
          go_wp2_with fail
          refine bodyPost_ret (v := .tuple #[.agg #[.int .i64 a, .int .i64 b, .int .i64 c, .int .i64 d, .slice sa2 n2 sc2, .bool y, .int .i64 e', .int .i64 u2], .bool true]) ?_ rfl ⟨sa2, n2, sc2, rfl, R9, v9, H9, M9⟩
          simp [results, Try.results33, go_sem, c9]
          try rfl
end Go.Proofs.Ytonamlgipoannaa
