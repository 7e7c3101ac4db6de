/- Package gaps: the least are given up. No condition but that the gaps stand. -/
import Derived.Test.YtonamlgipoannaaGaps7
import Derived.Test.YtonamlgipoannaaPhR
namespace Go.Proofs.Ytonamlgipoannaa
open Go.RowKit BigFrame
attribute [local go_sem ↓] Go.wp_at_zero Go.wp_at_succ

/-- While the least are given up. -/
def StGive (w0 : World) (g : Nat) (v : Value) (l2 : List WR) (a b c d : Int) (y : Bool) (e u : Int) (k : Nat) (G : Nat → Value) (W : World) : Prop :=
  match k with
  | 0 => W = w0.drew
  | 1 => ∃ a3 n3 c3, G 12 = .slice a3 n3 c3 ∧ W.ownsRow 0 112 4 (.slice a3 n3 c3) l2.length (rowW l2) ∧ (Value.slice a3 n3 c3).ownBlock = v.ownBlock ∧ (∀ j, v.ownBlock ≠ some j → W.heap[j]? = w0.heap[j]?) ∧ Below 0 w0 W
  | 2 => ∃ a3 n3 c3, G 12 = .slice a3 n3 c3 ∧ GV W g a b c d y e u l2 (.slice a3 n3 c3) ∧ Moved w0 W g v (.slice a3 n3 c3)
  | _ => False
structure GGive (sv : Value) (q : Nat) (v : Value) : Prop where
  a4 : q = 4 → v = sv
  a9 : q = 9 → v = sv
  a12 : q = 12 → ∃ a n c, v = .slice a n c
theorem StGive.up {w0 : World} {g : Nat} {v : Value} {l2 : List WR} {a b c d : Int} {y : Bool} {e u : Int} {z : Nat} (hz : z ≠ 12) (k : Nat) (G : Nat → Value) (W : World) (x : Value) (h : StGive w0 g v l2 a b c d y e u k G W) : StGive w0 g v l2 a b c d y e u k (upF G z x) W := by
  unfold StGive at h ⊢
  rw [upF_ne _ _ (Ne.symm hz)]
  exact h
theorem StGive.old {w0 : World} {g : Nat} {v : Value} {l2 : List WR} {a b c d : Int} {y : Bool} {e u : Int} {k : Nat} {G : Nat → Value} {W : World} (h : StGive w0 g v l2 a b c d y e u k G W) (hk : k ≤ 1) (hg : v.ownBlock ≠ some g) : W.heap[g]? = w0.heap[g]? := by
  match k, hk with
  | 0, _ => rw [show W = w0.drew from h]; rfl
  | 1, _ =>
    obtain ⟨_, _, _, _, _, _, h1, _⟩ := h
    exact h1 g hg
theorem StGive.top {w0 : World} {g : Nat} {v : Value} {l2 : List WR} {a b c d : Int} {y : Bool} {e u : Int} {k : Nat} {G : Nat → Value} {W : World} (h : StGive w0 g v l2 a b c d y e u k G W) : k ≤ 2 := by
  unfold StGive at h
  split at h
  all_goals first | exact h.elim | omega
set_option maxRecDepth 8000 in
set_option maxHeartbeats 4000000 in
theorem gaps_give (g : Nat) (a b c d : Int) (y : Bool) (e' u : Int) (l : List WR) (v : Value) (k : Nat) (w : World) (h : GV w g a b c d y e' u l v) (hl : l.length ≤ 100000) (hk : k ≤ l.length) (u' : Int) (hu : IntKind.i64.wrap (u + (k : Int)) = u') :
    Calls Try.prog 55 #[.pointer (some ⟨g, 0, none⟩), .int .i64 (k : Int)] w fun e w' => e = .returned (.int .i64 (k : Int)) ∧ ∃ v', GV w' g a b c d y e' u' (l.drop k) v' ∧ Moved w w' g v v' := by
  have HD := Lib.hid (fun (W : World) (hb : Below w.heap.size w W) => want_cut l v W (own_at h.own (w' := W) (fun j hj => hb.block j (h.own.lt j hj).2)) hl 0 k (Nat.zero_le _) hk (fun _ => rfl) (l.drop k) rfl)
  obtain ⟨va, vc, rfl, -⟩ := own_want h.own
  obtain ⟨n, hn⟩ : ∃ n, l.length = n := ⟨_, rfl⟩
  rw [hn] at h hk hl HD
  rw [hn]
  have H0 := h
  have m1 : (if (n : Int) < (k : Int) then (n : Int) else (k : Int)) = (k : Int) := by rw [if_neg (by omega)]
  have m2 : ¬ (n : Int) < (k : Int) := by omega
  have m3 : (k : Int) ≤ (n : Int) := by omega
  obtain ⟨l2, hl2⟩ : ∃ x, l.drop k = x := ⟨_, rfl⟩
  rw [hl2] at HD ⊢
  have gne := h.ne
  clear h hn hl2
  go_enter Try.func55, Try.ntmps55
  go_upto_region 1 with fail
  have hne : Nonempty (UWF (PhR [12, 15] [4, 9] 15 (StGive w g (.slice va n vc) l2 a b c d y e' u))) := PhR.ne (G := fun _ => undef) (W := w.drew) rfl
  refine wp_region_free [(0, 4, some 4), (5, 4, some 9), (10, 2, some 12), (13, 2, some 15), (16, 0, none)] (PhR [12, 15] [4, 9] 15 (StGive w g (.slice va n vc) l2 a b c d y e' u)) (GGive (.slice va n vc)) (fun y => if y = 12 then .slice none 0 0 else .slice va n vc) (by kernel_rfl) (by kernel_rfl) ?_ ?_ ?_ ?_
  · intro z hz LL G W hC
    simp [moversI] at hz
    exact hC.quiet (by simp; omega) (by simp; omega) (by simp)
  · exact PhR.start rfl
  · intro z
    exact ⟨fun e => by subst e; rfl, fun e => by subst e; rfl, fun e => by subst e; exact ⟨_, _, _, rfl⟩⟩
  · intro G hG
    have g4 := (hG 4).a4 rfl
    have g9 := (hG 9).a9 rfl
    obtain ⟨ga, gn, gc, g12⟩ := (hG 12).a12 rfl
    simp only [walkF, List.drop_zero, List.drop_succ_cons, List.take_succ_cons, List.take_zero, List.toList_toArray]; (repeat (go_big_quiet_step (fail))); refine wpQuiet_nil ?_
    refine ⟨_, _, _, _, _, _, rfl, .inl ⟨rfl, ?_, ?_⟩⟩
    · intro LL W hL hA hC
      obtain ⟨⟨kk, hk1, hst⟩, hC'⟩ := hC.load 1 rfl (z := 4) (by simp) (by simp) hL (StGive.up (by decide))
      have kn : Blk W g 110 _ := (hst.old hk1 gne).trans H0.blk
      have cn := kn.cell
      simp at cn
      refine ⟨?_⟩; go_simp; simp only [movesToUpon]
      exact ⟨⟨fun _ => rfl, (fun e => by cases e), (fun e => by cases e)⟩, hC' _⟩
    · intro K' hK'; dsimp only at hK'; rw [g4]; go_big_quiet_op; go_big_quiet_on; (repeat (go_big_quiet_step (fail))); refine wpQuiet_nil ?_
      refine ⟨_, _, _, _, _, _, rfl, .inl ⟨rfl, ?_, ?_⟩⟩
      · intro LL W hL hA hC
        obtain ⟨⟨kk, hk1, hst⟩, hC'⟩ := hC.load 1 rfl (z := 9) (by simp) (by simp) hL (StGive.up (by decide))
        have kn : Blk W g 110 _ := (hst.old hk1 gne).trans H0.blk
        have cn := kn.cell
        simp at cn
        refine ⟨?_⟩; go_simp; simp only [movesToUpon]
        exact ⟨⟨(fun e => by cases e), fun _ => rfl, (fun e => by cases e)⟩, hC' _⟩
      · intro K' hK'; dsimp only at hK'; rw [g9]; go_big_quiet_op; go_big_quiet_on; (repeat (go_big_quiet_step (fail))); refine wpQuiet_nil ?_
        refine ⟨_, _, _, _, _, _, rfl, .inl ⟨rfl, ?_, ?_⟩⟩
        · intro LL W hL hA hC
          have hst : W = w.drew := hC.ph.at 0 12 rfl hL (fun m' h0 _ => absurd h0 (by omega))
          subst hst
          refine ⟨?_⟩; go_simp; simp only [movesToUpon]
          refine (HD.out w.drew (Below.refl _ _).drew).mono ?_
          rintro e w3 ⟨v3, rfl, ⟨a3, n3, c3, rfl⟩, own3, ho3, hk3, B3⟩
          exact ⟨_, rfl, ⟨(fun e => by cases e), (fun e => by cases e), fun _ => ⟨_, _, _, rfl⟩⟩, hC.next (by decide) 0 12 rfl hL (fun m' h0 _ => absurd h0 (by omega)) (by simp) (fun e => by cases e) ⟨a3, n3, c3, upF_same _ _ _, own3, ho3, hk3, (Below.refl _ _).drew.trans B3⟩⟩
        · intro K' hK'; dsimp only at hK'; rw [g12]; go_big_quiet_op; go_big_quiet_on; (repeat (go_big_quiet_step (fail))); refine wpQuiet_nil ?_
          refine ⟨_, _, _, _, _, _, rfl, .inl ⟨rfl, ?_, ?_⟩⟩
          · intro LL W hL hA hC
            have hp : ∀ m', 0 < 1 → [12, 15][1 - 1]? = some m' → LL m' = true := fun m' _ h => by
              simp at h; subst h; exact hA 12 (by kernel_rfl)
            obtain ⟨a3, n3, c3, hg12, own3, ho3, hk3, B3⟩ : ∃ a3 n3 c3, G 12 = .slice a3 n3 c3 ∧ W.ownsRow 0 112 4 (.slice a3 n3 c3) l2.length (rowW l2) ∧ (Value.slice a3 n3 c3).ownBlock = (Value.slice va n vc).ownBlock ∧ (∀ j, (Value.slice va n vc).ownBlock ≠ some j → W.heap[j]? = w.heap[j]?) ∧ Below 0 w W := hC.ph.at 1 15 rfl hL hp
            have hg12' := hg12
            rw [g12] at hg12'
            injection hg12' with f1 f2 f3
            subst f1 f2 f3
            obtain ⟨H4, M4⟩ := H0.store (l2 := l2) B3 (fun k _ hne => hk3 k hne) own3 (fun k hk => .inl (by rw [← ho3]; exact hk))
            have kn : Blk W g 110 _ := (hk3 g gne).trans H0.blk
            have cn := kn.cell
            have fn := kn.frozen
            simp at cn
            refine ⟨?_⟩; go_simp; simp only [movesToUpon]
            exact ⟨⟨(fun e => by cases e), (fun e => by cases e), (fun e => by cases e)⟩, hC.next (by decide) 1 15 rfl hL hp (by simp) (fun _ r hr => hA r (by
              simp at hr
              rcases hr with rfl | rfl <;> kernel_rfl)) ⟨ga, gn, gc, by rw [upF_ne _ _ (by decide)]; exact g12, H4, M4⟩⟩
          · intro K' hK'; dsimp only at hK'; go_big_quiet_op; go_big_quiet_on; (repeat (go_big_quiet_step (fail))); refine wpQuiet_nil ?_
            intro LL w9 hL hC
            obtain ⟨a3, n3, c3, hg12, H9, M9⟩ : ∃ a3 n3 c3, G 12 = .slice a3 n3 c3 ∧ GV w9 g a b c d y e' u l2 (.slice a3 n3 c3) ∧ Moved w w9 g (.slice va n vc) (.slice a3 n3 c3) :=
              hC.ph.all (fun z hz => hL z (by
                simp at hz
                rcases hz with rfl | rfl <;> decide)) (fun k G W h => h.top)
            rw [g12] at hg12
            injection hg12 with f1 f2 f3
            subst f1 f2 f3
            obtain ⟨H5, M5⟩ := H9.put (y' := y) (e' := e') (u' := u') 7 (.int .i64 u') (by simp)
            have c4 := H9.blk.cell
            have f4 := H9.blk.frozen
            simp at c4
            have HM := Lib.hid (M9.trans M5)
            have H5' := Lib.hid H5
            clear H5 M5 hC hL hG g4 g9 g12 hne H9 M9
            go_wp2_with fail
            go_ret
            exact ⟨rfl, _, H5'.out, HM.out⟩
end Go.Proofs.Ytonamlgipoannaa
