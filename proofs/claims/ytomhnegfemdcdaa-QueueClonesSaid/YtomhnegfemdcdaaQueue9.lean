/- Clone of a queue. No condition but that the queue stands. -/
import Derived.Test.YtomhnegfemdcdaaQueue8
namespace Go.Proofs.Ytomhnegfemdcdaa
open Go.RowKit BigFrame
attribute [local go_sem ↓] Go.wp_at_zero Go.wp_at_succ

theorem updA (L : Nat → Bool) (q : Nat) : upd L q q = true := by simp [upd]
theorem updN_ (L : Nat → Bool) {q j : Nat} (h : j ≠ q) : upd L q j = L j := by simp [upd, h]
structure CClone (w : World) (n : Nat) (a b y : Int) (l : List ByteArray) (L : Nat → Bool) (G : Nat → Value) (W : World) : Prop where
  below : Below w.heap.size w W
  late : L 14 = true → L 8 = true
  row : L 8 = true → W.ownsRow w.heap.size 49 1 (G 8) n (textCells l)
  box : L 14 = true → ∃ gc, G 14 = .pointer (some ⟨gc, 0, none⟩) ∧ w.heap.size ≤ gc ∧ Blk W gc 76 #[.int .i64 a, .int .i64 b, G 8, .int .i64 y] ∧ (G 8).ownBlock ≠ some gc
structure GClone (n q : Nat) (v : Value) : Prop where
  row : q = 8 → ∃ a c, v = .slice a n c
  box : q = 14 → ∃ gc, v = .pointer (some ⟨gc, 0, none⟩)
set_option maxHeartbeats 4000000 in
theorem queue_CloneV (g : Nat) (a b y : Int) (l : List ByteArray) (v : Value) (w : World) (h : QV w g a b l y v) (hl : l.length ≤ 100000) :
    Calls Try.prog 28 #[.pointer (some ⟨g, 0, none⟩)] w fun e w' => ∃ gc, e = .returned (.pointer (some ⟨gc, 0, none⟩)) ∧ ∃ v', QV w' gc a b l y v' ∧ w.heap.size ≤ gc ∧ (∀ k, v'.ownBlock = some k → w.heap.size ≤ k) ∧ Below w.heap.size w w' := by
  obtain ⟨va, vc, rfl, S⟩ := h.bytes_
  have k := h.blk
  have HC := Lib.hid (fun (W : World) (hb : Below w.heap.size w W) => text_Clone va vc l W (S.below hb) hl)
  clear h S
  obtain ⟨n, hn⟩ : ∃ n, l.length = n := ⟨_, rfl⟩
  rw [hn] at k HC
  go_enter Try.func28, Try.ntmps28
  go_upto_region 1 with fail
  have hne : Nonempty (UWF (CClone w n a b y l)) := ⟨⟨fun _ => false, fun _ => undef, w.drew, ⟨(Below.refl _ _).drew, (fun e => by cases e), (fun e => by cases e), (fun e => by cases e)⟩⟩⟩
  refine wp_region_free [(0, 8, some 8), (9, 5, some 14), (15, 1, none)] (CClone w n a b y l) (GClone n) (fun q => if q = 8 then .slice none n 0 else .pointer (some ⟨0, 0, none⟩)) (by kernel_rfl) (by kernel_rfl) ?_ ?_ ?_ ?_
  · intro q hq L G W hC
    simp [moversI] at hq
    have e1 : upd L q 8 = L 8 := updN_ L (fun e => hq.1 e.symm)
    have e2 : upd L q 14 = L 14 := updN_ L (fun e => hq.2 e.symm)
    exact ⟨hC.below, by rw [e1, e2]; exact hC.late, by rw [e1]; exact hC.row, by rw [e2]; exact hC.box⟩
  · exact ⟨(Below.refl _ _).drew, (fun e => by cases e), (fun e => by cases e), (fun e => by cases e)⟩
  · intro q
    exact ⟨fun e => by subst e; exact ⟨_, _, rfl⟩, fun e => by subst e; exact ⟨_, rfl⟩⟩
  · intro G hG
    obtain ⟨ra, rc, g8⟩ := (hG 8).row rfl
    obtain ⟨gc, g14⟩ := (hG 14).box rfl
    have E0 := fun (gw : UWF (CClone w n a b y l)) => (gw.holds.below.cell (p := ⟨g, 0, none⟩) k.lt).trans (k.cell 0)
    have E1 := fun (gw : UWF (CClone w n a b y l)) => (gw.holds.below.cell (p := ⟨g, 1, none⟩) k.lt).trans (k.cell 1)
    have E2 := fun (gw : UWF (CClone w n a b y l)) => (gw.holds.below.cell (p := ⟨g, 2, none⟩) k.lt).trans (k.cell 2)
    have E3 := fun (gw : UWF (CClone w n a b y l)) => (gw.holds.below.cell (p := ⟨g, 3, none⟩) k.lt).trans (k.cell 3)
    simp at E0 E1 E2 E3
    simp only [walkF, List.drop_zero, List.drop_succ_cons, List.take_succ_cons, List.take_zero, List.toList_toArray]; (repeat (go_big_quiet_step (fail))); refine wpQuiet_nil ?_
    refine ⟨_, _, _, _, _, _, rfl, .inl ⟨rfl, ?_, ?_⟩⟩
    · intro L W hL hA hC
      refine ⟨?_⟩; go_simp; simp only [movesToUpon]
      refine (HC.out W hC.below).mono ?_
      rintro e w' ⟨v', rfl, own, hb⟩
      have h14 : L 14 = false := by
        cases e : L 14 with
        | false => rfl
        | true => have := hC.late e; rw [hL] at this; cases this
      obtain ⟨sa, sc, rfl, _⟩ := SliceOf.of_own own (fun i => .string (l.getD i .empty)) (fun i hi => by rw [← hn] at hi; unfold textCells; simp [hi])
      refine ⟨_, rfl, ⟨fun _ => ⟨_, _, rfl⟩, (fun e => by cases e)⟩, below_then hC.below hb (Nat.le_refl _), (fun e => by rw [updN_ L (by decide), h14] at e; cases e), fun _ => ?_, (fun e => by rw [updN_ L (by decide), h14] at e; cases e)⟩
      rw [upF_same]
      exact ⟨own.1, by
        rcases own.2 with h | ⟨g', cap, cur, h1, h2, h3⟩
        · exact .inl h
        · exact .inr ⟨g', cap, cur, h1, Nat.le_trans hC.below.size h2, h3⟩⟩
    · intro K' hK'; dsimp only at hK'; rw [g8]; go_big_quiet_op; go_big_quiet_on; (repeat (go_big_quiet_step (fail))); refine wpQuiet_nil ?_
      refine ⟨_, _, _, _, _, _, rfl, .inl ⟨rfl, ?_, ?_⟩⟩
      · intro L W hL hA hC
        have h8 := hA 8 (by kernel_rfl)
        have own := hC.row h8
        refine ⟨?_⟩; go_simp; simp only [movesToUpon]
        refine ⟨⟨(fun e => by cases e), fun _ => ⟨_, rfl⟩⟩, hC.below.alloc hC.below.size _, fun _ => by rw [updN_ L (by decide)]; exact h8, fun _ => ?_, fun _ => ⟨W.heap.size, upF_same _ _ _, hC.below.size, ?_, ?_⟩⟩
        · rw [upF_ne _ _ (by decide)]
          exact own_at own (fun j hj => Below.heap_alloc _ _ j (own.lt j hj).2)
        · rw [upF_ne _ _ (by decide), g8]
          exact Blk.new _ _ _
        · rw [upF_ne _ _ (by decide)]
          intro e
          have := (own.lt _ e).2
          omega
      · intro K' hK'; dsimp only at hK'; rw [g14]; go_big_quiet_op; go_big_quiet_on; (repeat (go_big_quiet_step (fail))); refine wpQuiet_nil ?_
        intro L W hL hC
        have own := hC.row (hL 8 (by decide))
        obtain ⟨gc', e1, hgc, kc, hne2⟩ := hC.box (hL 14 (by decide))
        rw [g14] at e1
        injection e1 with e1
        injection e1 with e1
        injection e1 with e1
        subst e1
        have hb := hC.below
        go_wp2_with fail
        go_ret
        exact ⟨gc, rfl, G 8, ⟨kc, (by rw [hn]; exact own_base own), hne2⟩, hgc, fun k hk => (own.lt k hk).1, hb⟩
end Go.Proofs.Ytomhnegfemdcdaa
