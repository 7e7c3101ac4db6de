/- The statements' do of queues, any call; and the region in which the statements make it, its order drawn: what holds whichever operations have come up. No condition but that both stand. -/
import Derived.Test.YtomhnegfemdcdaaQueueDo2
namespace Go.Proofs.Ytomhnegfemdcdaa
open Go.RowKit BigFrame
attribute [local go_sem ↓] Go.wp_at_zero Go.wp_at_succ

/-- The queue at g and the document's in the struct at xb. -/
structure Both (W : World) (g xb : Nat) (a b : Int) (l : List ByteArray) (v sv : Value) : Prop where
  q : QV W g a b l (sumQ l) v
  own : W.ownsRow 0 9 1 sv l.length (textCells l)
  x : Blk W xb 58 #[.int .i64 a, .int .i64 b, sv]
  apart : ∀ k, sv.ownBlock = some k → v.ownBlock ≠ some k ∧ k ≠ g ∧ k ≠ xb
  vx : v.ownBlock ≠ some xb
  gx : g ≠ xb
  small : ∀ s ∈ l, s.size ≤ 20
  most : (l.length : Int) ≤ a
  room : sumQ l ≤ b
theorem Both.below {W W' : World} {g xb : Nat} {a b : Int} {l : List ByteArray} {v sv : Value} (h : Both W g xb a b l v sv) (hb : Below W.heap.size W W') : Both W' g xb a b l v sv :=
  ⟨h.q.below hb, own_at h.own (fun j hj => hb.block j (h.own.lt j hj).2), h.x.below hb h.x.lt, h.apart, h.vx, h.gx, h.small, h.most, h.room⟩
theorem law20_do (g : Nat) (x : Value) (a b kd N : Int) (l : List ByteArray) (v sv : Value) (la : Option Addr) (ll lc : Nat) (ss : Nat → ByteArray) (w : World) (h : QV w g a b l (sumQ l) v) (R : RQ w x a b l sv) (hsep : ∀ k, sv.ownBlock = some k → v.ownBlock ≠ some k ∧ k ≠ g)
    (SA : SliceOf w la ll lc 1 (fun j => [.string (ss j)])) (SF : ∀ j, j < ll → (ss j).size ≤ maxLen) (a0 : 0 ≤ a) (a1 : a ≤ 1073741824) (b0 : 0 ≤ b) (b1 : b ≤ 1073741824) (hl : l.length ≤ 9000) (hs : ∀ s ∈ l, s.size ≤ 20) (hla : (l.length : Int) ≤ a) (hlb : sumQ l ≤ b) :
    Calls Try.prog 25 #[.pointer (some ⟨g, 0, none⟩), x, .agg #[.int .i64 kd, .int .i64 N, .slice la ll lc]] w fun e w' => ∃ x', e = .returned (.tuple #[x', .bool true]) ∧ ∃ v' sv' l', DoPost w w' g a b l v sv x' l' v' sv' ∧ l'.length ≤ l.length + 6 ∧ (∀ s ∈ l', s.size ≤ 20) ∧ (l'.length : Int) ≤ a ∧ sumQ l' ≤ b := by
  by_cases h0 : kd = 0
  · subst h0
    exact law20_do0 g x a b N l v sv la ll lc ss w h R hsep SA SF a0 a1 b0 b1 hl hs hla hlb
  by_cases h1 : kd = 1
  · subst h1
    refine (law20_do1 g x a b N l v sv la ll lc w h R hsep (by omega) (by omega)).mono ?_
    rintro e w' ⟨x', rfl, v', sv', D⟩
    have hlen : (l.drop 1).length ≤ l.length := by rw [List.length_drop]; omega
    refine ⟨x', rfl, v', sv', _, D, by omega, fun s hs' => hs s (List.drop_subset _ _ hs'), by omega, ?_⟩
    cases l with
    | nil => exact hlb
    | cons s l =>
      have := (sumQ_bd [s]).1
      simp only [sumQ, List.drop_succ_cons, List.drop_zero] at *
      omega
  · refine (law20_do2 g x a b kd N l v sv la ll lc w h R hsep h0 h1 hl).mono ?_
    rintro e w' ⟨x', rfl, v', sv', D⟩
    have hlen := keepQ_sub N l
    have hsum := sumQ_keep N l
    exact ⟨x', rfl, v', sv', _, D, by omega, fun s hs' => hs s (keepQ_mem N l s hs'), by omega, by omega⟩

/-- Behind do. -/
structure AfterDo (wl W : World) (g : Nat) (a b : Int) (l : List ByteArray) (v sv s v' : Value) (l' : List ByteArray) : Prop where
  q : QV W g a b l' (sumQ l') v'
  own : W.ownsRow 0 9 1 s l'.length (textCells l')
  rowv : ∀ k, v'.ownBlock = some k → v.ownBlock = some k ∨ wl.heap.size ≤ k
  rows : ∀ k, s.ownBlock = some k → sv.ownBlock = some k ∨ wl.heap.size ≤ k
  apart : ∀ k, s.ownBlock = some k → v'.ownBlock ≠ some k ∧ k ≠ g
  len : l'.length ≤ l.length + 6
  small : ∀ s ∈ l', s.size ≤ 20
  most : (l'.length : Int) ≤ a
  room : sumQ l' ≤ b
/-- While the call's parts are drawn. -/
structure CDo (wl : World) (g xb : Nat) (a b : Int) (l : List ByteArray) (v sv : Value) (L : Nat → Bool) (G : Nat → Value) (W : World) : Prop where
  size : wl.heap.size ≤ W.heap.size
  below : Below 0 wl W
  keep : ∀ k, k < wl.heap.size → k ≠ g → v.ownBlock ≠ some k → k ≠ xb → W.heap[k]? = wl.heap[k]?
  anc : L 10 = true → L 1 = true ∧ L 6 = true
  st0 : L 6 = false → QV W g a b l (sumQ l) v
  st1 : L 6 = true → ∃ s v' l', G 6 = .tuple #[.agg #[.int .i64 a, .int .i64 b, s], .bool true] ∧ AfterDo wl W g a b l v sv s v' l'
  x0 : L 10 = false → Blk W xb 58 #[.int .i64 a, .int .i64 b, sv]
  x1 : L 10 = true → ∃ s, G 6 = .tuple #[.agg #[.int .i64 a, .int .i64 b, s], .bool true] ∧ Blk W xb 58 #[.int .i64 a, .int .i64 b, s]
structure GDo (a b : Int) (sv : Value) (q : Nat) (v : Value) : Prop where
  load : q = 1 → v = .agg #[.int .i64 a, .int .i64 b, sv]
  call : q = 6 → ∃ ra n rc, v = .tuple #[.agg #[.int .i64 a, .int .i64 b, .slice ra n rc], .bool true]
def G0Do (a b : Int) (sv : Value) (q : Nat) : Value := if q = 1 then .agg #[.int .i64 a, .int .i64 b, sv] else .tuple #[.agg #[.int .i64 a, .int .i64 b, .slice none 0 0], .bool true]
theorem G0Do_ok (a b : Int) (sv : Value) (q : Nat) : GDo a b sv q (G0Do a b sv q) := ⟨fun e => by subst e; rfl, fun e => by subst e; exact ⟨none, 0, 0, rfl⟩⟩
variable {wl W W' : World} {g xb : Nat} {a b : Int} {l : List ByteArray} {v sv : Value} {L : Nat → Bool} {G : Nat → Value}
theorem CDo.start (h : Both wl g xb a b l v sv) (G : Nat → Value) : CDo wl g xb a b l v sv (fun _ => false) G wl.drew :=
  ⟨Nat.le_refl _, (Below.refl _ _).drew, fun _ _ _ _ _ => rfl, (fun e => by cases e), fun _ => h.q.below ((Below.refl _ _).drew), (fun e => by cases e), fun _ => h.x.drew, (fun e => by cases e)⟩
theorem CDo.quiet (h : CDo wl g xb a b l v sv L G W) {z : Nat} (h1 : z ≠ 1) (h6 : z ≠ 6) (h10 : z ≠ 10) : CDo wl g xb a b l v sv (upd L z) G W := by
  refine ⟨h.size, h.below, h.keep, fun e => ?_, fun e => h.st0 ?_, fun e => h.st1 ?_, fun e => h.x0 ?_, fun e => h.x1 ?_⟩
  · rw [upd_ne L (by omega)] at e ⊢
    rw [upd_ne L (by omega)]
    exact h.anc e
  all_goals (rw [upd_ne L (by omega)] at e; exact e)
theorem CDo.xb0 (h : CDo wl g xb a b l v sv L G W) (hL : L 1 = false) : L 10 = false := by
  cases e : L 10
  · rfl
  · have := (h.anc e).1
    rw [hL] at this
    cases this
theorem CDo.loaded (h : CDo wl g xb a b l v sv L G W) (hL : L 1 = false) (u : Value) : CDo wl g xb a b l v sv (upd L 1) (upF G 1 u) W := by
  refine ⟨h.size, h.below, h.keep, fun e => ?_, fun e => h.st0 ?_, fun e => ?_, fun e => h.x0 ?_, fun e => ?_⟩
  · rw [upd_ne L (by decide)] at e
    rw [h.xb0 hL] at e
    cases e
  · rw [upd_ne L (by decide)] at e; exact e
  · rw [upd_ne L (by decide)] at e
    rw [upF_ne _ _ (by decide)]
    exact h.st1 e
  · rw [upd_ne L (by decide)] at e; exact e
  · rw [upd_ne L (by decide), h.xb0 hL] at e
    cases e
theorem CDo.down (h : CDo wl g xb a b l v sv L G W) {B : Nat} (hB : B ≤ wl.heap.size) (hg : B ≤ g) (hx : B ≤ xb) (hv : ∀ k, v.ownBlock = some k → B ≤ k) : Below B wl W :=
  ⟨h.below.os, h.below.tape, h.below.output, h.size, fun k hk => h.keep k (by omega) (by omega) (fun e => by have := hv k e; omega) (by omega)⟩
theorem CDo.stored (h : CDo wl g xb a b l v sv L G W) (H : Both wl g xb a b l v sv) (h1 : L 1 = true) (h6 : L 6 = true) {s : Value} (hG : G 6 = .tuple #[.agg #[.int .i64 a, .int .i64 b, s], .bool true]) (K : Blk W' xb 58 #[.int .i64 a, .int .i64 b, s]) (hB : Below 0 W W') (hk : ∀ k, k ≠ xb → W'.heap[k]? = W.heap[k]?) (u : Value) : CDo wl g xb a b l v sv (upd L 10) (upF G 10 u) W' := by
  have hx := H.x.lt
  refine ⟨Nat.le_trans h.size hB.size, h.below.trans hB, fun k h1 h2 h3 h4 => (hk k h4).trans (h.keep k h1 h2 h3 h4), fun _ => ?_, fun e => ?_, fun _ => ?_, (fun e => by rw [upd_at] at e; cases e), fun _ => ?_⟩
  · rw [upd_ne L (by decide), upd_ne L (by decide)]
    exact ⟨h1, h6⟩
  · rw [upd_ne L (by decide), h6] at e
    cases e
  · obtain ⟨s', v', l', e, A⟩ := h.st1 h6
    rw [upF_ne _ _ (by decide)]
    refine ⟨s', v', l', e, ⟨A.q.kept (fun i _ hi => hk i hi) H.gx (fun e2 => ?_), own_at A.own (fun j hj => hk j (fun e3 => ?_)), A.rowv, A.rows, A.apart, A.len, A.small, A.most, A.room⟩⟩
    · rcases A.rowv _ e2 with h2 | h2
      · exact H.vx h2
      · omega
    · subst e3
      rcases A.rows _ hj with h2 | h2
      · exact (H.apart _ h2).2.2 rfl
      · omega
  · rw [upF_ne _ _ (by decide)]
    exact ⟨s, hG, K⟩
theorem CDo.call (h : CDo wl g xb a b l v sv L G W) (H : Both wl g xb a b l v sv) (hL : L 6 = false) (kd N : Int) (la : Option Addr) (ll lc : Nat) (ss : Nat → ByteArray)
    (SA : SliceOf W la ll lc 1 (fun j => [.string (ss j)])) (SF : ∀ j, j < ll → (ss j).size ≤ maxLen) (a0 : 0 ≤ a) (a1 : a ≤ 1073741824) (b0 : 0 ≤ b) (b1 : b ≤ 1073741824) (hl : l.length ≤ 9000) :
    Calls Try.prog 25 #[.pointer (some ⟨g, 0, none⟩), .agg #[.int .i64 a, .int .i64 b, sv], .agg #[.int .i64 kd, .int .i64 N, .slice la ll lc]] W fun e w' => ∃ u, e = .returned u ∧ GDo a b sv 6 u ∧ CDo wl g xb a b l v sv (upd L 6) (upF G 6 u) w' := by
  have hx := H.x.lt
  have sW := h.size
  have hown : W.ownsRow 0 9 1 sv l.length (textCells l) := own_at H.own (fun j hj => h.keep j (H.own.lt j hj).2 (H.apart j hj).2.1 (H.apart j hj).1 (H.apart j hj).2.2)
  refine (law20_do g _ a b kd N l v sv la ll lc ss W (h.st0 hL) ⟨rfl, hown⟩ (fun k hk => ⟨(H.apart k hk).1, (H.apart k hk).2.1⟩) SA SF a0 a1 b0 b1 hl H.small H.most H.room).mono ?_
  rintro e w' ⟨x', rfl, v', s, l', D, d1, d2, d3, d4⟩
  have hx' := D.r.eq
  subst hx'
  obtain ⟨ra, rc, rfl, -⟩ := D.r.slice_
  have hno : L 10 = true → False := fun e => by have := (h.anc e).2; rw [hL] at this; cases this
  refine ⟨_, rfl, ⟨(fun e => by cases e), fun _ => ⟨_, _, _, rfl⟩⟩, ⟨Nat.le_trans sW D.moved.below.size, h.below.trans D.moved.below, fun k h1 h2 h3 h4 => (D.moved.keep k (by omega) h2 h3).trans (h.keep k h1 h2 h3 h4), fun e => ?_, (fun e => by rw [upd_at] at e; cases e), fun _ => ⟨_, v', l', upF_same _ _ _, ⟨D.q, D.r.own, fun k hk => ?_, fun k hk => ?_, D.apart, d1, d2, d3, d4⟩⟩, fun e => ?_, fun e => ?_⟩⟩
  · rw [upd_ne L (by decide)] at e
    exact absurd e (fun e => hno e)
  · rcases D.moved.row k hk with h1 | h1
    · exact .inl h1
    · right; omega
  · rcases D.fresh k hk with h1 | h1
    · exact .inl h1
    · right; omega
  · rw [upd_ne L (by decide)] at e
    exact (D.moved.keep xb (by omega) H.gx.symm H.vx).trans (h.x0 e)
  · rw [upd_ne L (by decide)] at e
    exact absurd e (fun e => hno e)
/-- Behind the region. -/
theorem CDo.done (h : CDo wl g xb a b l v sv L G W) (H : Both wl g xb a b l v sv) (h6 : L 6 = true) (h10 : L 10 = true) : ∃ s v' l', G 6 = .tuple #[.agg #[.int .i64 a, .int .i64 b, s], .bool true] ∧ Both W g xb a b l' v' s ∧ l'.length ≤ l.length + 6 ∧ (∀ k, v'.ownBlock = some k → v.ownBlock = some k ∨ wl.heap.size ≤ k) := by
  have hx := H.x.lt
  obtain ⟨s, v', l', e, A⟩ := h.st1 h6
  obtain ⟨s2, e2, K⟩ := h.x1 h10
  rw [e] at e2
  simp only [Value.tuple.injEq, Array.mk.injEq, List.cons.injEq, Value.agg.injEq, and_true, true_and] at e2
  subst e2
  refine ⟨s, v', l', e, ⟨A.q, A.own, K, fun k hk => ⟨(A.apart k hk).1, (A.apart k hk).2, fun e3 => ?_⟩, fun e3 => ?_, H.gx, A.small, A.most, A.room⟩, A.len, A.rowv⟩
  · subst e3
    rcases A.rows _ hk with h2 | h2
    · exact (H.apart _ h2).2.2 rfl
    · omega
  · rcases A.rowv _ e3 with h2 | h2
    · exact H.vx h2
    · omega
end Go.Proofs.Ytomhnegfemdcdaa
