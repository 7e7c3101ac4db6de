/- The region in which the statements of histories make a call, its order drawn: what holds whichever operations have come up. No condition but that both stand. (Printed by gen_hda.py.) -/
import Derived.Test.YtonamlgipoannaaHistDo3
namespace Go.Proofs.Ytonamlgipoannaa
open Go.RowKit BigFrame
attribute [local go_sem ↓] Go.wp_at_zero Go.wp_at_succ

/-- The history at g and the document's in the struct at xb. -/
structure BothH (W : World) (g xb : Nat) (a b c : Int) (l : List HR) (v : Value) (sa : Option Addr) (sc : Nat) : Prop where
  q : HV W g a b c l v
  row : RowAt W sa l.length sc l
  x : Blk W xb 43 #[.int .i64 a, .int .i64 b, .int .i64 c, .slice sa l.length sc]
  apart : ∀ k o, sa = some ⟨k, o, none⟩ → v.ownBlock ≠ some k ∧ k ≠ g ∧ k ≠ xb
  vx : v.ownBlock ≠ some xb
  gx : g ≠ xb
  inv : HInv l
  most : (l.length : Int) ≤ a
theorem BothH.below {W W' : World} {g xb : Nat} {a b c : Int} {l : List HR} {v : Value} {sa : Option Addr} {sc : Nat} (h : BothH W g xb a b c l v sa sc) (hb : Below W.heap.size W W') : BothH W' g xb a b c l v sa sc :=
  ⟨h.q.below hb, h.row.below hb, h.x.below hb h.x.lt, h.apart, h.vx, h.gx, h.inv, h.most⟩
theorem BothH.far {w w' : World} {g xb : Nat} {a b c : Int} {l : List HR} {v : Value} {sa : Option Addr} {sc : Nat} (h : BothH w g xb a b c l v sa sc) (hs : w.heap.size ≤ w'.heap.size) (hk : ∀ k, k < w.heap.size → (k = g ∨ v.ownBlock = some k ∨ k = xb ∨ ∃ o, sa = some ⟨k, o, none⟩) → w'.heap[k]? = w.heap[k]?) : BothH w' g xb a b c l v sa sc :=
  ⟨⟨(hk g h.q.blk.lt (.inl rfl)).trans h.q.blk, own_at h.q.own (fun j hj => hk j (h.q.own.lt j hj).2 (.inr (.inl hj))), h.q.ne⟩, h.row.at_ hs (fun k o e h1 => hk k h1 (.inr (.inr (.inr ⟨o, e⟩)))), (hk xb h.x.lt (.inr (.inr (.inl rfl)))).trans h.x, h.apart, h.vx, h.gx, h.inv, h.most⟩
/-- Behind do. -/
structure AfterH (wl W : World) (g : Nat) (a b c : Int) (l : List HR) (v : Value) (sa : Option Addr) (c' : Int) (l' : List HR) (v' : Value) (sa' : Option Addr) (sc' : Nat) : Prop where
  q : HV W g a b c' l' v'
  row : RowAt W sa' l'.length sc' l'
  rowv : ∀ k, v'.ownBlock = some k → v.ownBlock = some k ∨ wl.heap.size ≤ k
  rows : ∀ k o, sa' = some ⟨k, o, none⟩ → (∃ o', sa = some ⟨k, o', none⟩) ∨ wl.heap.size ≤ k
  apart : ∀ k o, sa' = some ⟨k, o, none⟩ → v'.ownBlock ≠ some k ∧ k ≠ g
  inv : HInv l'
  len : l'.length ≤ l.length + 1
  most : (l'.length : Int) ≤ a
  c0 : c ≤ c'
  c1 : c' ≤ c + 1
/-- While the call's parts are drawn. -/
structure CDoH (wl : World) (g xb : Nat) (a b c : Int) (l : List HR) (v : Value) (sa : Option Addr) (sc : Nat) (L : Nat → Bool) (G : Nat → Value) (W : World) : Prop where
  size : wl.heap.size ≤ W.heap.size
  below : Below 0 wl W
  keep : ∀ k, k < wl.heap.size → k ≠ g → v.ownBlock ≠ some k → k ≠ xb → W.heap[k]? = wl.heap[k]?
  anc : L 10 = true → L 1 = true ∧ L 6 = true
  st0 : L 6 = false → HV W g a b c l v
  st1 : L 6 = true → ∃ c' l' v' sa' sc', G 6 = .tuple #[.agg #[.int .i64 a, .int .i64 b, .int .i64 c', .slice sa' l'.length sc'], .bool true] ∧ AfterH wl W g a b c l v sa c' l' v' sa' sc'
  x0 : L 10 = false → Blk W xb 43 #[.int .i64 a, .int .i64 b, .int .i64 c, .slice sa l.length sc]
  x1 : L 10 = true → ∃ c' sa' n' sc', G 6 = .tuple #[.agg #[.int .i64 a, .int .i64 b, .int .i64 c', .slice sa' n' sc'], .bool true] ∧ Blk W xb 43 #[.int .i64 a, .int .i64 b, .int .i64 c', .slice sa' n' sc']
structure GDoH (a b c : Int) (s0 : Value) (q : Nat) (u : Value) : Prop where
  load : q = 1 → u = .agg #[.int .i64 a, .int .i64 b, .int .i64 c, s0]
  call : q = 6 → ∃ c' ra n rc, u = .tuple #[.agg #[.int .i64 a, .int .i64 b, .int .i64 c', .slice ra n rc], .bool true]
def G0DoH (a b c : Int) (s0 : Value) (q : Nat) : Value := if q = 1 then .agg #[.int .i64 a, .int .i64 b, .int .i64 c, s0] else .tuple #[.agg #[.int .i64 a, .int .i64 b, .int .i64 c, .slice none 0 0], .bool true]
theorem G0DoH_ok (a b c : Int) (s0 : Value) (q : Nat) : GDoH a b c s0 q (G0DoH a b c s0 q) := ⟨fun e => by subst e; rfl, fun e => by subst e; exact ⟨c, none, 0, 0, rfl⟩⟩
variable {wl W W' : World} {g xb : Nat} {a b c : Int} {l : List HR} {v : Value} {sa : Option Addr} {sc : Nat} {L : Nat → Bool} {G : Nat → Value}
theorem CDoH.start (h : BothH wl g xb a b c l v sa sc) (G : Nat → Value) : CDoH wl g xb a b c l v sa sc (fun _ => false) G wl.drew :=
  ⟨Nat.le_refl _, (Below.refl _ _).drew, fun _ _ _ _ _ => rfl, (fun e => by cases e), fun _ => h.q.below ((Below.refl _ _).drew), (fun e => by cases e), fun _ => h.x.drew, (fun e => by cases e)⟩
theorem CDoH.quiet (h : CDoH wl g xb a b c l v sa sc L G W) {z : Nat} (h1 : z ≠ 1) (h6 : z ≠ 6) (h10 : z ≠ 10) : CDoH wl g xb a b c l v sa sc (upd L z) G W := by
  refine ⟨h.size, h.below, h.keep, fun e => ?_, fun e => h.st0 ?_, fun e => h.st1 ?_, fun e => h.x0 ?_, fun e => h.x1 ?_⟩
  · rw [upd_ne L (by omega)] at e ⊢
    rw [upd_ne L (by omega)]
    exact h.anc e
  all_goals (rw [upd_ne L (by omega)] at e; exact e)
theorem CDoH.xb0 (h : CDoH wl g xb a b c l v sa sc L G W) (hL : L 1 = false) : L 10 = false := by
  cases e : L 10
  · rfl
  · have := (h.anc e).1
    rw [hL] at this
    cases this
theorem CDoH.loaded (h : CDoH wl g xb a b c l v sa sc L G W) (hL : L 1 = false) (u : Value) : CDoH wl g xb a b c l v sa sc (upd L 1) (upF G 1 u) W := by
  refine ⟨h.size, h.below, h.keep, fun e => ?_, fun e => h.st0 ?_, fun e => ?_, fun e => h.x0 ?_, fun e => ?_⟩
  · rw [upd_ne L (by decide)] at e
    rw [h.xb0 hL] at e
    cases e
  · rw [upd_ne L (by decide)] at e; exact e
  · rw [upd_ne L (by decide)] at e
    rw [upF_ne _ _ (by decide)]
    exact h.st1 e
  · rw [upd_ne L (by decide)] at e; exact e
  · rw [upd_ne L (by decide), h.xb0 hL] at e
    cases e
theorem CDoH.down (h : CDoH wl g xb a b c l v sa sc L G W) {B : Nat} (hB : B ≤ wl.heap.size) (hg : B ≤ g) (hx : B ≤ xb) (hv : ∀ k, v.ownBlock = some k → B ≤ k) : Below B wl W :=
  ⟨h.below.os, h.below.tape, h.below.output, h.size, fun k hk => h.keep k (by omega) (by omega) (fun e => by have := hv k e; omega) (by omega)⟩
theorem CDoH.stored (h : CDoH wl g xb a b c l v sa sc L G W) (H : BothH wl g xb a b c l v sa sc) (h1 : L 1 = true) (h6 : L 6 = true) {c' : Int} {ra : Option Addr} {rn rc : Nat} (hG : G 6 = .tuple #[.agg #[.int .i64 a, .int .i64 b, .int .i64 c', .slice ra rn rc], .bool true]) (K : Blk W' xb 43 #[.int .i64 a, .int .i64 b, .int .i64 c', .slice ra rn rc]) (hB : Below 0 W W') (hk : ∀ k, k ≠ xb → W'.heap[k]? = W.heap[k]?) (u : Value) : CDoH wl g xb a b c l v sa sc (upd L 10) (upF G 10 u) W' := by
  have hx := H.x.lt
  refine ⟨Nat.le_trans h.size hB.size, h.below.trans hB, fun k h1 h2 h3 h4 => (hk k h4).trans (h.keep k h1 h2 h3 h4), fun _ => ?_, fun e => ?_, fun _ => ?_, (fun e => by rw [upd_at] at e; cases e), fun _ => ?_⟩
  · rw [upd_ne L (by decide), upd_ne L (by decide)]
    exact ⟨h1, h6⟩
  · rw [upd_ne L (by decide), h6] at e
    cases e
  · obtain ⟨c1, l', v', sa', sc', e, A⟩ := h.st1 h6
    rw [upF_ne _ _ (by decide)]
    refine ⟨c1, l', v', sa', sc', e, ⟨A.q.far hk H.gx (fun e2 => ?_), A.row.at_ hB.size (fun k o e2 _ => hk k (fun e3 => ?_)), A.rowv, A.rows, A.apart, A.inv, A.len, A.most, A.c0, A.c1⟩⟩
    · rcases A.rowv _ e2 with h2 | h2
      · exact H.vx h2
      · omega
    · subst e3
      rcases A.rows _ o e2 with ⟨o', h2⟩ | h2
      · exact (H.apart _ o' h2).2.2 rfl
      · omega
  · rw [upF_ne _ _ (by decide)]
    exact ⟨_, _, _, _, hG, K⟩
theorem CDoH.call (h : CDoH wl g xb a b c l v sa sc L G W) (H : BothH wl g xb a b c l v sa sc) (hL : L 6 = false) (kd s pa : Int) (data : ByteArray)
    (ha : 1 ≤ a) (hds : data.size ≤ maxLen) (hb : b ≤ 100) (c0 : 0 ≤ c) (c9 : c ≤ 1000000) (hl : l.length ≤ 10000) :
    Calls Try.prog 19 #[.pointer (some ⟨g, 0, none⟩), .agg #[.int .i64 a, .int .i64 b, .int .i64 c, .slice sa l.length sc], .agg #[.int .i64 kd, .int .i64 s, .int .i64 pa, .string data]] W fun e w' => ∃ u, e = .returned u ∧ GDoH a b c (.slice sa l.length sc) 6 u ∧ CDoH wl g xb a b c l v sa sc (upd L 6) (upF G 6 u) w' := by
  have hx := H.x.lt
  have sW := h.size
  have hrow : RowAt W sa l.length sc l := H.row.at_ sW (fun k o e hk => h.keep k hk (H.apart k o e).2.1 (H.apart k o e).1 (H.apart k o e).2.2)
  refine (law21_do g _ a b c l v sa sc kd s pa data W (h.st0 hL) ⟨rfl, hrow⟩ (fun k o e => ⟨(H.apart k o e).1, (H.apart k o e).2.1⟩) H.inv H.most ha hds hb c0 c9 hl).mono ?_
  rintro e w' ⟨x', rfl, c', l', v', sa', sc', D, d1, d2, d3, d4, d5⟩
  have hx' := D.r.eq
  subst hx'
  have hno : L 10 = true → False := fun e => by have := (h.anc e).2; rw [hL] at this; cases this
  refine ⟨_, rfl, ⟨(fun e => by cases e), fun _ => ⟨_, _, _, _, rfl⟩⟩, ⟨Nat.le_trans sW D.moved.below.size, h.below.trans D.moved.below, fun k h1 h2 h3 h4 => (D.moved.keep k (by omega) h2 h3).trans (h.keep k h1 h2 h3 h4), fun e => ?_, (fun e => by rw [upd_at] at e; cases e), fun _ => ⟨c', l', v', sa', sc', upF_same _ _ _, ⟨D.q, D.r.row, fun k hk => ?_, fun k o hk => ?_, D.apart, d1, d2, d3, d4, d5⟩⟩, fun e => ?_, fun e => ?_⟩⟩
  · rw [upd_ne L (by decide)] at e
    exact absurd e (fun e => hno e)
  · rcases D.moved.row k hk with h1 | h1
    · exact .inl h1
    · right; omega
  · rcases D.fresh k o hk with h1 | h1
    · exact .inl h1
    · right; omega
  · rw [upd_ne L (by decide)] at e
    exact (D.moved.keep xb (by omega) H.gx.symm H.vx).trans (h.x0 e)
  · rw [upd_ne L (by decide)] at e
    exact absurd e (fun e => hno e)
/-- Behind the region. -/
theorem CDoH.done (h : CDoH wl g xb a b c l v sa sc L G W) (H : BothH wl g xb a b c l v sa sc) (h6 : L 6 = true) (h10 : L 10 = true) {c1 : Int} {ra : Option Addr} {rn rc : Nat} (hG : G 6 = .tuple #[.agg #[.int .i64 a, .int .i64 b, .int .i64 c1, .slice ra rn rc], .bool true]) :
    ∃ l' v', rn = l'.length ∧ BothH W g xb a b c1 l' v' ra rc ∧ l'.length ≤ l.length + 1 ∧ c ≤ c1 ∧ c1 ≤ c + 1 ∧ (∀ k, v'.ownBlock = some k → v.ownBlock = some k ∨ wl.heap.size ≤ k) := by
  have hx := H.x.lt
  obtain ⟨c', l', v', sa', sc', e, A⟩ := h.st1 h6
  obtain ⟨c2, sa2, n2, sc2, e2, K⟩ := h.x1 h10
  rw [hG] at e e2
  simp only [Value.tuple.injEq, Array.mk.injEq, List.cons.injEq, Value.agg.injEq, Value.slice.injEq, Value.int.injEq, and_true, true_and] at e e2
  obtain ⟨rfl, rfl, rfl, rfl⟩ := e
  obtain ⟨rfl, rfl, rfl, rfl⟩ := e2
  refine ⟨l', v', rfl, ⟨A.q, A.row, K, fun k o hk => ⟨(A.apart k o hk).1, (A.apart k o hk).2, fun e3 => ?_⟩, fun e3 => ?_, H.gx, A.inv, A.most⟩, A.len, A.c0, A.c1, A.rowv⟩
  · subst e3
    rcases A.rows _ o hk with ⟨o', h2⟩ | h2
    · exact (H.apart _ o' h2).2.2 rfl
    · omega
  · rcases A.rowv _ e3 with h2 | h2
    · exact H.vx h2
    · omega
theorem SliceOf.at4x {w : World} {a : Option Addr} {len cap : Nat} {X Y Z U : Nat → Value} (h : SliceOf w a len cap 4 (fun i => [X i, Y i, Z i, U i])) (hp : 0 < len) :
    ∃ b off, a = some ⟨b, off, none⟩ ∧ b < w.heap.size ∧ ∀ i, i < len → w.cell? ⟨b, off + i * 4, none⟩ = some (X i) ∧ w.cell? ⟨b, off + i * 4 + 1, none⟩ = some (Y i) ∧ w.cell? ⟨b, off + i * 4 + 2, none⟩ = some (Z i) ∧ w.cell? ⟨b, off + i * 4 + 3, none⟩ = some (U i) := by
  obtain ⟨b, off, ha, hb, hc⟩ := h.2.2 hp
  exact ⟨b, off, ha, hb, fun i hi => ⟨by have := hc i hi 0 _ rfl; simpa using this, hc i hi 1 _ rfl, hc i hi 2 _ rfl, hc i hi 3 _ rfl⟩⟩
end Go.Proofs.Ytonamlgipoannaa
