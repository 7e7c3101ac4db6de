/- While new gaps and the document's struct are drawn: a class for wp_region_free. No condition. (Printed by gen_gda.py.) -/
import Derived.Test.YtonamlgipoannaaGapsDoA
namespace Go.Proofs.Ytonamlgipoannaa
open Go.RowKit BigFrame
attribute [local go_sem ↓] Go.wp_at_zero Go.wp_at_succ

/-- Operation i makes gaps, j makes the document's struct, k writes it; others only add blocks. -/
structure CMkG (w0 : World) (a b c d : Int) (y : Bool) (e0 u : Int) (l : List WR) (cs : Array Value) (i j k : Nat) (L : Nat → Bool) (G : Nat → Value) (W : World) : Prop where
  below : Below w0.heap.size w0 W
  anc : L k = true → L j = true
  st : ∃ (gc : Nat) (v' : Value) (xb : Nat), (L i = true → G i = .pointer (some ⟨gc, 0, none⟩) ∧ GV W gc a b c d y e0 u l v' ∧ w0.heap.size ≤ gc ∧ ∀ k, v'.ownBlock = some k → w0.heap.size ≤ k) ∧
    (L j = true → G j = .pointer (some ⟨xb, 0, none⟩) ∧ w0.heap.size ≤ xb ∧ xb < W.heap.size ∧ (L k = false → Blk W xb 70 #[.int .i64 0, .int .i64 0, .int .i64 0, .int .i64 0, .slice none 0 0, .bool false, .int .i64 0, .int .i64 0]) ∧ (L k = true → Blk W xb 70 cs)) ∧
    (L i = true → L j = true → gc ≠ xb ∧ v'.ownBlock ≠ some xb)
def GMkG (i j : Nat) (q : Nat) (v : Value) : Prop := (q = i ∨ q = j) → ∃ n, v = .pointer (some ⟨n, 0, none⟩)
section
variable {w0 W W' : World} {a b c d : Int} {y : Bool} {e0 u : Int} {l : List WR} {cs : Array Value} {i j k : Nat} {L : Nat → Bool} {G : Nat → Value}
theorem CMkG.start (w0 : World) (G : Nat → Value) : CMkG w0 a b c d y e0 u l cs i j k (fun _ => false) G w0.drew :=
  ⟨(Below.refl _ _).drew, (fun e => by cases e), 0, undef, 0, (fun e => by cases e), (fun e => by cases e), (fun e => by cases e)⟩
theorem CMkG.quiet (h : CMkG w0 a b c d y e0 u l cs i j k L G W) {z : Nat} (h1 : z ≠ i) (h3 : z ≠ j) (h5 : z ≠ k) : CMkG w0 a b c d y e0 u l cs i j k (upd L z) G W := by
  have e1 : upd L z i = L i := upd_ne L (by omega)
  have e3 : upd L z j = L j := upd_ne L (by omega)
  have e5 : upd L z k = L k := upd_ne L (by omega)
  obtain ⟨hb, ha, gc, v', xb, s1, s3, s13⟩ := h
  refine ⟨hb, by rw [e5, e3]; exact ha, gc, v', xb, ?_⟩
  rw [e1, e3, e5]
  exact ⟨s1, s3, s13⟩
theorem CMkG.adds (h : CMkG w0 a b c d y e0 u l cs i j k L G W) (hB : Below W.heap.size W W') {z : Nat} (h1 : z ≠ i) (h3 : z ≠ j) (h5 : z ≠ k) (x : Value) : CMkG w0 a b c d y e0 u l cs i j k (upd L z) (upF G z x) W' := by
  have e1 : upd L z i = L i := upd_ne L (by omega)
  have e3 : upd L z j = L j := upd_ne L (by omega)
  have e5 : upd L z k = L k := upd_ne L (by omega)
  obtain ⟨hb, ha, gc, v', xb, s1, s3, s13⟩ := h
  have hs2 := hB.size
  refine ⟨below_then hb hB (Nat.le_refl _), by rw [e5, e3]; exact ha, gc, v', xb, ?_⟩
  rw [e1, e3, e5, upF_ne _ _ (Ne.symm h1), upF_ne _ _ (Ne.symm h3)]
  refine ⟨fun e => ?_, fun e => ?_, s13⟩
  · obtain ⟨t1, t2, t3, t4⟩ := s1 e
    exact ⟨t1, t2.below hB, t3, t4⟩
  · obtain ⟨t1, t2, t3, t4, t5⟩ := s3 e
    exact ⟨t1, t2, by omega, fun e => (t4 e).below hB t3, fun e => (t5 e).below hB t3⟩
theorem CMkG.call (h : CMkG w0 a b c d y e0 u l cs i j k L G W) (hij : i ≠ j) (hik : i ≠ k) {gc : Nat} {v' : Value} (hq : GV W' gc a b c d y e0 u l v') (hg : W.heap.size ≤ gc) (hv : ∀ k, v'.ownBlock = some k → W.heap.size ≤ k) (hB : Below W.heap.size W W') : CMkG w0 a b c d y e0 u l cs i j k (upd L i) (upF G i (.pointer (some ⟨gc, 0, none⟩))) W' := by
  have e3 : upd L i j = L j := upd_ne L (by omega)
  have e5 : upd L i k = L k := upd_ne L (by omega)
  obtain ⟨hb, ha, gc0, v0, xb, s1, s3, s13⟩ := h
  have hs := hb.size
  have hs2 := hB.size
  refine ⟨below_then hb hB (Nat.le_refl _), by rw [e5, e3]; exact ha, gc, v', xb, fun _ => ⟨upF_same _ _ _, hq, by omega, fun k hk => by have := hv k hk; omega⟩, fun e => ?_, fun _ e => ?_⟩
  · rw [e3] at e
    obtain ⟨t1, t2, t3, t4, t5⟩ := s3 e
    rw [e5]
    exact ⟨by rw [upF_ne _ _ (Ne.symm hij)]; exact t1, t2, by omega, fun e => (t4 e).below hB t3, fun e => (t5 e).below hB t3⟩
  · rw [e3] at e
    obtain ⟨t1, t2, t3, t4, t5⟩ := s3 e
    exact ⟨by omega, fun e2 => by have := hv _ e2; omega⟩
theorem CMkG.made (h : CMkG w0 a b c d y e0 u l cs i j k L G W) (hij : i ≠ j) (hjk : j ≠ k) (hL : L j = false) : CMkG w0 a b c d y e0 u l cs i j k (upd L j) (upF G j (.pointer (some ⟨W.heap.size, 0, none⟩))) (W.alloc (.cells #[.int .i64 0, .int .i64 0, .int .i64 0, .int .i64 0, .slice none 0 0, .bool false, .int .i64 0, .int .i64 0] 70)) := by
  have e1 : upd L j i = L i := upd_ne L (by omega)
  have e5 : upd L j k = L k := upd_ne L (by omega)
  obtain ⟨hb, ha, gc, v', xb, s1, s3, s13⟩ := h
  have hs := hb.size
  have h5 : L k = false := by
    cases e : L k
    · rfl
    · have := ha e; rw [hL] at this; cases this
  refine ⟨hb.alloc hs _, (fun _ => upd_at _ _), gc, v', W.heap.size, fun e => ?_, fun _ => ⟨upF_same _ _ _, hs, by simp, fun _ => Blk.new _ _ _, fun e => ?_⟩, fun e _ => ?_⟩
  · rw [e1] at e
    obtain ⟨t1, t2, t3, t4⟩ := s1 e
    exact ⟨by rw [upF_ne _ _ hij]; exact t1, t2.below ((Below.refl _ W).alloc (Nat.le_refl _) _), t3, t4⟩
  · rw [e5, h5] at e; cases e
  · rw [e1] at e
    obtain ⟨t1, t2, t3, t4⟩ := s1 e
    have := t2.blk.lt
    exact ⟨by omega, fun e2 => by have := (t2.own.lt _ e2).2; omega⟩
theorem CMkG.stored (h : CMkG w0 a b c d y e0 u l cs i j k L G W) (hik : i ≠ k) (hjk : j ≠ k) (h3 : L j = true) {xb : Nat} (hG : G j = .pointer (some ⟨xb, 0, none⟩)) (K : Blk W' xb 70 cs) (hB : Below w0.heap.size W W') (hk : ∀ k, k ≠ xb → W'.heap[k]? = W.heap[k]?) (x : Value) : CMkG w0 a b c d y e0 u l cs i j k (upd L k) (upF G k x) W' := by
  have e1 : upd L k i = L i := upd_ne L (by omega)
  have e3 : upd L k j = L j := upd_ne L (by omega)
  obtain ⟨hb, ha, gc, v', xb0, s1, s3, s13⟩ := h
  obtain ⟨t1, t2, t3, t4, t5⟩ := s3 h3
  rw [hG] at t1
  simp only [Value.pointer.injEq, Option.some.injEq, Addr.mk.injEq, and_true] at t1
  subst t1
  refine ⟨hb.trans hB, fun _ => by rw [e3]; exact h3, gc, v', xb, fun e => ?_, fun _ => ⟨by rw [upF_ne _ _ hjk]; exact hG, t2, K.lt, (fun e => by rw [upd_at] at e; cases e), fun _ => K⟩, fun e _ => ?_⟩
  · rw [e1] at e
    obtain ⟨r1, r2, r3, r4⟩ := s1 e
    obtain ⟨n1, n2⟩ := s13 e h3
    exact ⟨by rw [upF_ne _ _ hik]; exact r1, r2.far hk n1 n2, r3, r4⟩
  · rw [e1] at e
    exact s13 e h3
theorem CMkG.xb5 (h : CMkG w0 a b c d y e0 u l cs i j k L G W) (h3 : L j = true) (h5 : L k = false) {xb : Nat} (hG : G j = .pointer (some ⟨xb, 0, none⟩)) : w0.heap.size ≤ xb ∧ Blk W xb 70 #[.int .i64 0, .int .i64 0, .int .i64 0, .int .i64 0, .slice none 0 0, .bool false, .int .i64 0, .int .i64 0] := by
  obtain ⟨gc, v', xb0, s1, s3, s13⟩ := h.st
  obtain ⟨t1, t2, t3, t4, t5⟩ := s3 h3
  rw [hG] at t1
  simp only [Value.pointer.injEq, Option.some.injEq, Addr.mk.injEq, and_true] at t1
  subst t1
  exact ⟨t2, t4 h5⟩
/-- Behind the region. -/
theorem CMkG.done (h : CMkG w0 a b c d y e0 u l cs i j k L G W) (hi : L i = true) (hj : L j = true) (hk : L k = true) {gc xb : Nat} (g1 : G i = .pointer (some ⟨gc, 0, none⟩)) (g3 : G j = .pointer (some ⟨xb, 0, none⟩)) :
    ∃ v', GV W gc a b c d y e0 u l v' ∧ w0.heap.size ≤ gc ∧ (∀ k, v'.ownBlock = some k → w0.heap.size ≤ k) ∧ Blk W xb 70 cs ∧ w0.heap.size ≤ xb ∧ gc ≠ xb ∧ v'.ownBlock ≠ some xb := by
  obtain ⟨gc', v', x', s1', s3', s13'⟩ := h.st
  obtain ⟨t1, q9, hgc, hv9⟩ := s1' hi
  obtain ⟨t3, hx2, _, _, t5⟩ := s3' hj
  obtain ⟨n1, n2⟩ := s13' hi hj
  have K9 := t5 hk
  rw [g1] at t1
  rw [g3] at t3
  simp only [Value.pointer.injEq, Option.some.injEq, Addr.mk.injEq, and_true] at t1 t3
  subst t1 t3
  exact ⟨v', q9, hgc, hv9, K9, hx2, n1, n2⟩
end
end Go.Proofs.Ytonamlgipoannaa
