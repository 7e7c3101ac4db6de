/- While a call that moves something at a block and the result's store are drawn: a class for wp_region_free. No condition. -/
import Derived.Test.YtonamlgipoannaaGaps11
import Derived.Test.YtonamlgipoannaaFacts
namespace Go.Proofs.Ytonamlgipoannaa
open Go.RowKit

/-- A call (operation i) that moves what stands at block g, its row v, and a store (operation j) to block r. -/
structure CMov (w0 : World) (g r : Nat) (v : Value) (Q0 : World → Prop) (Q1 : Value → World → Prop) (rt : TypeId) (zs cs : Array Value) (i j : Nat) (L : Nat → Bool) (G : Nat → Value) (W : World) : Prop where
  size : w0.heap.size ≤ W.heap.size
  below : Below 0 w0 W
  keep : ∀ k, k < w0.heap.size → k ≠ g → v.ownBlock ≠ some k → k ≠ r → W.heap[k]? = w0.heap[k]?
  q0 : L i = false → Q0 W
  q1 : L i = true → ∃ v', Q1 v' W ∧ ∀ k, v'.ownBlock = some k → v.ownBlock = some k ∨ w0.heap.size ≤ k
  r0 : L j = false → Blk W r rt zs
  r1 : L j = true → Blk W r rt cs
section
variable {w0 W W' : World} {g r i j : Nat} {v v' : Value} {Q0 : World → Prop} {Q1 : Value → World → Prop} {rt : TypeId} {zs cs : Array Value} {L : Nat → Bool} {G : Nat → Value}
theorem CMov.start (h : Q0 w0.drew) (K : Blk w0 r rt zs) (G : Nat → Value) : CMov w0 g r v Q0 Q1 rt zs cs i j (fun _ => false) G w0.drew :=
  ⟨Nat.le_refl _, (Below.refl _ _).drew, fun _ _ _ _ _ => rfl, fun _ => h, (fun e => by cases e), fun _ => K.drew, (fun e => by cases e)⟩
theorem CMov.quiet (h : CMov w0 g r v Q0 Q1 rt zs cs i j L G W) {z : Nat} (hi : z ≠ i) (hj : z ≠ j) : CMov w0 g r v Q0 Q1 rt zs cs i j (upd L z) G W := by
  refine ⟨h.size, h.below, h.keep, fun e => h.q0 ?_, fun e => h.q1 ?_, fun e => h.r0 ?_, fun e => h.r1 ?_⟩
  · rw [updL_ne L (Ne.symm hi)] at e; exact e
  · rw [updL_ne L (Ne.symm hi)] at e; exact e
  · rw [updL_ne L (Ne.symm hj)] at e; exact e
  · rw [updL_ne L (Ne.symm hj)] at e; exact e
/-- An operation that only adds blocks. -/
theorem CMov.adds (h : CMov w0 g r v Q0 Q1 rt zs cs i j L G W) (hB : Below W.heap.size W W') (hr : r < w0.heap.size) (h0 : ∀ W W', Q0 W → Below W.heap.size W W' → Q0 W') (h1 : ∀ v' W W', Q1 v' W → Below W.heap.size W W' → Q1 v' W') {z : Nat} (hi : z ≠ i) (hj : z ≠ j) (u : Value) : CMov w0 g r v Q0 Q1 rt zs cs i j (upd L z) (upF G z u) W' := by
  have s := h.size
  refine ⟨Nat.le_trans s hB.size, h.below.trans (hB.mono (Nat.zero_le _)), fun k e1 e2 e3 e4 => (hB.block k (by omega)).trans (h.keep k e1 e2 e3 e4), fun e => h0 _ _ (h.q0 ?_) hB, fun e => ?_, fun e => (h.r0 ?_).below hB (by omega), fun e => (h.r1 ?_).below hB (by omega)⟩
  · rw [updL_ne L (Ne.symm hi)] at e; exact e
  · rw [updL_ne L (Ne.symm hi)] at e
    obtain ⟨v', q, hr'⟩ := h.q1 e
    exact ⟨v', h1 _ _ _ q hB, hr'⟩
  · rw [updL_ne L (Ne.symm hj)] at e; exact e
  · rw [updL_ne L (Ne.symm hj)] at e; exact e
theorem CMov.call (h : CMov w0 g r v Q0 Q1 rt zs cs i j L G W) (hij : i ≠ j) (hr : r < w0.heap.size) (hrg : r ≠ g) (hvr : v.ownBlock ≠ some r) (q' : Q1 v' W') (M : Moved W W' g v v') (u : Value) : CMov w0 g r v Q0 Q1 rt zs cs i j (upd L i) (upF G i u) W' := by
  have sW := h.size
  refine ⟨Nat.le_trans sW M.below.size, h.below.trans M.below, fun k h1 h2 h3 h4 => (M.keep k (by omega) h2 h3).trans (h.keep k h1 h2 h3 h4), (fun e => by rw [updL_at] at e; cases e), fun _ => ⟨v', q', fun k hk => ?_⟩, fun e => ?_, fun e => ?_⟩
  · rcases M.row k hk with h1 | h1
    · exact .inl h1
    · right; omega
  · rw [updL_ne L (Ne.symm hij)] at e
    exact (M.keep r (by omega) hrg hvr).trans (h.r0 e)
  · rw [updL_ne L (Ne.symm hij)] at e
    exact (M.keep r (by omega) hrg hvr).trans (h.r1 e)
theorem CMov.store (h : CMov w0 g r v Q0 Q1 rt zs cs i j L G W) (hij : i ≠ j) (hr : r < w0.heap.size) (hvr : v.ownBlock ≠ some r) (h0 : ∀ W W', Q0 W → (∀ k, k ≠ r → W'.heap[k]? = W.heap[k]?) → Q0 W') (h1 : ∀ v' W W', Q1 v' W → v'.ownBlock ≠ some r → (∀ k, k ≠ r → W'.heap[k]? = W.heap[k]?) → Q1 v' W')
    (K : Blk W' r rt cs) (hB : Below 0 W W') (hk : ∀ k, k ≠ r → W'.heap[k]? = W.heap[k]?) (u : Value) : CMov w0 g r v Q0 Q1 rt zs cs i j (upd L j) (upF G j u) W' := by
  refine ⟨Nat.le_trans h.size hB.size, h.below.trans hB, fun k e1 e2 e3 e4 => (hk k e4).trans (h.keep k e1 e2 e3 e4), fun e => ?_, fun e => ?_, (fun e => by rw [updL_at] at e; cases e), fun _ => K⟩
  · rw [updL_ne L hij] at e
    exact h0 _ _ (h.q0 e) hk
  · rw [updL_ne L hij] at e
    obtain ⟨v', q', hr'⟩ := h.q1 e
    refine ⟨v', h1 _ _ _ q' (fun e2 => ?_) hk, hr'⟩
    rcases hr' _ e2 with e3 | e3
    · exact hvr e3
    · omega
end
theorem GV.far {w w' : World} {g z : Nat} {a b c d : Int} {y : Bool} {e u : Int} {l : List WR} {v : Value} (h : GV w g a b c d y e u l v) (hk : ∀ k, k ≠ z → w'.heap[k]? = w.heap[k]?) (hg : g ≠ z) (hv : v.ownBlock ≠ some z) : GV w' g a b c d y e u l v :=
  h.at_ (hk g hg) (fun j hj => hk j (fun e => hv (by rw [hj, e])))
end Go.Proofs.Ytonamlgipoannaa
