/- Package subflow: a line, read. No condition but that the reader stands. -/
import Derived.Test.YtolgdcchnmbmnaaSub2
import Derived.Test.YtolgdcchnmbmnaaPenB
namespace Go.Proofs.Ytolgdcchnmbmnaa
open Go.RowKit BigFrame
attribute [local go_sem ↓] Go.wp_at_zero Go.wp_at_succ

def sgn24 (x : Int) : Int := if 8388608 ≤ x then x - 16777216 else x
/-- A part of its bytes. -/
def decL (l : List Int) : LnR := ⟨l.getD 0 0, l.getD 1 0, sgn24 (n3 (l.drop 4)), n4 (l.drop 8), n4 (l.drop 12), n4 (l.drop 16), n4 (l.drop 20), n4 (l.drop 24)⟩
def decA (l : List Int) : AdR := ⟨l.getD 0 0, decide (l.getD 1 0 = 1), n2 (l.drop 2)⟩
theorem eight_setS {w : World} {g : Nat} {t : TypeId} {y0 y1 y2 y3 y4 y5 y6 y7 : Value} (h : Blk w g t #[y0, y1, y2, y3, y4, y5, y6, y7]) (x0 x1 x2 x3 x4 x5 x6 x7 : Value) (B : Nat) (hB : B ≤ g) :
    ∃ w2, (((((((w.setCell ⟨g, 0, none⟩ x0).setCell ⟨g, 1, none⟩ x1).setCell ⟨g, 2, none⟩ x2).setCell ⟨g, 3, none⟩ x3).setCell ⟨g, 4, none⟩ x4).setCell ⟨g, 5, none⟩ x5).setCell ⟨g, 6, none⟩ x6).setCell ⟨g, 7, none⟩ x7 = w2 ∧ Blk w2 g t #[x0, x1, x2, x3, x4, x5, x6, x7] ∧ Below B w w2 ∧ (∀ k, k ≠ g → w2.heap[k]? = w.heap[k]?) := by
  have k0 := h.set_ 0 x0; simp at k0
  have k1 := k0.set_ 1 x1; simp at k1
  have k2 := k1.set_ 2 x2; simp at k2
  have k3 := k2.set_ 3 x3; simp at k3
  have k4 := k3.set_ 4 x4; simp at k4
  have k5 := k4.set_ 5 x5; simp at k5
  have k6 := k5.set_ 6 x6; simp at k6
  have k7 := k6.set_ 7 x7; simp at k7
  exact ⟨_, rfl, k7, ((((((((Below.refl _ _).setCell hB _).setCell hB _).setCell hB _).setCell hB _).setCell hB _).setCell hB _).setCell hB _).setCell hB _, fun k hk => by rw [Below.heap_setCell _ _ _ _ hk, Below.heap_setCell _ _ _ _ hk, Below.heap_setCell _ _ _ _ hk, Below.heap_setCell _ _ _ _ hk, Below.heap_setCell _ _ _ _ hk, Below.heap_setCell _ _ _ _ hk, Below.heap_setCell _ _ _ _ hk, Below.heap_setCell _ _ _ _ hk]⟩
theorem OldBut.new_ {w w6 w7 : World} {g ga : Nat} (h : OldBut w w6 g) (hk : ∀ k, k ≠ ga → w7.heap[k]? = w6.heap[k]?) (hg : w.heap.size ≤ ga) (hB : Below 0 w6 w7) : OldBut w w7 g :=
  ⟨h.below.trans hB, fun k h1 h2 => (hk k (by omega)).trans (h.keep k h1 h2)⟩
theorem Blk.tail5_ {w : World} {g : Nat} {t : TypeId} {y0 y1 y2 y3 y4 y5 y6 y7 : Value} (h : Blk w g t #[y0, y1, y2, y3, y4, y5, y6, y7]) (x3 x4 x5 x6 x7 : Value) (B : Nat) (hB : B ≤ g) :
    ∃ w2, ((((w.setCell ⟨g, 3, none⟩ x3).setCell ⟨g, 4, none⟩ x4).setCell ⟨g, 5, none⟩ x5).setCell ⟨g, 6, none⟩ x6).setCell ⟨g, 7, none⟩ x7 = w2 ∧ Blk w2 g t #[y0, y1, y2, x3, x4, x5, x6, x7] ∧ Below B w w2 ∧ (∀ k, k ≠ g → w2.heap[k]? = w.heap[k]?) := by
  have k3 := h.set_ 3 x3; simp at k3
  have k4 := k3.set_ 4 x4; simp at k4
  have k5 := k4.set_ 5 x5; simp at k5
  have k6 := k5.set_ 6 x6; simp at k6
  have k7 := k6.set_ 7 x7; simp at k7
  exact ⟨_, rfl, k7, (((((Below.refl _ _).setCell hB _).setCell hB _).setCell hB _).setCell hB _).setCell hB _, fun k hk => by rw [Below.heap_setCell _ _ _ _ hk, Below.heap_setCell _ _ _ _ hk, Below.heap_setCell _ _ _ _ hk, Below.heap_setCell _ _ _ _ hk, Below.heap_setCell _ _ _ _ hk]⟩
def zLnA : Array Value := #[.int .i64 0, .int .i64 0, .int .i64 0, .int .u32 0, .int .u32 0, .int .u32 0, .int .u32 0, .int .u32 0]
end Go.Proofs.Ytolgdcchnmbmnaa
