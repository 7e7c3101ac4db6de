/- A drawn region whose calls and new blocks only add blocks, and yield values of which some facts hold that last: a class for wp_region_free. No condition. -/
import Derived.Test.YtbibgffgljojgaaDoorFree
namespace Go.Proofs.YtbibgffgljojgaaDoor
open Go.RowKit

theorem updL_at (L : Nat → Bool) (q : Nat) : upd L q q = true := by simp [upd]
theorem updL_ne (L : Nat → Bool) {q j : Nat} (h : j ≠ q) : upd L q j = L j := by simp [upd, h]
/-- A fact lasts where blocks are only added. -/
def Lasts (F : Nat → Value → World → Prop) : Prop := ∀ i v W W', F i v W → Below W.heap.size W W' → F i v W'
structure Facts (w0 : World) (F : Nat → Value → World → Prop) (L : Nat → Bool) (G : Nat → Value) (W : World) : Prop where
  below : Below w0.heap.size w0 W
  fact : ∀ i, L i = true → F i (G i) W
theorem Facts.start (w0 : World) (F : Nat → Value → World → Prop) (G : Nat → Value) : Facts w0 F (fun _ => false) G w0.drew := ⟨(Below.refl _ _).drew, (fun _ e => by cases e)⟩
theorem Facts.ne (w0 : World) (F : Nat → Value → World → Prop) : Nonempty (UWF (Facts w0 F)) := ⟨⟨fun _ => false, fun _ => undef, w0.drew, Facts.start w0 F _⟩⟩
theorem Facts.add {w0 W W' : World} {F : Nat → Value → World → Prop} {L : Nat → Bool} {G : Nat → Value} (hF : Lasts F) (h : Facts w0 F L G W) (hb : Below W.heap.size W W') {z : Nat} {u : Value} (hu : F z u W') : Facts w0 F (upd L z) (upF G z u) W' := by
  refine ⟨h.below.trans (hb.mono h.below.size), fun i hi => ?_⟩
  by_cases e : i = z
  · subst e
    rw [upF_same]
    exact hu
  · rw [updL_ne L e] at hi
    rw [upF_ne _ _ e]
    exact hF i _ W W' (h.fact i hi) hb
theorem Facts.quiet {w0 W : World} {F : Nat → Value → World → Prop} {L : Nat → Bool} {G : Nat → Value} (h : Facts w0 F L G W) {z : Nat} (hz : ∀ v V, F z v V) : Facts w0 F (upd L z) G W := by
  refine ⟨h.below, fun i hi => ?_⟩
  by_cases e : i = z
  · subst e
    exact hz _ _
  · rw [updL_ne L e] at hi
    exact h.fact i hi
end Go.Proofs.YtbibgffgljojgaaDoor
