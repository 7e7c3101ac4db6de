/- A drawn region whose world-changing operations come one behind the other, the last of which changes cells that loads read ahead of it: a class for wp_region_free. No condition. -/
import Derived.Test.YtbibgffgljojgaaDoorPhase
namespace Go.Proofs.YtbibgffgljojgaaDoor
open Go.RowKit

structure PhR (ms rd : List Nat) (last : Nat) (St : Nat → (Nat → Value) → World → Prop) (L : Nat → Bool) (G : Nat → Value) (W : World) : Prop where
  ph : Phase ms St L G W
  anc : L last = true → ∀ r ∈ rd, L r = true
section
variable {ms rd : List Nat} {last : Nat} {St : Nat → (Nat → Value) → World → Prop} {L : Nat → Bool} {G : Nat → Value} {W W' : World}
theorem PhR.start (h : St 0 G W) : PhR ms rd last St (fun _ => false) G W := ⟨Phase.start h, (fun e => by cases e)⟩
theorem PhR.ne (h : St 0 G W) : Nonempty (UWF (PhR ms rd last St)) := ⟨⟨_, _, _, PhR.start h⟩⟩
theorem PhR.quiet (h : PhR ms rd last St L G W) {z : Nat} (h1 : z ∉ rd) (h2 : z ∉ ms) (hl : last ∈ ms) : PhR ms rd last St (upd L z) G W := by
  refine ⟨h.ph.quiet (fun i e => h2 (List.mem_of_getElem? e)), fun e r hr => ?_⟩
  rw [updL_ne L (fun e2 => h2 (by rw [← e2]; exact hl))] at e
  rw [updL_ne L (fun e2 => h1 (by rw [← e2]; exact hr))]
  exact h.anc e r hr
theorem PhR.load (h : PhR ms rd last St L G W) (j : Nat) (hj : ms[j]? = some last) {z : Nat} (hz : z ∈ rd) (hzm : z ∉ ms) (hL : L z = false) (hSt : ∀ k G W u, St k G W → St k (upF G z u) W) :
    (∃ k, k ≤ j ∧ St k G W) ∧ ∀ u, PhR ms rd last St (upd L z) (upF G z u) W := by
  obtain ⟨⟨k, h1, h2⟩, h3⟩ := h
  have hlast : L last = false := by
    cases e : L last
    · rfl
    · rw [h3 e z hz] at hL; cases hL
  have hk : ¬ j < k := fun e => by
    have := (h1 j last hj).2 e
    rw [hlast] at this; cases this
  have hzl : last ≠ z := fun e => hzm (by rw [← e]; exact List.mem_of_getElem? hj)
  refine ⟨⟨k, by omega, h2⟩, fun u => ⟨⟨k, fun i m hm => ?_, hSt k G W u h2⟩, fun e => ?_⟩⟩
  · rw [updL_ne L (fun e => hzm (by rw [← e]; exact List.mem_of_getElem? hm))]
    exact h1 i m hm
  · rw [updL_ne L hzl, hlast] at e
    cases e
theorem PhR.next (h : PhR ms rd last St L G W) (hnd : ms.Nodup) (j m : Nat) (hm : ms[j]? = some m) (hL : L m = false) (hp : ∀ m', 0 < j → ms[j - 1]? = some m' → L m' = true) (hmr : m ∉ rd) (hlast : m = last → ∀ r ∈ rd, L r = true)
    {u : Value} (hs : St (j + 1) (upF G m u) W') : PhR ms rd last St (upd L m) (upF G m u) W' := by
  refine ⟨h.ph.next hnd j m hm hL hp hs, fun e r hr => ?_⟩
  rw [updL_ne L (fun e2 => hmr (by rw [← e2]; exact hr))]
  by_cases hml : m = last
  · exact hlast hml r hr
  · rw [updL_ne L (fun e2 => hml e2.symm)] at e
    exact h.anc e r hr
end
end Go.Proofs.YtbibgffgljojgaaDoor
