/- How the arguments of this seat's statements are opened: a slice that came in as cells at an address. No condition. -/
import Derived.Test.YtbibgffgljojgaaDoorKit
import Derived.ProofKit
import Derived.OpenShut
import Derived.ShutString
import Derived.ChangeOld
import Derived.Below
import Derived.Deep.Slices
import Derived.Carry
namespace Go.Proofs.YtbibgffgljojgaaDoor
open Go.ChangeShapes Go.WideShapes Go.ChangeAt Go.RowKit Go.Deep

section
variable {H : Type} {enc : TypeId × Value → H} {P : Program} {w : World} {base : Nat} {spare : Nat → Bool} {held : Bool}

theorem sliceOf_open {t e : TypeId} {size : Nat} (ht : P.underlying t = some (.slice e)) (hs : P.cellsOf e = size) (hpos : 0 < size) (Φ : List Value → Prop)
    (hΦ : ∀ n cs x, DataW.trod enc P w base spare held n e cs = some x → Φ cs) {fuel : Nat} {c : Value} {x : DataW H × List MemPlace}
    (h : DataW.trod enc P w base spare held fuel t [c] = some x) :
    ∃ a len cap, c = .slice a len cap ∧ ∃ E : Nat → List Value, SliceOf w a len cap size E ∧ ∀ i, i < len → Φ (E i) := by
  have hlt := DataW.trod_lt fuel _ _ _ h
  rcases open_slice ht h with ⟨hcs, _⟩ | ⟨a, len, cap, m, n, D, Pl, hcs, _, hl, hm, hmm, hx, hi⟩
  · simp only [List.cons.injEq, and_true] at hcs
    exact ⟨none, 0, 0, hcs, fun _ => [], ⟨Nat.le_refl _, Nat.zero_le _, fun h => absurd h (by omega)⟩, fun i hi => absurd hi (by omega)⟩
  · simp only [List.cons.injEq, and_true] at hcs
    have hlm : len ≤ m := by rw [hmm]; split <;> omega
    have hc : ∀ i, i < len → ∃ cs', (w.cells? base (a.add (i * size)) size = some cs') ∧ Φ cs' := fun i h' => by
      obtain ⟨cs', h1, h2⟩ := hi i (by omega)
      rw [hs] at h1
      exact ⟨cs', h1, hΦ _ _ _ h2⟩
    obtain ⟨E, hE⟩ := choose_lt hc
    refine ⟨some a, len, cap, hcs, E, ⟨hl, hm, fun hp => ?_⟩, fun i h' => (hE i h').2⟩
    obtain ⟨_, hlen0, hat0⟩ := World.cells?_some (hE 0 hp).1
    have c0 := hat0 0 hpos
    simp only [Nat.zero_mul] at c0
    have e0 : (a.add 0).add 0 = a := by simp [Addr.add]
    rw [e0] at c0
    have hsp : a.spot = none := by
      rw [List.getElem?_eq_getElem (by omega)] at c0
      exact World.cell?_spot c0
    obtain ⟨b, off, sp⟩ := a
    simp only at hsp
    subst hsp
    refine ⟨b, off, rfl, ?_, fun i h' j v hv => ?_⟩
    · have hp : 0 < m * P.cellsOf e := by rw [hs]; exact Nat.mul_pos (by omega) hpos
      have : (⟨b, off, none⟩ : Addr).block < w.heap.size := by
        have hmem : MemPlace.cell b off ∈ x.2 := by
          rw [hx]
          refine List.mem_append_left _ ?_
          unfold MemPlace.row
          simp only [List.mem_map, List.mem_range]
          exact ⟨0, hp, by simp⟩
        exact hlt _ hmem
      exact this
    · obtain ⟨_, hlen, hat⟩ := World.cells?_some (hE i h').1
      have hj : j < size := by
        have := (List.getElem?_eq_some_iff.1 hv).1
        omega
      have := hat j hj
      rw [hv, Go.Deep.add_add] at this
      have ea : (⟨b, off, none⟩ : Addr).add (i * size + j) = ⟨b, off + i * size + j, none⟩ := by
        unfold Addr.add
        split
        · rename_i h0
          have : i * size = 0 ∧ j = 0 := by omega
          simp [this.1, this.2]
        · simp [Nat.add_assoc]
      rw [ea] at this
      exact this

theorem one_of_len {l : List Value} {n : Nat} (h : l.length = 1) : ∃ a, l = [a] := by
  match l, h with
  | [a], _ => exact ⟨a, rfl⟩
end
end Go.Proofs.YtbibgffgljojgaaDoor
