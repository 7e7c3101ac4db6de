/- Small lemmas that several packages share: a row that the call owns, rows of cells as functions, maps beside rows. No condition. -/
import Derived.Test.YtbibgffgljojgaaDoorRegion
import Derived.Maps.OwnSet
import Derived.WalkSpells
import Derived.Deep.AppendLies
import Derived.Deep.DeepCutAuto
namespace Go.Proofs.YtbibgffgljojgaaDoor
open Go.RowKit Go.Maps
attribute [local go_sem ↓] Go.wp_at_zero Go.wp_at_succ

/-- The call hands back a row of its own: n elements, of one cell each, holding xs. -/
def OwnsRes (w : World) (E : TypeId) (n : Nat) (xs : List Value) (e : Ending) (w' : World) : Prop :=
  ∃ v, e = .returned v ∧ w'.ownsRow w.heap.size E 1 v n xs ∧ Below w.heap.size w w'
theorem own_open {w : World} {B e n : Nat} {v : Value} {xs : List Value} (h : w.ownsRow B e 1 v n xs) :
    ∃ a cap, v = .slice a n cap ∧ (0 < n → ∃ g, a = some ⟨g, 0, none⟩ ∧ B ≤ g ∧ g < w.heap.size ∧ ∀ w' : World, w'.heap[g]? = w.heap[g]? → ∀ i x, xs[i]? = some x → w'.cell? ⟨g, i, none⟩ = some x) := by
  have hlen := h.1
  rcases h.2 with ⟨rfl, rfl⟩ | ⟨g, cap, cur, rfl, hb, hg, hn, hm, hs, hx⟩
  · exact ⟨none, 0, rfl, fun h => absurd h (by omega)⟩
  · refine ⟨_, cap, rfl, fun hp => ⟨g, rfl, hb, ?_, fun w' hw i x hi => ?_⟩⟩
    · rcases Nat.lt_or_ge g w.heap.size with hlt | hge
      · exact hlt
      · rw [Array.getElem?_eq_none hge] at hg; cases hg
    · have hi' : i < n := by
        have := (List.getElem?_eq_some_iff.1 hi).1
        omega
      have := World.ownsRow.cellAt h i (by omega)
      rw [hi] at this
      have e : w'.cell? ⟨g, i, none⟩ = w.cell? ⟨g, i, none⟩ := by simp [World.cell?, hw]
      rw [e]
      exact this
theorem own_keep {w w' : World} {B B' e n : Nat} {v : Value} {xs : List Value} (h : w.ownsRow B e 1 v n xs) (hb : Below w.heap.size w w') (hB : B' ≤ B) : w'.ownsRow B' e 1 v n xs := by
  refine ⟨h.1, ?_⟩
  rcases h.2 with hn | ⟨g, cap, cur, rfl, hbg, hg, r⟩
  · exact .inl hn
  · have hlt : g < w.heap.size := by
      rcases Nat.lt_or_ge g w.heap.size with hlt | hge
      · exact hlt
      · rw [Array.getElem?_eq_none hge] at hg; cases hg
    exact .inr ⟨g, cap, cur, rfl, Nat.le_trans hB hbg, (hb.block g hlt).trans hg, r⟩
theorem own_ne_map {w : World} {B e n mb : Nat} {v : Value} {xs : List Value} {es : Array MapEntry} {cl : Nat} (h : w.ownsRow B e 1 v n xs) (hm : w.heap[mb]? = some (.map es cl)) : v.ownBlock ≠ some mb := by
  rcases h.2 with ⟨rfl, _⟩ | ⟨g, cap, cur, rfl, _, hg, _⟩
  · simp [Value.ownBlock]
  · intro he
    simp only [Value.ownBlock, Option.some.injEq] at he
    subst he
    rw [hg] at hm
    cases hm
theorem ownsMap_block {H : Type} {w : World} {P : Program} {k : TypeId} {R : Value → Option (DataW H × List MemPlace)} {b n : Nat} {D : DataW H} (h : w.ownsMap P k R b n D) : ∃ es cl, w.heap[b]? = some (.map es cl) := by
  obtain ⟨es, cl, hb, _⟩ := h
  exact ⟨es, cl, hb⟩
theorem ownsMap_below {H : Type} {w w' : World} {P : Program} {k : TypeId} {R : Value → Option (DataW H × List MemPlace)} {b n : Nat} {D : DataW H} (h : w.ownsMap P k R b n D) (hb : Below w.heap.size w w') : w'.ownsMap P k R b n D := by
  have hlt := h.lt
  obtain ⟨es, clock, hg, F, hs⟩ := h
  exact ⟨es, clock, (hb.block b hlt).trans hg, F, hs⟩
theorem ret_slice {a b : Value} (h : a = b) : Ending.returned a = .returned b := by rw [h]

def updN {α : Type} (h : Nat → α) (k : Nat) (x : α) : Nat → α := fun i => if i = k then x else h i
theorem upd_same {α : Type} (h : Nat → α) (k : Nat) (x : α) (hk : h k = x) : updN h k x = h := by
  funext j
  unfold updN
  split
  · rename_i e
    rw [e, hk]
  · rfl
theorem updN_map {α β : Type} (f : Nat → α) (k : Nat) (x : α) (F : α → β) : updN (fun i => F (f i)) k (F x) = fun i => F (updN f k x i) := by
  funext i
  unfold updN
  split <;> rfl
def rowV (n : Nat) (f : Nat → Value) : Array Value := ((List.range n).map f).toArray
theorem rowV_size (n : Nat) (f : Nat → Value) : (rowV n f).size = n := by simp [rowV]
theorem rowV_get (n : Nat) (f : Nat → Value) (i : Nat) (h : i < n) : (rowV n f)[i]? = some (f i) := by simp [rowV, h]
theorem rowV_set (n : Nat) (f : Nat → Value) (i : Nat) (x : Value) : (rowV n f).setIfInBounds i x = rowV n (updN f i x) := by
  apply Array.ext_getElem?
  intro j
  rw [Array.getElem?_setIfInBounds, rowV_size]
  by_cases hj : j < n
  · rw [rowV_get _ _ _ hj, rowV_get _ _ _ hj]
    by_cases e : i = j
    · subst e; simp [updN, hj]
    · have e' : ¬ j = i := fun h => e h.symm
      simp [e, updN, e']
  · have h1 : (rowV n f)[j]? = none := Array.getElem?_eq_none (by rw [rowV_size]; omega)
    have h2 : ∀ g, (rowV n g)[j]? = none := fun g => Array.getElem?_eq_none (by rw [rowV_size]; omega)
    rw [h1, h2]
    by_cases e : i = j
    · subst e; simp [hj]
    · simp [e]
/-- Integers as cells. -/
def cellsK (k : IntKind) (l : List Int) : List Value := l.map fun x => Value.int k x
theorem cellsK_snoc (k : IntKind) (l : List Int) (x : Int) : cellsK k (l ++ [x]) = cellsK k l ++ [.int k x] := by simp [cellsK]
theorem cellsK_get (k : IntKind) (l : List Int) (i : Nat) (h : i < l.length) : (cellsK k l)[i]? = some (.int k (l.getD i 0)) := by
  unfold cellsK
  simp [List.getD, h]
theorem cellsK_some (k : IntKind) (l : List Int) (i : Nat) (x : Int) (h : l[i]? = some x) : (cellsK k l)[i]? = some (.int k x) := by
  unfold cellsK
  simp [h]
theorem SliceOf.of_cells {w : World} {B e : Nat} {v : Value} {k : IntKind} {l : List Int} (h : w.ownsRow B e 1 v l.length (cellsK k l)) :
    ∃ a c, v = .slice a l.length c ∧ SliceOf w a l.length c 1 (fun i => [.int k (l.getD i 0)]) :=
  SliceOf.of_own h (fun i => .int k (l.getD i 0)) (fun i hi => cellsK_get k l i hi)
end Go.Proofs.YtbibgffgljojgaaDoor
