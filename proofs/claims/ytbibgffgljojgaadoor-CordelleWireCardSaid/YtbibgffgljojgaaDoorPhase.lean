/- A drawn region whose world-changing operations come one behind the other whatever is drawn: a class for wp_region_free. No condition. -/
import Derived.Test.YtbibgffgljojgaaDoorFacts
namespace Go.Proofs.YtbibgffgljojgaaDoor
open Go.RowKit

/-- The operations ms have come up to some place, and what then holds. -/
def Phase (ms : List Nat) (St : Nat → (Nat → Value) → World → Prop) (L : Nat → Bool) (G : Nat → Value) (W : World) : Prop :=
  ∃ k : Nat, (∀ (i m : Nat), ms[i]? = some m → (L m = true ↔ i < k)) ∧ St k G W
theorem Phase.start {ms : List Nat} {St : Nat → (Nat → Value) → World → Prop} {G : Nat → Value} {W : World} (h : St 0 G W) : Phase ms St (fun _ => false) G W :=
  ⟨0, fun i m _ => ⟨fun e => by simp at e, fun e => absurd e (by omega)⟩, h⟩
theorem Phase.ne {ms : List Nat} {St : Nat → (Nat → Value) → World → Prop} {G : Nat → Value} {W : World} (h : St 0 G W) : Nonempty (UWF (Phase ms St)) := ⟨⟨_, _, _, Phase.start h⟩⟩
theorem Phase.quiet {ms : List Nat} {St : Nat → (Nat → Value) → World → Prop} {L : Nat → Bool} {G : Nat → Value} {W : World} (h : Phase ms St L G W) {z : Nat} (hz : ∀ i : Nat, ms[i]? ≠ some z) : Phase ms St (upd L z) G W := by
  obtain ⟨k, h1, h2⟩ := h
  refine ⟨k, fun i m hm => ?_, h2⟩
  rw [updL_ne L (fun e => hz i (by rw [hm, e]))]
  exact h1 i m hm
/-- Before operation j of the row: those ahead of it have come. -/
theorem Phase.at {ms : List Nat} {St : Nat → (Nat → Value) → World → Prop} {L : Nat → Bool} {G : Nat → Value} {W : World} (h : Phase ms St L G W) (j m : Nat) (hm : ms[j]? = some m) (hL : L m = false) (hp : ∀ m', 0 < j → ms[j - 1]? = some m' → L m' = true) :
    St j G W := by
  obtain ⟨k, h1, h2⟩ := h
  have e1 : ¬ j < k := fun e => by
    have := (h1 j m hm).2 e
    rw [hL] at this
    cases this
  rcases Nat.eq_zero_or_pos j with h0 | h0
  · subst h0
    have : k = 0 := by omega
    rw [this] at h2
    exact h2
  · have hj := (List.getElem?_eq_some_iff.1 hm).1
    have e2 := (h1 (j - 1) _ (List.getElem?_eq_getElem (by omega))).1 (hp _ h0 (List.getElem?_eq_getElem (by omega)))
    have : k = j := by omega
    rw [this] at h2
    exact h2
theorem Phase.next {ms : List Nat} {St : Nat → (Nat → Value) → World → Prop} {L : Nat → Bool} {G : Nat → Value} {W W' : World} (h : Phase ms St L G W) (hnd : ms.Nodup) (j m : Nat) (hm : ms[j]? = some m) (hL : L m = false) (hp : ∀ m', 0 < j → ms[j - 1]? = some m' → L m' = true)
    {u : Value} (hs : St (j + 1) (upF G m u) W') : Phase ms St (upd L m) (upF G m u) W' := by
  obtain ⟨k, h1, h2⟩ := h
  have hj := (List.getElem?_eq_some_iff.1 hm).1
  have e1 : ¬ j < k := fun e => by
    have := (h1 j m hm).2 e
    rw [hL] at this
    cases this
  have hk : k = j := by
    rcases Nat.eq_zero_or_pos j with h0 | h0
    · omega
    · have e2 := (h1 (j - 1) _ (List.getElem?_eq_getElem (by omega))).1 (hp _ h0 (List.getElem?_eq_getElem (by omega)))
      omega
  subst hk
  refine ⟨k + 1, fun i m' hm' => ?_, hs⟩
  by_cases e : m' = m
  · subst e
    have hi := (List.getElem?_eq_some_iff.1 hm').1
    have : i = k := by
      have g1 := (List.getElem?_eq_some_iff.1 hm').2
      have g2 := (List.getElem?_eq_some_iff.1 hm).2
      exact (List.getElem_inj (h₀ := hi) (h₁ := hj) hnd).1 (g1.trans g2.symm)
    rw [updL_at]
    constructor
    · intro _; omega
    · intro _; rfl
  · rw [updL_ne L e, h1 i m' hm']
    constructor
    · intro h; omega
    · intro h
      rcases Nat.lt_or_ge i k with h3 | h3
      · exact h3
      · have : i = k := by omega
        subst this
        rw [hm] at hm'
        injection hm' with hm'
        exact absurd hm'.symm e
theorem Phase.all {ms : List Nat} {St : Nat → (Nat → Value) → World → Prop} {L : Nat → Bool} {G : Nat → Value} {W : World} (h : Phase ms St L G W) (hL : ∀ m ∈ ms, L m = true) (hle : ∀ k G W, St k G W → k ≤ ms.length) : St ms.length G W := by
  obtain ⟨k, h1, h2⟩ := h
  have := hle k G W h2
  rcases Nat.lt_or_ge k ms.length with h3 | h3
  · have := (h1 k _ (List.getElem?_eq_getElem h3)).1 (hL _ (List.getElem_mem h3))
    omega
  · have : k = ms.length := by omega
    rw [this] at h2
    exact h2
/-- An append as an operation of a value of its own, by its run. -/
theorem MovesTo.append_ {P : Program} {o : Oper} {a : Act} {w w' : World} {R : Value → World → Prop} {s x : Operand} {t : TypeId} {v u r : Value} (ho : o.op = .call { callee := .builtin .append, args := #[s, x], argTypes := #[t, t] })
    (hs : a.eval s = v) (hx : a.eval x = u) (hrun : (Builtin.append_ #[t, t] o.type #[v, u]).run P w = .ok r w') (h : R r w') : MovesTo P o a w R := by
  refine ⟨?_⟩
  unfold execOp
  simp only [ho, resolve, invoke, builtin, Sem.run_bind, Sem.run_pure, Result.andThen_ok, List.map_toArray, List.map_cons, List.map_nil, hs, hx, hrun]
  exact h
end Go.Proofs.YtbibgffgljojgaaDoor
