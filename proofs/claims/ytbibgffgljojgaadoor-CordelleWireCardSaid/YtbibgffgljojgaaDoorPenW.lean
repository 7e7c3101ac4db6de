/- While numbers are written in a chain of calls, their literals made in any order: a class for wp_region_free. No condition. -/
import Derived.Test.YtbibgffgljojgaaDoorPenX
import Derived.Test.YtbibgffgljojgaaDoorPhase
namespace Go.Proofs.YtbibgffgljojgaaDoor
open Go.RowKit BigFrame

/-- The calls ms of a chain, St what stands in the writer behind some of them; the literals la. -/
structure PenW (w0 : World) (g : Nat) (v : Value) (St : Nat → List Int) (ms : List Nat) (la : List (Nat × TypeId × List Value)) (L : Nat → Bool) (G : Nat → Value) (W : World) : Prop where
  ph : ∃ (k : Nat) (v' : Value), (∀ (i m : Nat), ms[i]? = some m → (L m = true ↔ i < k)) ∧ k ≤ ms.length ∧ OutAt W g (St k) v' ∧ MovedP w0 W g v v'
  lit : ∀ a ∈ la, L a.1 = true → ∃ x, G a.1 = .slice (some ⟨x, 0, none⟩) a.2.2.length a.2.2.length ∧ Blk W x a.2.1 a.2.2.toArray
section
variable {w0 W W' : World} {g : Nat} {v : Value} {St : Nat → List Int} {ms : List Nat} {la : List (Nat × TypeId × List Value)} {L : Nat → Bool} {G : Nat → Value}
theorem PenW.start (h : OutAt w0 g (St 0) v) (G : Nat → Value) : PenW w0 g v St ms la (fun _ => false) G w0.drew :=
  ⟨⟨0, v, fun i m _ => ⟨fun e => by simp at e, fun e => absurd e (by omega)⟩, Nat.zero_le _, h.below (Below.refl _ _).drew, MovedP.of_below (Below.refl _ _).drew⟩, fun a _ e => by simp at e⟩
theorem PenW.ne (h : OutAt w0 g (St 0) v) : Nonempty (UWF (PenW w0 g v St ms la)) := ⟨⟨_, fun _ => undef, _, PenW.start h _⟩⟩
theorem PenW.quiet (h : PenW w0 g v St ms la L G W) {z : Nat} (hz : z ∉ ms) (hz2 : ∀ a ∈ la, a.1 ≠ z) : PenW w0 g v St ms la (upd L z) G W := by
  obtain ⟨⟨k, v', h1, h2, h3, h4⟩, h5⟩ := h
  refine ⟨⟨k, v', fun i m hm => ?_, h2, h3, h4⟩, fun a ha e => ?_⟩
  · rw [updL_ne L (show m ≠ z from fun e => hz (by rw [← e]; exact List.mem_of_getElem? hm))]
    exact h1 i m hm
  · rw [updL_ne L (hz2 a ha)] at e
    exact h5 a ha e
/-- A literal is made. -/
theorem PenW.made (h : PenW w0 g v St ms la L G W) {m n : Nat} {t : TypeId} {cs : List Value} (hm : m ∉ ms) (ha : (m, t, cs) ∈ la) (hu : ∀ a ∈ la, a.1 = m → a = (m, t, cs)) (hn : cs.length = n) : PenW w0 g v St ms la (upd L m) (upF G m (.slice (some ⟨W.heap.size, 0, none⟩) n n)) (W.alloc (.cells cs.toArray t)) := by
  obtain ⟨⟨k, v', h1, h2, h3, h4⟩, h5⟩ := h
  have hB : Below W.heap.size W (W.alloc (.cells cs.toArray t)) := (Below.refl _ _).alloc (Nat.le_refl _) _
  refine ⟨⟨k, v', fun i m' hm' => ?_, h2, h3.below hB, h4.trans (MovedP.of_below hB)⟩, fun a ha2 e => ?_⟩
  · rw [updL_ne L (show m' ≠ m from fun e => hm (by rw [← e]; exact List.mem_of_getElem? hm'))]
    exact h1 i m' hm'
  · by_cases e2 : a.1 = m
    · have := hu a ha2 e2
      subst this
      exact ⟨_, by rw [upF_same, hn], Blk.new _ _ _⟩
    · rw [updL_ne L e2] at e
      rw [upF_ne _ _ e2]
      obtain ⟨x, q1, q2⟩ := h5 a ha2 e
      exact ⟨x, q1, q2.below hB q2.lt⟩
/-- Before call j. -/
theorem PenW.at (h : PenW w0 g v St ms la L G W) (j m : Nat) (hm : ms[j]? = some m) (hL : L m = false) (hp : ∀ m', 0 < j → ms[j - 1]? = some m' → L m' = true) :
    ∃ v', OutAt W g (St j) v' ∧ MovedP w0 W g v v' := by
  obtain ⟨⟨k, v', h1, h2, h3, h4⟩, _⟩ := h
  have e1 : ¬ j < k := fun e => by
    have := (h1 j m hm).2 e
    rw [hL] at this
    cases this
  have hk : k = j := by
    rcases Nat.eq_zero_or_pos j with h0 | h0
    · omega
    · have hj := (List.getElem?_eq_some_iff.1 hm).1
      have e2 := (h1 (j - 1) _ (List.getElem?_eq_getElem (by omega))).1 (hp _ h0 (List.getElem?_eq_getElem (by omega)))
      omega
  subst hk
  exact ⟨v', h3, h4⟩
theorem PenW.call (h : PenW w0 g v St ms la L G W) (hnd : ms.Nodup) (j m : Nat) (hm : ms[j]? = some m) (hL : L m = false) (hp : ∀ m', 0 < j → ms[j - 1]? = some m' → L m' = true) (hma : ∀ a ∈ la, a.1 ≠ m ∧ a.2.1 ≠ 53 ∧ a.2.1 ≠ 5)
    {v1 v2 : Value} (H : OutAt W g (St j) v1) (M0 : MovedP w0 W g v v1) (H2 : OutAt W' g (St (j + 1)) v2) (M : MovedP W W' g v1 v2) (u : Value) : PenW w0 g v St ms la (upd L m) (upF G m u) W' := by
  obtain ⟨⟨k, v', h1, h2, h3, h4⟩, h5⟩ := h
  have hj := (List.getElem?_eq_some_iff.1 hm).1
  have e1 : ¬ j < k := fun e => by
    have := (h1 j m hm).2 e
    rw [hL] at this
    cases this
  have hk : k = j := by
    rcases Nat.eq_zero_or_pos j with h0 | h0
    · omega
    · have e2 := (h1 (j - 1) _ (List.getElem?_eq_getElem (by omega))).1 (hp _ h0 (List.getElem?_eq_getElem (by omega)))
      omega
  subst hk
  refine ⟨⟨k + 1, v2, fun i m' hm' => ?_, by omega, H2, M0.trans M⟩, fun a ha e => ?_⟩
  · by_cases e : m' = m
    · subst e
      have hi := (List.getElem?_eq_some_iff.1 hm').1
      have : i = k := by
        have g1 := (List.getElem?_eq_some_iff.1 hm').2
        have g2 := (List.getElem?_eq_some_iff.1 hm).2
        exact (List.getElem_inj (h₀ := hi) (h₁ := hj) hnd).1 (g1.trans g2.symm)
      rw [updL_at]
      constructor
      · intro _; omega
      · intro _; rfl
    · rw [updL_ne L e, h1 i m' hm']
      constructor
      · intro h; omega
      · intro h
        rcases Nat.lt_or_ge i k with h6 | h6
        · exact h6
        · have : i = k := by omega
          subst this
          rw [hm] at hm'
          injection hm' with hm'
          exact absurd hm'.symm e
  · obtain ⟨q1, q2, q3⟩ := hma a ha
    rw [updL_ne L q1] at e
    rw [upF_ne _ _ q1]
    obtain ⟨x, r1, r2⟩ := h5 a ha e
    exact ⟨x, r1, (M.keep x r2.lt (Blk.ne_ r2 H.blk q2) (own_ne_blk H.own r2 (Ne.symm q3))).trans r2⟩
theorem PenW.all (h : PenW w0 g v St ms la L G W) (hL : ∀ m ∈ ms, L m = true) : ∃ v', OutAt W g (St ms.length) v' ∧ MovedP w0 W g v v' := by
  obtain ⟨⟨k, v', h1, h2, h3, h4⟩, _⟩ := h
  rcases Nat.lt_or_ge k ms.length with h5 | h5
  · have := (h1 k _ (List.getElem?_eq_getElem h5)).1 (hL _ (List.getElem_mem h5))
    omega
  · have : k = ms.length := by omega
    subst this
    exact ⟨v', h3, h4⟩
theorem PenW.blk (h : PenW w0 g v St ms la L G W) (H : OutAt w0 g (St 0) v) {x : Nat} {t : TypeId} {cs : Array Value} (K : Blk w0 x t cs) (h1 : t ≠ 53) (h2 : t ≠ 5) : Blk W x t cs := by
  obtain ⟨⟨k, v', _, _, h3, h4⟩, _⟩ := h
  exact (h4.keep x K.lt (Blk.ne_ K H.blk h1) (own_ne_blk H.own K (Ne.symm h2))).trans K
/-- The literal of a call. -/
theorem PenW.at_lit (h : PenW w0 g v St ms la L G W) {m : Nat} {t : TypeId} {cs : List Value} (ha : (m, t, cs) ∈ la) (hL : L m = true) {x : Nat} {n : Nat} (hG : G m = .slice (some ⟨x, 0, none⟩) n n) : Blk W x t cs.toArray := by
  obtain ⟨x', h1, h2⟩ := h.lit _ ha hL
  rw [hG] at h1
  injection h1 with h1 h3 h4
  injection h1 with h1
  injection h1 with h1
  subst h1
  exact h2
end
theorem SliceOf.of_blk {W : World} {x n : Nat} {t : TypeId} {cs : List Value} (K : Blk W x t cs.toArray) (f : Nat → Value) (hn : cs.length = n) (hn2 : n ≤ 1000) (hf : ∀ i, i < n → cs[i]? = some (f i)) : SliceOf W (some ⟨x, 0, none⟩) n n 1 (fun i => [f i]) := by
  refine ⟨Nat.le_refl _, by rw [maxLen_eq]; omega, fun _ => ⟨x, 0, rfl, K.lt, fun i hi j u hu => ?_⟩⟩
  match j, hu with
  | 0, hu =>
    simp at hu
    subst hu
    have h1 := K.cell i
    simp only [Nat.mul_one, Nat.zero_add, Nat.add_zero]
    rw [h1, List.getElem?_toArray, hf i hi]
end Go.Proofs.YtbibgffgljojgaaDoor
