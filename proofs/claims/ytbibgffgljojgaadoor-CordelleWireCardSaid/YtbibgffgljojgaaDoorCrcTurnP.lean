/- Turned bits, in plain Lean: what a text is behind it, that twice is nothing, and how long a burst it makes. No condition. -/
import Derived.Test.YtbibgffgljojgaaDoorCrc4
namespace Go.Proofs.YtbibgffgljojgaaDoor

/-- Is the bit at a place turned? -/
def tbit (at_ : Nat) (mask : BitVec 32) (i : Nat) : Bool := decide (at_ ≤ i) && decide (i < at_ + 32) && mask.getLsbD (31 - (i - at_))
/-- t is s, with these bits turned. -/
def IsTurn (s t : ByteArray) (at_ : Nat) (mask : BitVec 32) : Prop := t.size = s.size ∧ ∀ i, i < 8 * s.size → bitA t i = (bitA s i ^^ tbit at_ mask i)

theorem byte_ext (x y : UInt8) (h : ∀ p, p < 8 → x.toNat.testBit p = y.toNat.testBit p) : x = y := by
  apply UInt8.toNat_inj.1
  apply Nat.eq_of_testBit_eq
  intro p
  by_cases hp : p < 8
  · exact h p hp
  · have hx := x.toNat_lt
    have hy := y.toNat_lt
    have h2 : 2 ^ 8 ≤ 2 ^ p := Nat.pow_le_pow_right (by omega) (by omega)
    rw [Nat.testBit_lt_two_pow (by omega), Nat.testBit_lt_two_pow (by omega)]
theorem text_ext (a b : ByteArray) (hs : a.size = b.size) (h : ∀ i, i < 8 * a.size → bitA a i = bitA b i) : a = b := by
  have hl : a.data.toList = b.data.toList := by
    apply List.ext_getElem
    · simpa using hs
    · intro j h1 h2
      have hj : j < a.size := by simpa using h1
      apply byte_ext
      intro p hp
      have := h (8 * j + (7 - p)) (by omega)
      unfold bitA at this
      have e1 : (8 * j + (7 - p)) / 8 = j := by omega
      have e2 : 7 - (8 * j + (7 - p)) % 8 = p := by omega
      rw [e1, e2, List.getD_eq_getElem?_getD, List.getD_eq_getElem?_getD, List.getElem?_eq_getElem h1, List.getElem?_eq_getElem h2] at this
      exact this
  cases a; cases b
  simp only [ByteArray.mk.injEq]
  exact Array.toList_inj.1 hl
theorem IsTurn.unique {s t u : ByteArray} {at_ : Nat} {mask : BitVec 32} (h : IsTurn s t at_ mask) (h' : IsTurn s u at_ mask) : t = u :=
  text_ext _ _ (h.1.trans h'.1.symm) (fun i hi => by rw [h.1] at hi; rw [h.2 i hi, h'.2 i hi])
theorem IsTurn.back {s t : ByteArray} {at_ : Nat} {mask : BitVec 32} (h : IsTurn s t at_ mask) : IsTurn t s at_ mask :=
  ⟨h.1.symm, fun i hi => by rw [h.1] at hi; rw [h.2 i hi]; cases bitA s i <;> cases tbit at_ mask i <;> rfl⟩
theorem IsTurn.diff {s t : ByteArray} {at_ : Nat} {mask : BitVec 32} (h : IsTurn s t at_ mask) (i : Nat) (hi : i < 8 * s.size) : diffD s t i = tbit at_ mask i := by
  unfold diffD
  rw [h.2 i hi]
  cases bitA s i <;> cases tbit at_ mask i <;> rfl

theorem fl_spec (n : Nat) (d : Nat → Bool) : ((fl n d).1 = -1 ∧ (fl n d).2 = -1 ∧ ∀ i, i < n → d i = false) ∨
    (∃ f l : Nat, fl n d = ((f : Int), (l : Int)) ∧ f ≤ l ∧ l < n ∧ d f = true ∧ d l = true ∧ (∀ i, i < f → d i = false) ∧ (∀ i, l < i → i < n → d i = false)) := by
  induction n with
  | zero => exact .inl ⟨rfl, rfl, fun i hi => absurd hi (by omega)⟩
  | succ n ih =>
    rw [fl_succ]
    by_cases hd : d n = true
    · right
      rw [if_pos hd]
      rcases ih with ⟨h1, h2, h3⟩ | ⟨f, l, e, h1, h2, h3, h4, h5, h6⟩
      · rw [h1]
        exact ⟨n, n, rfl, Nat.le_refl _, by omega, hd, hd, h3, fun i hi hn => absurd hn (by omega)⟩
      · rw [e]
        have : ¬ ((f : Int) < 0) := by omega
        simp only [this, if_false]
        exact ⟨f, n, rfl, by omega, by omega, h3, hd, h5, fun i hi hn => absurd hn (by omega)⟩
    · have hd' : d n = false := by simpa using hd
      rw [if_neg hd]
      rcases ih with ⟨h1, h2, h3⟩ | ⟨f, l, e, h1, h2, h3, h4, h5, h6⟩
      · left
        refine ⟨h1, h2, fun i hi => ?_⟩
        rcases Nat.lt_or_ge i n with h | h
        · exact h3 i h
        · obtain rfl : i = n := by omega
          exact hd'
      · right
        refine ⟨f, l, e, h1, by omega, h3, h4, h5, fun i hi hn => ?_⟩
        rcases Nat.lt_or_ge i n with h | h
        · exact h6 i hi h
        · obtain rfl : i = n := by omega
          exact hd'
/-- The burst of turned bits: 0 just if nothing is turned; never more than 32. -/
theorem IsTurn.burst {s t : ByteArray} {at_ : Nat} {mask : BitVec 32} (h : IsTurn s t at_ mask) : 0 ≤ burstI s t ∧ burstI s t ≤ 32 ∧ (0 < burstI s t ↔ s ≠ t) := by
  unfold burstI
  rw [if_pos h.1.symm]
  have hc := fl_congr (8 * s.size) (diffD s t) (tbit at_ mask) (fun i hi => h.diff i hi)
  unfold spanI
  rw [hc]
  rcases fl_spec (8 * s.size) (tbit at_ mask) with ⟨h1, h2, h3⟩ | ⟨f, l, e, h1, h2, h3, h4, h5, h6⟩
  · rw [h1]
    simp only [show ((-1 : Int) < 0) = True from by simp, if_true]
    refine ⟨by omega, by omega, ⟨fun h => absurd h (by omega), fun hne => absurd ?_ hne⟩⟩
    exact text_ext _ _ h.1.symm (fun i hi => by rw [h.2 i hi, h3 i hi]; simp)
  · rw [e]
    have hf : ¬ ((f : Int) < 0) := by omega
    simp only [hf, if_false]
    have hb : at_ ≤ f ∧ l < at_ + 32 := by
      unfold tbit at h3 h4
      simp at h3 h4
      omega
    refine ⟨by omega, by omega, ⟨fun _ he => ?_, fun _ => by omega⟩⟩
    subst he
    have := h.2 f (by omega)
    rw [h3] at this
    cases bitA s f <;> simp at this

/-- A byte out of eight bits, the greatest first. -/
def byteOf (d : Nat → Bool) : Nat → Nat
  | 0 => 0
  | k + 1 => 2 * byteOf d k + (if d k then 1 else 0)
theorem byteOf_lt (d : Nat → Bool) (k : Nat) : byteOf d k < 2 ^ k := by
  induction k with
  | zero => simp [byteOf]
  | succ k ih => unfold byteOf; rw [Nat.pow_succ]; split <;> omega
theorem byteOf_bit (d : Nat → Bool) : ∀ (k p : Nat), p < k → (byteOf d k).testBit p = d (k - 1 - p)
  | k + 1, 0, _ => by
    unfold byteOf
    rw [Nat.testBit_zero]
    by_cases h : d k = true
    · simp [h]
    · simp [h]
  | k + 1, p + 1, hp => by
    unfold byteOf
    rw [Nat.testBit_succ]
    have h2 : (2 * byteOf d k + (if d k then 1 else 0)) / 2 = byteOf d k := by split <;> omega
    rw [h2, byteOf_bit d k p (by omega)]
    congr 1
    omega
/-- The text whose bits are these. -/
def textOf (n : Nat) (d : Nat → Bool) : ByteArray := ⟨((List.range n).map fun j => UInt8.ofNat (byteOf (fun k => d (8 * j + k)) 8)).toArray⟩
theorem textOf_size (n : Nat) (d : Nat → Bool) : (textOf n d).size = n := by simp [textOf, ByteArray.size]
theorem textOf_bit (n : Nat) (d : Nat → Bool) (i : Nat) (h : i < 8 * n) : bitA (textOf n d) i = d i := by
  unfold bitA textOf
  have hj : i / 8 < n := by omega
  simp only [List.getD_eq_getElem?_getD, List.getElem?_map, List.getElem?_range hj, Option.map_some, Option.getD_some]
  rw [UInt8.toNat_ofNat', Nat.mod_eq_of_lt (by have := byteOf_lt (fun k => d (8 * (i / 8) + k)) 8; simpa using this), byteOf_bit _ 8 _ (by omega)]
  congr 1
  omega
def turnOf (s : ByteArray) (at_ : Nat) (mask : BitVec 32) : ByteArray := textOf s.size fun i => bitA s i ^^ tbit at_ mask i
theorem turnOf_is (s : ByteArray) (at_ : Nat) (mask : BitVec 32) : IsTurn s (turnOf s at_ mask) at_ mask :=
  ⟨textOf_size _ _, fun i hi => textOf_bit _ _ i hi⟩
end Go.Proofs.YtbibgffgljojgaaDoor
