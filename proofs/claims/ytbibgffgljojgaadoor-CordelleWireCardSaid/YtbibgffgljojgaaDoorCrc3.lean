/- From the first bit to the last one in which two texts are not alike: the program's way and the reference's, walked. No condition but the texts' lengths. -/
import Derived.Test.YtbibgffgljojgaaDoorCrc2
import Derived.Deep.QuietTactic
import Derived.Deep.Draws
namespace Go.Proofs.YtbibgffgljojgaaDoor
open Go.RowKit

/-- The first and the last place of those below n at which d says yes; -1: none. -/
def fl : Nat → (Nat → Bool) → Int × Int
  | 0, _ => (-1, -1)
  | n + 1, d => if d n then (if (fl n d).1 < 0 then (n : Int) else (fl n d).1, (n : Int)) else fl n d
def byteD (x : Nat) (t : Nat) : Bool := x.testBit (7 - t)
theorem fl_succ (n : Nat) (d : Nat → Bool) : fl (n + 1) d = if d n then (if (fl n d).1 < 0 then (n : Int) else (fl n d).1, (n : Int)) else fl n d := rfl
theorem fl_bd (n : Nat) (d : Nat → Bool) : ((fl n d).1 = -1 ∧ (fl n d).2 = -1) ∨ (0 ≤ (fl n d).1 ∧ (fl n d).1 ≤ (fl n d).2 ∧ (fl n d).2 < n) := by
  induction n with
  | zero => exact .inl ⟨rfl, rfl⟩
  | succ n ih =>
    unfold fl
    split
    · right
      by_cases h : (fl n d).1 < 0
      · simp only [h, if_true]; omega
      · simp only [h, if_false]; omega
    · omega
theorem fl_congr (n : Nat) (d e : Nat → Bool) (h : ∀ i, i < n → d i = e i) : fl n d = fl n e := by
  induction n with
  | zero => rfl
  | succ n ih => unfold fl; rw [ih (fun i hi => h i (by omega)), h n (by omega)]
theorem fl_add (m n : Nat) (d : Nat → Bool) :
    fl (m + n) d = if (fl n (fun t => d (m + t))).2 < 0 then fl m d else (if (fl m d).1 < 0 then (m : Int) + (fl n (fun t => d (m + t))).1 else (fl m d).1, (m : Int) + (fl n (fun t => d (m + t))).2) := by
  induction n with
  | zero => rfl
  | succ n ih =>
    have b1 := fl_bd m d
    have b2 := fl_bd n (fun t => d (m + t))
    show fl (m + n + 1) d = _
    rw [fl_succ (m + n) d, fl_succ n (fun t => d (m + t)), ih]
    generalize fl n (fun t => d (m + t)) = y at *
    generalize fl m d = x at *
    obtain ⟨x1, x2⟩ := x
    obtain ⟨y1, y2⟩ := y
    simp only at *
    by_cases hd : d (m + n) = true
    · simp only [hd, if_true]
      rw [if_neg (show ¬ ((n : Int) < 0) by omega)]
      by_cases h2 : y2 < 0
      · simp only [h2, if_true]
        have hy : y1 < 0 := by omega
        by_cases h1 : x1 < 0
        · simp [h1, hy]
        · simp [h1]
      · simp only [h2, if_false]
        have hy : ¬ y1 < 0 := by omega
        have hy2 : ¬ ((m : Int) + y1 < 0) := by omega
        by_cases h1 : x1 < 0
        · simp [h1, hy, hy2]
        · simp [h1]
    · simp [hd]
theorem below_drewN {B : Nat} {a w : World} (h : Below B a w) (n : Nat) : Below B a (w.drewN n) := ⟨h.os, h.tape, h.output, h.size, h.block⟩
def spanI (n : Nat) (d : Nat → Bool) : Int := if (fl n d).1 < 0 then 0 else (fl n d).2 - (fl n d).1 + 1
def bitA (s : ByteArray) (i : Nat) : Bool := (s.data.toList.getD (i / 8) 0).toNat.testBit (7 - i % 8)
def diffD (a b : ByteArray) (i : Nat) : Bool := bitA a i ^^ bitA b i
def burstI (a b : ByteArray) : Int := if a.size = b.size then spanI (8 * a.size) (diffD a b) else -1
theorem bitsN_get (b i : Nat) (h : i < 8) : (bitsN b).getD i false = b.testBit (7 - i) := by
  match i, h with
  | 0, _ => rfl
  | 1, _ => rfl
  | 2, _ => rfl
  | 3, _ => rfl
  | 4, _ => rfl
  | 5, _ => rfl
  | 6, _ => rfl
  | 7, _ => rfl
theorem bitsL_getD (l : List UInt8) (i : Nat) (h : i < 8 * l.length) : (bitsL l).getD i false = (l.getD (i / 8) 0).toNat.testBit (7 - i % 8) := by
  induction l generalizing i with
  | nil => simp at h
  | cons c l ih =>
    rw [bitsL_cons]
    have hlen : (bitsN c.toNat).length = 8 := rfl
    by_cases h8 : i < 8
    · have h0 : i / 8 = 0 := by omega
      have h1 : i % 8 = i := by omega
      rw [h0, h1, List.getD_eq_getElem?_getD, List.getElem?_append_left (by rw [hlen]; exact h8), ← List.getD_eq_getElem?_getD, bitsN_get _ _ h8]
      rfl
    · have h0 : i / 8 = (i - 8) / 8 + 1 := by omega
      have h1 : i % 8 = (i - 8) % 8 := by omega
      rw [h0, h1, List.getD_eq_getElem?_getD, List.getElem?_append_right (by rw [hlen]; omega), hlen, ← List.getD_eq_getElem?_getD, ih (i - 8) (by simp at h; omega)]
      rfl
theorem bitsL_bitA (s : ByteArray) (i : Nat) (h : i < 8 * s.size) : (bitsL s.data.toList).getD i false = bitA s i := bitsL_getD _ _ (by simpa using h)
theorem byteD_diff (a b : ByteArray) (k t : Nat) (ha : k < a.size) (hb : k < b.size) (ht : t < 8) : diffD a b (8 * k + t) = byteD (a[k].toNat ^^^ b[k].toNat) t := by
  have h1 : (8 * k + t) / 8 = k := by omega
  have h2 : (8 * k + t) % 8 = t := by omega
  unfold diffD bitA byteD
  rw [h1, h2, Nat.testBit_xor]
  have e : ∀ (s : ByteArray) (hs : k < s.size), s.data.toList.getD k 0 = s[k] := fun s hs => by
    rw [List.getD_eq_getElem?_getD, List.getElem?_eq_getElem (by simpa using hs)]; rfl
  rw [e a ha, e b hb]

theorem fl_byte (x : Nat) (hx : x < 256) : (x = 0 → (fl 8 (byteD x)).2 < 0) ∧ (x ≠ 0 → 0 ≤ (fl 8 (byteD x)).1 ∧ 0 ≤ (fl 8 (byteD x)).2 ∧ (fl 8 (byteD x)).2 ≤ 7 ∧ (fl 8 (byteD x)).1 ≤ 7) := by
  obtain ⟨i, rfl⟩ : ∃ i : Fin 256, i.1 = x := ⟨⟨x, hx⟩, rfl⟩
  clear hx
  revert i
  decide +kernel

end Go.Proofs.YtbibgffgljojgaaDoor
