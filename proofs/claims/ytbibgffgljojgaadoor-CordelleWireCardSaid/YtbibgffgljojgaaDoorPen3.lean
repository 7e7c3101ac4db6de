/- Package pen: a text read, number by number. No condition but that the reader stands. -/
import Derived.Test.YtbibgffgljojgaaDoorPen2
namespace Go.Proofs.YtbibgffgljojgaaDoor
open Go.RowKit BigFrame
attribute [local go_sem ↓] Go.wp_at_zero Go.wp_at_succ

/-- A reader at block g: what is left, and the first error. -/
def InAt (W : World) (g : Nat) (s : ByteArray) (e : Int) : Prop := Blk W g 82 #[.string s, .int .i64 e]
theorem InAt.blk {W : World} {g : Nat} {s : ByteArray} {e : Int} (h : InAt W g s e) : Blk W g 82 #[.string s, .int .i64 e] := h
theorem InAt.below {w w' : World} {g : Nat} {s : ByteArray} {e : Int} (h : InAt w g s e) (hb : Below w.heap.size w w') : InAt w' g s e := Blk.below h hb h.blk.lt
theorem pen_Of (s : ByteArray) (w : World) :
    Calls Tryd.prog 27 #[.string s] w fun e w' => e = .returned (.pointer (some ⟨w.heap.size, 0, none⟩)) ∧ InAt w' w.heap.size s 0 ∧ Below w.heap.size w w' := by
  have K := Blk.new w 82 #[.string s, .int .i64 0]
  have B : Below w.heap.size w (w.alloc (.cells #[.string s, .int .i64 0] 82)) := (Below.refl _ w).alloc (Nat.le_refl _) _
  go_enter Tryd.func27, Tryd.ntmps27
  go_wp2_with fail
  go_ret
  exact ⟨rfl, K, B⟩
/-- Nothing is changed but block g. -/
def OnlyAt (w w' : World) (g : Nat) : Prop := Below 0 w w' ∧ ∀ k, k ≠ g → w'.heap[k]? = w.heap[k]?
theorem OnlyAt.refl (w : World) (g : Nat) : OnlyAt w w g := ⟨Below.refl _ _, fun _ _ => rfl⟩
theorem OnlyAt.trans {w w1 w2 : World} {g : Nat} (h : OnlyAt w w1 g) (h2 : OnlyAt w1 w2 g) : OnlyAt w w2 g := ⟨h.1.trans h2.1, fun k hk => (h2.2 k hk).trans (h.2 k hk)⟩
theorem OnlyAt.down {w w' : World} {g B : Nat} (h : OnlyAt w w' g) (hB : B ≤ g) : Below B w w' := ⟨h.1.os, h.1.tape, h.1.output, h.1.size, fun k hk => h.2 k (by omega)⟩
set_option maxHeartbeats 1000000 in
theorem pen_Raw (g : Nat) (s : ByteArray) (e : Int) (n : Nat) (w : World) (h : InAt w g s e) (hn : n ≤ s.size) (hs : s.size ≤ maxLen) :
    Calls Tryd.prog 31 #[.pointer (some ⟨g, 0, none⟩), .int .i64 (n : Int)] w fun e' w' => e' = .returned (.string (s.extract 0 n)) ∧ InAt w' g (s.extract n s.size) e ∧ OnlyAt w w' g := by
  rw [maxLen_eq] at hs
  have k := h.blk
  have c1 := k.cell
  have f1 := k.frozen
  simp at c1
  have m1 : (if (0 : Int) < (n : Int) then (n : Int) else 0) = n := by split <;> omega
  have m2 : max (0 : Int) (n : Int) = n := by omega
  have m3 : (if 0 < n then (n : Int) else 0) = n := by split <;> omega
  have i0 : (0 : Int) ≤ (n : Int) := by omega
  have i1 : (n : Int) ≤ (s.size : Int) := by omega
  have i2 : ¬ (s.size : Int) < (n : Int) := by omega
  have k2 := k.set_ 0 (.string (s.extract n s.size))
  simp at k2
  go_enter Tryd.func31, Tryd.ntmps31
  go_wp2_with fail
  go_ret
  refine ⟨rfl, k2, (Below.refl _ w).setCell (Nat.zero_le _) _, fun z hz => Below.heap_setCell _ ⟨g, 0, none⟩ _ z hz⟩
theorem bv_or (a b : BitVec 32) : bits .or .u32 (a.toNat : Int) (b.toNat : Int) = ((a ||| b).toNat : Int) := by
  rw [u32_or_nat _ _ a.isLt b.isLt, BitVec.toNat_or]
theorem or_byte (q b : Nat) (hq : q < 16777216) (hb : b < 256) : bits .or .u32 ((q : Int) * 256) ((b : Int) % 4294967296) = ((q * 256 + b : Nat) : Int) := by
  have e1 : ((q : Int) * 256) = ((BitVec.ofNat 32 (q * 256)).toNat : Int) := by rw [BitVec.toNat_ofNat, Nat.mod_eq_of_lt (by omega)]; omega
  have e2 : ((b : Int) % 4294967296) = ((BitVec.ofNat 32 b).toNat : Int) := by rw [BitVec.toNat_ofNat, Nat.mod_eq_of_lt (by omega)]; omega
  rw [e1, e2, bv_or, BitVec.toNat_or, BitVec.toNat_ofNat, BitVec.toNat_ofNat, Nat.mod_eq_of_lt (by omega), Nat.mod_eq_of_lt (by omega)]
  have := Nat.two_pow_add_eq_or_of_lt (i := 8) (b := b) (by omega) q
  have e3 : q * 256 = 2 ^ 8 * q := by omega
  rw [e3, ← this]
/-- The number that bytes make. -/
def numS (s : ByteArray) : Nat → Nat
  | 0 => 0
  | k + 1 => numS s k * 256 + (s.data.toList.getD k 0).toNat
theorem numS_lt (s : ByteArray) (k : Nat) : numS s k < 256 ^ k := by
  induction k with
  | zero => simp [numS]
  | succ k ih =>
    simp only [numS]
    have := (s.data.toList.getD k 0).toNat_lt
    rw [Nat.pow_succ]
    omega
theorem numS_ext (s t : ByteArray) (k : Nat) (h : ∀ i, i < k → s.data.toList.getD i 0 = t.data.toList.getD i 0) : numS s k = numS t k := by
  induction k with
  | zero => rfl
  | succ k ih => simp only [numS]; rw [ih (fun i hi => h i (by omega)), h k (by omega)]
set_option maxHeartbeats 1000000 in
theorem pen_number (g : Nat) (s : ByteArray) (e : Int) (n : Nat) (w : World) (h : InAt w g s e) (hn : n ≤ s.size) (hs : s.size ≤ maxLen) (hn4 : n ≤ 4) :
    Calls Tryd.prog 46 #[.pointer (some ⟨g, 0, none⟩), .int .i64 (n : Int)] w fun e' w' => e' = .returned (.int .u32 (numS s n : Nat)) ∧ InAt w' g (s.extract n s.size) e ∧ OnlyAt w w' g := by
  have HR := Lib.hid (pen_Raw g s e n w h hn hs)
  obtain ⟨t, ht⟩ : ∃ t, s.extract 0 n = t := ⟨_, rfl⟩
  rw [ht] at HR
  have htz : t.size = n := by rw [← ht]; simp; omega
  go_enter Tryd.func46, Tryd.ntmps46
  go_wp2_with fail
  refine HR.out.mono ?_
  rintro e' w2 ⟨rfl, H2, O2⟩
  have htz2 : t.size ≤ 4 := by omega
  have HT := Lib.hid (show numS t t.size = numS s n by
    rw [htz]
    refine numS_ext t s n fun i hi => ?_
    rw [← ht]
    simp only [List.getD_eq_getElem?_getD]
    congr 1
    simp [hi])
  clear htz ht
  go_wp2_with fail
  go_loopw [5, 13] (fun x i wr => ∃ k : Nat, k ≤ t.size ∧ i = .int .i64 k ∧ x = .int .u32 (numS t k : Nat) ∧ w2 = wr) (fun _ i _ => t.size - (intOf i).toNat)
  case atStart => exact ⟨0, by omega, rfl, rfl, rfl⟩
  case round =>
    obtain ⟨k, hk, rfl, rfl, rfl⟩ := hrel
    by_cases hlt : k < t.size
    · have i1 : (k : Int) < (t.size : Int) := by omega
      have i0 : (0 : Int) ≤ (k : Int) := by omega
      obtain ⟨q, hq⟩ : ∃ q, numS t k = q := ⟨_, rfl⟩
      have hq2 : q < 16777216 := by
        have h1 := numS_lt t k
        rw [hq] at h1
        have h2 : 256 ^ k ≤ 256 ^ 3 := Nat.pow_le_pow_right (by decide) (by omega)
        omega
      have HQ := Lib.hid hq
      rw [hq]
      have hor := or_byte q t[k].toNat hq2 t[k].toNat_lt
      clear hq
      go_wp2_with fail
      go_roundw
      case rel =>
        refine ⟨k + 1, by omega, by go_num, ?_, by trivial⟩
        have e1 : t.data.toList.getD k 0 = t[k] := by
          rw [List.getD_eq_getElem?_getD, List.getElem?_eq_getElem (by simpa using hlt)]
          rfl
        simp only [numS]
        rw [HQ.out, e1]
        first | rfl | (rw [hor]) | (rw [Int.emod_eq_of_lt (by omega) (by omega), hor])
      case measure => simp only [intOf]; omega
    · obtain rfl : k = t.size := by omega
      have j1 : ¬ ((t.size : Int) < (t.size : Int)) := by omega
      go_wp2_with fail
      go_ret
      exact ⟨by rw [HT.out]; rfl, H2, O2⟩
set_option maxHeartbeats 1000000 in
theorem pen_InU16 (g : Nat) (s : ByteArray) (e : Int) (w : World) (h : InAt w g s e) (hn : 2 ≤ s.size) (hs : s.size ≤ maxLen) :
    Calls Tryd.prog 29 #[.pointer (some ⟨g, 0, none⟩)] w fun e' w' => e' = .returned (.int .i64 (numS s 2 : Nat)) ∧ InAt w' g (s.extract 2 s.size) e ∧ OnlyAt w w' g := by
  have HN := Lib.hid (pen_number g s e 2 w h hn hs (by omega))
  have h1 := numS_lt s 2
  obtain ⟨q, hq⟩ : ∃ q, numS s 2 = q := ⟨_, rfl⟩
  rw [hq] at HN h1 ⊢
  have wq : IntKind.i64.wrap (q : Int) = (q : Int) := IntWalk.i64_in _ (by omega)
  clear hq
  go_enter Tryd.func29, Tryd.ntmps29
  go_wp2_with fail
  refine HN.out.mono ?_
  rintro e' w2 ⟨rfl, H2, O2⟩
  go_wp2_with fail
  go_ret
  exact ⟨rfl, H2, O2⟩
end Go.Proofs.YtbibgffgljojgaaDoor
