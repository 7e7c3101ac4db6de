/- Package crc's Right, the statements' Cut and Few, and the reference's Bits and Rem, walked. No condition but the texts' lengths. -/
import Derived.Test.YtbibgffgljojgaaDoorCrc
namespace Go.Proofs.YtbibgffgljojgaaDoor
open Go.RowKit

theorem SliceOf.lit {w : World} {g : Nat} {t : TypeId} {cs : Array Value} {n : Nat} (h : Blk w g t cs) (hn : cs.size = n) (hm : n ≤ 1000) (E : Nat → Value) (hE : ∀ i, i < n → cs[i]? = some (E i)) :
    SliceOf w (some ⟨g, 0, none⟩) n n 1 (fun i => [E i]) := by
  refine ⟨Nat.le_refl _, by rw [maxLen_eq]; omega, fun hp => ⟨g, 0, rfl, h.lt, fun i hi j v hv => ?_⟩⟩
  match j, hv with
  | 0, hv =>
    simp at hv
    subst hv
    have := h.cell i
    simp only [Nat.mul_one, Nat.add_zero, Nat.zero_add]
    rw [this]
    exact hE i hi
theorem SliceOf.lit1 {w : World} {g : Nat} {t : TypeId} {v : Value} (h : Blk w g t #[v]) : SliceOf w (some ⟨g, 0, none⟩) 1 1 1 (fun _ => [v]) :=
  SliceOf.lit (n := 1) h rfl (by decide) (fun _ => v) (fun i hi => by
    obtain rfl : i = 0 := by omega
    rfl)
theorem SliceOf.lit2 {w : World} {g : Nat} {t : TypeId} {a b : Value} (h : Blk w g t #[a, b]) : SliceOf w (some ⟨g, 0, none⟩) 2 2 1 (fun i => [if i = 0 then a else b]) :=
  SliceOf.lit (n := 2) h rfl (by decide) (fun i => if i = 0 then a else b) (fun i hi => by
    match i, hi with
    | 0, _ => rfl
    | 1, _ => rfl)
def OwnsResC (w : World) (E : TypeId) (n : Nat) (xs : List Value) (e : Ending) (w' : World) : Prop :=
  ∃ v, e = .returned v ∧ w'.ownsRow w.heap.size E 1 v n xs ∧ Below w.heap.size w w'
theorem i64_ofInt (a : Nat) (ha : a < 9223372036854775808) : (BitVec.ofInt 64 (a : Int)).toNat = a := by
  rw [BitVec.ofInt_natCast, BitVec.toNat_ofNat]; exact Nat.mod_eq_of_lt (by omega)
theorem i64_xorN (a b : Nat) (ha : a < 9223372036854775808) (hb : b < 9223372036854775808) : bits .xor .i64 (a : Int) (b : Int) = ((a ^^^ b : Nat) : Int) := by
  have hx : a ^^^ b < 2 ^ 63 := Nat.xor_lt_two_pow (by omega) (by omega)
  show IntKind.i64.wrap ((BitVec.ofInt 64 (a : Int) ^^^ BitVec.ofInt 64 (b : Int)).toNat : Int) = _
  rw [BitVec.toNat_xor, i64_ofInt a ha, i64_ofInt b hb, IntKind.wrap_i64]
  omega

theorem texts_one (s : ByteArray) : textsL (fun _ => s) 1 = s.data.toList := by rw [textsL_succ]; rfl
set_option maxHeartbeats 400000 in
theorem crc_Right (s : ByteArray) (b : Bool) (w : World) (hs : s.size ≤ maxLen) (h : decide (remL 0#32 s.data.toList = 0#32) = b) :
    Calls Tryd.prog 12 #[.string s] w fun e w' => e = .returned (.bool b) ∧ Below w.heap.size w w' := by
  obtain ⟨r, hr⟩ : ∃ r, remL 0#32 s.data.toList = r := ⟨_, rfl⟩
  rw [hr] at h
  have hr1 : remL 0#32 (textsL (fun _ => s) 1) = r := by rw [texts_one, hr]
  have HR := Lib.hid hr1
  have HB := Lib.hid h
  have HM := Lib.hid hs
  clear hr1 hr h hs
  go_enter Tryd.func12, Tryd.ntmps12
  go_wp2_with fail
  refine (crc_Rem _ 1 1 (fun _ => s) r _ (SliceOf.lit1 (Blk.new _ _ _)) (fun _ _ => HM.out) HR.out).mono ?_
  rintro e w' ⟨rfl, rfl⟩
  go_wp2
  go_ret
  refine ⟨ret_bool ?_, by (repeat (first | with_reducible assumption | with_reducible exact Below.refl _ _ | with_reducible refine Below.drew ?_ | with_reducible refine Below.setCell ?_ (by first | exact Nat.le_refl _ | exact Nat.le_add_right _ _ | assumption | omega | (simp; done) | (simp; omega)) _ | with_reducible refine Below.alloc ?_ (by first | exact Nat.le_refl _ | exact Nat.le_add_right _ _ | assumption | omega | (simp; done) | (simp; omega)) _ | refine Below.drew ?_ | refine Below.setCell ?_ (by first | exact Nat.le_refl _ | exact Nat.le_add_right _ _ | assumption | omega | (simp; done) | (simp; omega)) _ | refine Below.alloc ?_ (by first | exact Nat.le_refl _ | exact Nat.le_add_right _ _ | assumption | omega | (simp; done) | (simp; omega)) _))⟩
  rw [← HB.out, Bool.eq_iff_iff]
  simp only [beq_iff_eq, decide_eq_true_eq]
  rw [← BitVec.toNat_inj]
  simp

def cutB (s : ByteArray) (n : Nat) : ByteArray := if n < s.size then s.extract 0 n else s
theorem cutB_size (s : ByteArray) (n : Nat) : (cutB s n).size ≤ n ∧ (cutB s n).size ≤ s.size := by
  unfold cutB
  split
  · simp; omega
  · omega
set_option maxHeartbeats 400000 in
theorem law02_Cut (s c : ByteArray) (n : Nat) (hs : s.size ≤ maxLen) (hn : n ≤ 100000) (h : cutB s n = c) (w : World) :
    Calls Tryd.prog 16 #[.string s, .int .i64 (n : Int)] w fun e w' => e = .returned (.string c) ∧ w = w' := by
  subst h
  rw [maxLen_eq] at hs
  by_cases hlt : n < s.size
  · have hc : cutB s n = s.extract 0 n := if_pos hlt
    have HC := Lib.hid hc
    clear hc
    go_enter Tryd.func16, Tryd.ntmps16
    go_wp2
    go_ret
    exact ⟨by rw [HC.out]; rfl, rfl⟩
  · have hc : cutB s n = s := if_neg hlt
    have HC := Lib.hid hc
    clear hc
    go_enter Tryd.func16, Tryd.ntmps16
    go_wp2
    go_ret
    exact ⟨by rw [HC.out]; rfl, rfl⟩

def cutCells (ss : Nat → ByteArray) (m n : Nat) : List Value := (List.range n).map fun i => .string (cutB (ss i) m)
theorem cutCells_succ (ss : Nat → ByteArray) (m n : Nat) : cutCells ss m (n + 1) = cutCells ss m n ++ [.string (cutB (ss n) m)] := by
  unfold cutCells; rw [List.range_succ, List.map_append]; rfl
theorem cutCells_get (ss : Nat → ByteArray) (m n i : Nat) (hi : i < n) : (cutCells ss m n)[i]? = some (.string (cutB (ss i) m)) := by
  unfold cutCells; rw [List.getElem?_map, List.getElem?_range hi]; rfl

theorem byte_wrap (c : UInt8) : wrap64 (c.toNat : Int) = (c.toNat : Int) := IntWalk.wrap64_in _ (by have := c.toNat_lt; omega)
def bitCells (l : List Bool) : List Value := l.map fun b => .int .i64 (if b then 1 else 0)
theorem bitCells_snoc (l : List Bool) (b : Bool) : bitCells (l ++ [b]) = bitCells l ++ [.int .i64 (if b then 1 else 0)] := by unfold bitCells; rw [List.map_append]; rfl
theorem bitCells_get (l : List Bool) (i : Nat) (hi : i < l.length) : (bitCells l)[i]? = some (.int .i64 (if l.getD i false then 1 else 0)) := by
  unfold bitCells; rw [List.getElem?_map, List.getElem?_eq_getElem hi, List.getD_eq_getElem?_getD, List.getElem?_eq_getElem hi]; rfl
theorem bit_div (c j : Nat) : ((c / 2 ^ j % 2 : Nat) : Int) = if c.testBit j then 1 else 0 := by
  rw [Nat.testBit_eq_decide_div_mod_eq]
  rcases Nat.mod_two_eq_zero_or_one (c / 2 ^ j) with h | h <;> rw [h] <;> rfl
theorem half_pow (j : Nat) (h : j ≤ 8) : 128 / 2 ^ j / 2 = 128 / 2 ^ (j + 1) := by rw [Nat.div_div_eq_div_mul, Nat.pow_succ]
theorem pow_pos8 (j : Nat) (h : j < 8) : 128 / 2 ^ j = 2 ^ (7 - j) := by
  match j, h with
  | 0, _ => rfl
  | 1, _ => rfl
  | 2, _ => rfl
  | 3, _ => rfl
  | 4, _ => rfl
  | 5, _ => rfl
  | 6, _ => rfl
  | 7, _ => rfl
theorem bitsL_take_snoc (s : ByteArray) (k : Nat) (h : k < s.size) : bitsL (s.data.toList.take (k + 1)) = bitsL (s.data.toList.take k) ++ bitsN s[k].toNat := by
  rw [take_snoc s k h, bitsL_append, bitsL_cons, bitsL_nil, List.append_nil]

end Go.Proofs.YtbibgffgljojgaaDoor
