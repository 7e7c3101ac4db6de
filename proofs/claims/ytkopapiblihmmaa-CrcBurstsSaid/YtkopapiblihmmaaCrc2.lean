/- Package crc's Right, the statements' Cut and Few, and the reference's Bits and Rem, walked. No condition but the texts' lengths. -/
import Derived.Test.YtkopapiblihmmaaCrc
namespace Go.Proofs.Ytkopapiblihmmaa
open Go.RowKit

theorem SliceOf.lit {w : World} {g : Nat} {t : TypeId} {cs : Array Value} {n : Nat} (h : Blk w g t cs) (hn : cs.size = n) (hm : n ≤ 1000) (E : Nat → Value) (hE : ∀ i, i < n → cs[i]? = some (E i)) :
    SliceOf w (some ⟨g, 0, none⟩) n n 1 (fun i => [E i]) := by
  refine ⟨Nat.le_refl _, by rw [maxLen_eq]; omega, fun hp => ⟨g, 0, rfl, h.lt, fun i hi j v hv => ?_⟩⟩
  match j, hv with
  | 0, hv =>
    simp at hv
    subst hv
    have := h.cell i
    simp only [Nat.mul_one, Nat.add_zero, Nat.zero_add]
    rw [this]
    exact hE i hi
theorem SliceOf.lit1 {w : World} {g : Nat} {t : TypeId} {v : Value} (h : Blk w g t #[v]) : SliceOf w (some ⟨g, 0, none⟩) 1 1 1 (fun _ => [v]) :=
  SliceOf.lit (n := 1) h rfl (by decide) (fun _ => v) (fun i hi => by
    obtain rfl : i = 0 := by omega
    rfl)
theorem SliceOf.lit2 {w : World} {g : Nat} {t : TypeId} {a b : Value} (h : Blk w g t #[a, b]) : SliceOf w (some ⟨g, 0, none⟩) 2 2 1 (fun i => [if i = 0 then a else b]) :=
  SliceOf.lit (n := 2) h rfl (by decide) (fun i => if i = 0 then a else b) (fun i hi => by
    match i, hi with
    | 0, _ => rfl
    | 1, _ => rfl)
def OwnsRes (w : World) (E : TypeId) (n : Nat) (xs : List Value) (e : Ending) (w' : World) : Prop :=
  ∃ v, e = .returned v ∧ w'.ownsRow w.heap.size E 1 v n xs ∧ Below w.heap.size w w'
theorem i64_ofInt (a : Nat) (ha : a < 9223372036854775808) : (BitVec.ofInt 64 (a : Int)).toNat = a := by
  rw [BitVec.ofInt_natCast, BitVec.toNat_ofNat]; exact Nat.mod_eq_of_lt (by omega)
theorem i64_xorN (a b : Nat) (ha : a < 9223372036854775808) (hb : b < 9223372036854775808) : bits .xor .i64 (a : Int) (b : Int) = ((a ^^^ b : Nat) : Int) := by
  have hx : a ^^^ b < 2 ^ 63 := Nat.xor_lt_two_pow (by omega) (by omega)
  show IntKind.i64.wrap ((BitVec.ofInt 64 (a : Int) ^^^ BitVec.ofInt 64 (b : Int)).toNat : Int) = _
  rw [BitVec.toNat_xor, i64_ofInt a ha, i64_ofInt b hb, IntKind.wrap_i64]
  omega

theorem texts_one (s : ByteArray) : textsL (fun _ => s) 1 = s.data.toList := by rw [textsL_succ]; rfl
set_option maxHeartbeats 400000 in
theorem crc_Right (s : ByteArray) (b : Bool) (w : World) (hs : s.size ≤ maxLen) (h : decide (remL 0#32 s.data.toList = 0#32) = b) :
    Calls Try.prog 13 #[.string s] w fun e w' => e = .returned (.bool b) ∧ Below w.heap.size w w' := by
  obtain ⟨r, hr⟩ : ∃ r, remL 0#32 s.data.toList = r := ⟨_, rfl⟩
  rw [hr] at h
  have hr1 : remL 0#32 (textsL (fun _ => s) 1) = r := by rw [texts_one, hr]
  have HR := Lib.hid hr1
  have HB := Lib.hid h
  have HM := Lib.hid hs
  clear hr1 hr h hs
  go_enter Try.func13, Try.ntmps13
  go_wp2_with fail
  refine (crc_Rem _ 1 1 (fun _ => s) r _ (SliceOf.lit1 (Blk.new _ _ _)) (fun _ _ => HM.out) HR.out).mono ?_
  rintro e w' ⟨rfl, rfl⟩
  go_wp2
  go_ret
  refine ⟨ret_bool ?_, by (repeat (first | with_reducible assumption | with_reducible exact Below.refl _ _ | with_reducible refine Below.drew ?_ | with_reducible refine Below.setCell ?_ (by first | exact Nat.le_refl _ | exact Nat.le_add_right _ _ | assumption | omega | (simp; done) | (simp; omega)) _ | with_reducible refine Below.alloc ?_ (by first | exact Nat.le_refl _ | exact Nat.le_add_right _ _ | assumption | omega | (simp; done) | (simp; omega)) _ | refine Below.drew ?_ | refine Below.setCell ?_ (by first | exact Nat.le_refl _ | exact Nat.le_add_right _ _ | assumption | omega | (simp; done) | (simp; omega)) _ | refine Below.alloc ?_ (by first | exact Nat.le_refl _ | exact Nat.le_add_right _ _ | assumption | omega | (simp; done) | (simp; omega)) _))⟩
  rw [← HB.out, Bool.eq_iff_iff]
  simp only [beq_iff_eq, decide_eq_true_eq]
  rw [← BitVec.toNat_inj]
  simp

def cutB (s : ByteArray) (n : Nat) : ByteArray := if n < s.size then s.extract 0 n else s
theorem cutB_size (s : ByteArray) (n : Nat) : (cutB s n).size ≤ n ∧ (cutB s n).size ≤ s.size := by
  unfold cutB
  split
  · simp; omega
  · omega
set_option maxHeartbeats 400000 in
theorem law02_Cut (s c : ByteArray) (n : Nat) (hs : s.size ≤ maxLen) (hn : n ≤ 100000) (h : cutB s n = c) (w : World) :
    Calls Try.prog 14 #[.string s, .int .i64 (n : Int)] w fun e w' => e = .returned (.string c) ∧ w = w' := by
  subst h
  rw [maxLen_eq] at hs
  by_cases hlt : n < s.size
  · have hc : cutB s n = s.extract 0 n := if_pos hlt
    have HC := Lib.hid hc
    clear hc
    go_enter Try.func14, Try.ntmps14
    go_wp2
    go_ret
    exact ⟨by rw [HC.out]; rfl, rfl⟩
  · have hc : cutB s n = s := if_neg hlt
    have HC := Lib.hid hc
    clear hc
    go_enter Try.func14, Try.ntmps14
    go_wp2
    go_ret
    exact ⟨by rw [HC.out]; rfl, rfl⟩

def cutCells (ss : Nat → ByteArray) (m n : Nat) : List Value := (List.range n).map fun i => .string (cutB (ss i) m)
theorem cutCells_succ (ss : Nat → ByteArray) (m n : Nat) : cutCells ss m (n + 1) = cutCells ss m n ++ [.string (cutB (ss n) m)] := by
  unfold cutCells; rw [List.range_succ, List.map_append]; rfl
theorem cutCells_get (ss : Nat → ByteArray) (m n i : Nat) (hi : i < n) : (cutCells ss m n)[i]? = some (.string (cutB (ss i) m)) := by
  unfold cutCells; rw [List.getElem?_map, List.getElem?_range hi]; rfl

set_option maxHeartbeats 2000000 in
theorem law02_Few (a : Option Addr) (n c : Nat) (ss : Nat → ByteArray) (most m : Nat) (w : World) (hS : SliceOf w a n c 1 (fun i => [.string (ss i)])) (hs : ∀ i, i < n → (ss i).size ≤ maxLen) (hm : most ≤ 1000) (hm2 : m ≤ 100000) :
    Calls Try.prog 10 #[.slice a n c, .int .i64 (most : Int), .int .i64 (m : Int)] w (OwnsRes w 9 (min n most) (cutCells ss m (min n most))) := by
  obtain ⟨i0, hi0, hz0, hz1, hz2⟩ := info_parts (show (Try.prog.info? 9).map (fun i => (i.zero, i.size, i.bytes)) = some (some (.string ByteArray.empty), 1, 16) by kernel_rfl)
  have hl := hS.size_le
  have HS := Lib.hid hS
  have HM := Lib.hid hs
  clear hS hs
  go_enter Try.func10, Try.ntmps10
  go_wp2_with fail
  go_loopw [7, 8] (fun v i wr => ∃ k : Nat, k ≤ n ∧ k ≤ most ∧ i = .int .i64 k ∧ wr.ownsRow w.heap.size 9 1 v k (cutCells ss m k) ∧ Below w.heap.size w wr) (fun _ i _ => n - (intOf i).toNat)
  case atStart => exact ⟨0, by omega, by omega, rfl, ⟨rfl, .inl ⟨rfl, rfl⟩⟩, Below.refl _ _⟩
  case round =>
    obtain ⟨k, hk, hk2, rfl, hown, hB⟩ := hrel
    by_cases hlt : k < n
    · by_cases hlt2 : k < most
      · obtain ⟨b, off, rfl, hb, hc⟩ := HS.out.at1 (by omega)
        have c0 := (hB.cell (p := ⟨b, off + k, none⟩) hb).trans (hc k hlt)
        obtain ⟨s, hs⟩ : ∃ s, ss k = s := ⟨_, rfl⟩
        have hsz := HM.out k hlt
        rw [hs] at c0 hsz
        obtain ⟨t, ht⟩ : ∃ t, cutB s m = t := ⟨_, rfl⟩
        have HSS := Lib.hid hs
        have HT := Lib.hid ht
        have HZ := Lib.hid hsz
        have i1 : (0 : Int) ≤ (k : Int) := by omega
        have i2 : (k : Int) < (n : Int) := by omega
        have i3 : (k : Int) < (most : Int) := by omega
        clear hs ht hc hsz
        go_wp2_with fail
        refine (law02_Cut s t m HZ.out hm2 HT.out _).mono ?_
        rintro e w' ⟨rfl, rfl⟩
        go_wp2_with (at_builtin; refine wpList_append_lies _ rfl _ _ 22 rfl w.heap.size 9 i0 (.string ByteArray.empty) 1 16 Try.underlying22 hi0 hz0 hz1 hz2 rfl (by decide) _ _ _ rfl (hown.alloc _) ⟨wr.heap.size, 0, none⟩ 1 1 [.string t] rfl rfl (cell_one_new _ _ _) (by simp [Value.oneCell']) (by omega) (by rw [maxLen_eq]; omega) (by omega) (Nat.le_trans hB.size (by simp)) _ rfl ?_; intro g cap w1 hown1 hgrow hat hlt1)
        have hB1 := (hB.alloc hB.size _).grown hgrow (by have := hB.size; simp; omega) (fun j hj => (hown.lt j hj).1)
        go_roundw
        case rel =>
          refine ⟨k + 1, by omega, by omega, by go_num, ?_, hB1⟩
          rw [cutCells_succ, HSS.out, HT.out]
          exact hown1
        case measure => simp only [intOf]; omega
      · obtain rfl : k = most := by omega
        have hmin : min n k = k := by omega
        go_wp2
        go_ret
        exact ⟨_, rfl, by rw [hmin]; exact hown, hB⟩
    · obtain rfl : k = n := by omega
      have hmin : min k most = k := by omega
      go_wp2
      go_ret
      exact ⟨_, rfl, by rw [hmin]; exact hown, hB⟩

theorem byte_wrap (c : UInt8) : wrap64 (c.toNat : Int) = (c.toNat : Int) := IntWalk.wrap64_in _ (by have := c.toNat_lt; omega)
def bitCells (l : List Bool) : List Value := l.map fun b => .int .i64 (if b then 1 else 0)
theorem bitCells_snoc (l : List Bool) (b : Bool) : bitCells (l ++ [b]) = bitCells l ++ [.int .i64 (if b then 1 else 0)] := by unfold bitCells; rw [List.map_append]; rfl
theorem bitCells_get (l : List Bool) (i : Nat) (hi : i < l.length) : (bitCells l)[i]? = some (.int .i64 (if l.getD i false then 1 else 0)) := by
  unfold bitCells; rw [List.getElem?_map, List.getElem?_eq_getElem hi, List.getD_eq_getElem?_getD, List.getElem?_eq_getElem hi]; rfl
theorem bit_div (c j : Nat) : ((c / 2 ^ j % 2 : Nat) : Int) = if c.testBit j then 1 else 0 := by
  rw [Nat.testBit_eq_decide_div_mod_eq]
  rcases Nat.mod_two_eq_zero_or_one (c / 2 ^ j) with h | h <;> rw [h] <;> rfl
theorem half_pow (j : Nat) (h : j ≤ 8) : 128 / 2 ^ j / 2 = 128 / 2 ^ (j + 1) := by rw [Nat.div_div_eq_div_mul, Nat.pow_succ]
theorem pow_pos8 (j : Nat) (h : j < 8) : 128 / 2 ^ j = 2 ^ (7 - j) := by
  match j, h with
  | 0, _ => rfl
  | 1, _ => rfl
  | 2, _ => rfl
  | 3, _ => rfl
  | 4, _ => rfl
  | 5, _ => rfl
  | 6, _ => rfl
  | 7, _ => rfl
theorem bitsL_take_snoc (s : ByteArray) (k : Nat) (h : k < s.size) : bitsL (s.data.toList.take (k + 1)) = bitsL (s.data.toList.take k) ++ bitsN s[k].toNat := by
  rw [take_snoc s k h, bitsL_append, bitsL_cons, bitsL_nil, List.append_nil]

set_option maxHeartbeats 4000000 in
theorem ref02_Bits (s : ByteArray) (w : World) (hs : s.size ≤ 100000) :
    Calls Try.prog 22 #[.string s] w (OwnsRes w 3 (8 * s.size) (bitCells (bitsL s.data.toList))) := by
  obtain ⟨i0, hi0, hz0, hz1, hz2⟩ := info_parts (show (Try.prog.info? 3).map (fun i => (i.zero, i.size, i.bytes)) = some (some (.int .i64 0), 1, 8) by kernel_rfl)
  go_enter Try.func22, Try.ntmps22
  go_wp2_with fail
  go_loopw [3, 4] (fun v i wr => ∃ k : Nat, k ≤ s.size ∧ i = .int .i64 k ∧ wr.ownsRow w.heap.size 3 1 v (8 * k) (bitCells (bitsL (s.data.toList.take k))) ∧ Below w.heap.size w wr) (fun _ i _ => s.size - (intOf i).toNat)
  case atStart =>
    refine ⟨0, by omega, rfl, ?_, (Below.refl _ _).alloc (Nat.le_refl _) _⟩
    have := World.ownsRow_lit (base := w.heap.size) (size := 1) (e := 3) w #[] 0 (Nat.le_refl _) (by decide) rfl
    exact this
  case round =>
    obtain ⟨k, hk, rfl, hown, hB⟩ := hrel
    by_cases hlt : k < s.size
    · obtain ⟨c, hc⟩ : ∃ c, s[k] = c := ⟨_, rfl⟩
      have hts := bitsL_take_snoc s k hlt
      rw [hc] at hts
      have HT := Lib.hid hts
      clear hts
      go_wp2_with fail
      rw [byte_wrap]
      obtain ⟨b, hb⟩ : ∃ b, c.toNat = b := ⟨_, rfl⟩
      have hb1 : b < 256 := by rw [← hb]; exact c.toNat_lt
      rw [hb]
      have HB := Lib.hid hb
      clear hb hc
      obtain ⟨wo, rfl⟩ : ∃ wo : World, wo = wr := ⟨_, rfl⟩
      go_loopw [3, 6] (fun v i wr => ∃ (j p : Nat), j ≤ 8 ∧ Hid (p = 128 / 2 ^ j) ∧ p ≤ 128 ∧ i = .int .i64 p ∧ wr.ownsRow w.heap.size 3 1 v (8 * k + j) (bitCells (bitsL (s.data.toList.take k) ++ (bitsN b).take j)) ∧ Below w.heap.size w wr) (fun _ i _ => (intOf i).toNat)
      case atStart => exact ⟨0, 128, by omega, Lib.hid rfl, by omega, rfl, by simpa using hown, hB⟩
      case round =>
        clear hown hB
        obtain ⟨j, p, hj, HP, hp, rfl, hown, hB⟩ := hrel
        by_cases hlt2 : j < 8
        · have hpp : p = 2 ^ (7 - j) := by rw [HP.out, pow_pos8 j hlt2]
          have hp0 : 0 < p := by rw [hpp]; exact Nat.two_pow_pos _
          have hv : ((b : Int) / (p : Int) % 2) = if b.testBit (7 - j) then 1 else 0 := by
            rw [← bit_div, ← hpp]; omega
          have hsn : bitCells (bitsL (s.data.toList.take k) ++ (bitsN b).take (j + 1)) = bitCells (bitsL (s.data.toList.take k) ++ (bitsN b).take j) ++ [.int .i64 ((b : Int) / (p : Int) % 2)] := by
            rw [bitsN_take b j hlt2, ← List.append_assoc, bitCells_snoc, hv]
          have HSN := Lib.hid hsn
          clear hv hsn hpp
          obtain ⟨q, hq⟩ : ∃ q, (b : Int) / (p : Int) = q := ⟨_, rfl⟩
          have q0 : 0 ≤ q := by rw [← hq]; exact Int.ediv_nonneg (by omega) (by omega)
          have q1 : q ≤ 256 := by rw [← hq]; exact Int.le_trans (Int.ediv_le_self _ (by omega)) (by omega)
          have HQ := Lib.hid hq
          have i1 : (1 : Int) ≤ (p : Int) := by omega
          go_wp2_with (at_builtin; refine wpList_append_lies _ rfl _ _ 43 rfl w.heap.size 3 i0 (.int .i64 0) 1 8 Try.underlying43 hi0 hz0 hz1 hz2 rfl (by decide) _ _ _ rfl (hown.alloc _) ⟨wr.heap.size, 0, none⟩ 1 1 [.int .i64 (q % 2)] rfl rfl (cell_one_new _ _ _) (by simp [Value.oneCell']) (by omega) (by rw [maxLen_eq]; omega) (by omega) (Nat.le_trans hB.size (by simp)) _ rfl ?_; intro g cap w1 hown1 hgrow hat hlt1)
          have hB1 := (hB.alloc hB.size _).grown hgrow (by have := hB.size; simp; omega) (fun j hj => (hown.lt j hj).1)
          go_roundw
          case rel =>
            refine ⟨j + 1, p / 2, by omega, Lib.hid (by rw [HP.out, half_pow j hj]), by omega, ?_, ?_, hB1⟩
            · congr 1
            · rw [HSN.out, HQ.out]
              exact hown1
          case measure => simp only [intOf]; omega
        · obtain rfl : j = 8 := by omega
          obtain rfl : p = 0 := by rw [HP.out]
          go_wp2_with fail
          go_roundw
          case rel =>
            refine ⟨k + 1, by omega, by go_num, ?_, hB⟩
            rw [HT.out, HB.out]
            exact hown
          case measure => simp only [intOf]; omega
    · obtain rfl : k = s.size := by omega
      go_wp2
      go_ret
      refine ⟨_, rfl, ?_, hB⟩
      rw [List.take_of_length_le (by simp)] at hown
      exact hown
end Go.Proofs.Ytkopapiblihmmaa
