/- The statement CrcLinear, walked: it returns true. No condition but the frame's. -/
import Derived.Test.YtkopapiblihmmaaCrc4
import Derived.RegionTactic
import Derived.Laws.BytesArg
import Derived.OwnWalk
import Derived.Deep.DeepCutAuto
import Derived.Deep.RegionHeld3
namespace Go.Proofs.Ytkopapiblihmmaa
open Go.RowKit
attribute [local go_sem ↓] Go.wp_at_zero Go.wp_at_succ

/-- A row of numbers. -/
def rowF (k : IntKind) (n : Nat) (f : Nat → Int) : Array Value := ((List.range n).map fun i => Value.int k (f i)).toArray
theorem rowF_size (k : IntKind) (n : Nat) (f : Nat → Int) : (rowF k n f).size = n := by simp [rowF]
theorem rowF_get (k : IntKind) (n : Nat) (f : Nat → Int) (i : Nat) (h : i < n) : (rowF k n f)[i]? = some (.int k (f i)) := by
  simp [rowF, h]
theorem rowF_set (k : IntKind) (n : Nat) (f : Nat → Int) (i : Nat) (x : Int) : (rowF k n f).setIfInBounds i (.int k x) = rowF k n (fun j => if j = i then x else f j) := by
  apply Array.ext_getElem?
  intro j
  rw [Array.getElem?_setIfInBounds, rowF_size]
  by_cases hj : j < n
  · rw [rowF_get _ _ _ _ hj, rowF_get _ _ _ _ hj]
    by_cases h : i = j
    · subst h; simp [hj]
    · rw [if_neg h, if_neg (Ne.symm h)]
  · have h1 : (rowF k n f)[j]? = none := Array.getElem?_eq_none (by rw [rowF_size]; omega)
    have h2 : ∀ g, (rowF k n g)[j]? = none := fun g => Array.getElem?_eq_none (by rw [rowF_size]; omega)
    rw [h1, h2]
    by_cases h : i = j
    · subst h; simp [hj]
    · rw [if_neg h]
theorem rowF_congr (k : IntKind) (n : Nat) (f g : Nat → Int) (h : ∀ i, i < n → f i = g i) : rowF k n f = rowF k n g := by
  apply Array.ext_getElem?
  intro j
  by_cases hj : j < n
  · rw [rowF_get _ _ _ _ hj, rowF_get _ _ _ _ hj, h j hj]
  · rw [Array.getElem?_eq_none (by rw [rowF_size]; omega), Array.getElem?_eq_none (by rw [rowF_size]; omega)]
theorem madeF (n : Nat) : madeCells #[.int .u8 0] n = rowF .u8 n (fun _ => 0) := by
  have h := toList_madeCells_one (.int .u8 0) n
  apply Array.ext'
  rw [h]
  simp [rowF, List.map_const']

theorem zip_bits (x y : Nat) : bitsN (x ^^^ y) = List.zipWith (· ^^ ·) (bitsN x) (bitsN y) := by
  unfold bitsN
  simp only [List.zipWith_cons_cons, List.zipWith_nil_left, Nat.testBit_xor]
theorem zip_bitsL : ∀ (l m : List UInt8), l.length = m.length → bitsL (List.zipWith (· ^^^ ·) l m) = List.zipWith (· ^^ ·) (bitsL l) (bitsL m)
  | [], [], _ => rfl
  | x :: l, y :: m, h => by
    rw [List.zipWith_cons_cons, bitsL_cons, bitsL_cons, bitsL_cons, zip_bitsL l m (by simpa using h), List.zipWith_append (by rfl)]
    congr 1
    rw [UInt8.toNat_xor, zip_bits]
theorem remL_xor (l m : List UInt8) (h : l.length = m.length) : remL 0#32 (List.zipWith (· ^^^ ·) l m) = remL 0#32 l ^^^ remL 0#32 m := by
  unfold remL
  rw [zip_bitsL l m h, ← remB_xor _ _ _ _ (by rw [bitsL_len, bitsL_len, h])]
  rfl

theorem heap_alloc_if (w : World) (o : Obj) (i : Nat) : (w.alloc o).heap[i]? = if i = w.heap.size then some o else w.heap[i]? := by
  show (w.heap.push o)[i]? = _
  rw [Array.getElem?_push]
theorem Blk.top {w : World} {g : Nat} {t : TypeId} {cs : Array Value} (h : g = w.heap.size) : Blk (w.alloc (.cells cs t)) g t cs := by subst h; exact Blk.new _ _ _
theorem heap_drew (w : World) : w.drew.heap = w.heap := rfl
theorem crc_RemB (g : Nat) (t : TypeId) (s : ByteArray) (r : BitVec 32) (w : World) (hb : Blk w g t #[.string s]) (hs : s.size ≤ 100000) (h : remL 0#32 s.data.toList = r) :
    Calls Try.prog 11 #[.slice (some ⟨g, 0, none⟩) 1 1] w fun e w' => e = .returned (.int .u32 (r.toNat : Int)) ∧ w = w' :=
  crc_Rem _ 1 1 (fun _ => s) r w (SliceOf.lit1 hb) (fun _ _ => by rw [maxLen_eq]; omega) (by rw [texts_one, h])
theorem linear_data (a b : ByteArray) (n : Nat) (ha : n ≤ a.size) (hb : n ≤ b.size) (f : Nat → Int) (hf : ∀ i, i < n → ∃ (ha : i < a.size) (hb : i < b.size), f i = ((a[i] ^^^ b[i]).toNat : Int)) :
    (strOfNums ((List.range n).map f)).data.toList = List.zipWith (· ^^^ ·) (a.extract 0 n).data.toList (b.extract 0 n).data.toList := by
  have la : a.data.size = a.size := rfl
  have lb : b.data.size = b.size := rfl
  rw [strOfNums_data]
  apply List.ext_getElem
  · simp; omega
  · intro i h1 h2
    have hi : i < n := by simpa using h1
    obtain ⟨p, q, e⟩ := hf i hi
    simp only [List.getElem_map, List.getElem_range, List.getElem_zipWith, e]
    simp
    rfl
set_option maxHeartbeats 8000000 in
theorem CrcLinear_walk (a0 : ByteArray) (a1 : ByteArray) (w : World) (a0w : a0.size ≤ maxLen) (a1w : a1.size ≤ maxLen) :
    Calls Try.prog 5 #[.string a0, .string a1] w fun e w' => e = .returned (.bool true) ∧ Below w.heap.size w w' := by
  obtain ⟨i0, hi0, hz0, hz1, hz2⟩ := info_parts (show (Try.prog.info? 5).map (fun i => (i.zero, i.size, i.bytes)) = some (some (.int .u8 0), 1, 1) by kernel_rfl)
  obtain ⟨a, ha⟩ : ∃ a, cutB a0 60 = a := ⟨_, rfl⟩
  obtain ⟨b, hb⟩ : ∃ b, cutB a1 60 = b := ⟨_, rfl⟩
  have sa : a.size ≤ 60 := by rw [← ha]; exact (cutB_size a0 60).1
  have sb : b.size ≤ 60 := by rw [← hb]; exact (cutB_size a1 60).1
  have HA := Lib.hid (fun W => law02_Cut a0 a 60 a0w (by omega) ha W)
  have HB := Lib.hid (fun W => law02_Cut a1 b 60 a1w (by omega) hb W)
  clear ha hb a0w a1w
  have hcase : ∃ n : Nat, (b.size = n ∧ n < a.size) ∨ (a.size = n ∧ n ≤ b.size) := by
    rcases Nat.lt_or_ge b.size a.size with h | h
    · exact ⟨b.size, .inl ⟨rfl, h⟩⟩
    · exact ⟨a.size, .inr ⟨rfl, h⟩⟩
  obtain ⟨n, hcase⟩ := hcase
  have hn60 : n ≤ 60 := by omega
  have hna : n ≤ a.size := by omega
  have hnb : n ≤ b.size := by omega
  have hmk : ∀ W : World, (Instr.makeSlice 33 (.int .i64 (n : Int)) (.int .i64 (n : Int))).run Try.prog W = .ok (.slice (some ⟨W.heap.size, 0, none⟩) n n) (W.alloc (.cells (rowF .u8 n (fun _ => 0)) 5)) := fun W => by
    have h := run_make (P := Try.prog) W 33 5 i0 (.int .u8 0) Try.underlying33 hi0 hz0 .i64 .i64 (n : Int) (n : Int) (by omega) (by omega) (by rw [hz2]; omega) (by omega)
    simp only [Int.toNat_natCast] at h
    rw [h, hz1, Nat.mul_one]
    show _ = Result.ok _ (W.alloc (.cells (rowF .u8 n (fun _ => 0)) 5))
    rw [← madeF]
    rfl
  have Hna := Lib.hid hna
  have Hnb := Lib.hid hnb
  have HMK := Lib.hid hmk
  clear hmk
  have htail : ∀ (w1 : World) (g : Nat) (f : Nat → Int), True := fun _ _ _ => trivial
  clear htail
  rcases hcase with ⟨hbn, hlt⟩ | ⟨hbn, hlt⟩
  all_goals
    go_enter Try.func5, Try.ntmps5
    go_wp2_with fail
    refine (law02_awake _).mono ?_
    rintro e w1 ⟨rfl, hb1⟩
    go_wp2_with fail
    refine (HA.out _).mono ?_
    rintro e w' ⟨rfl, rfl⟩
    go_wp2_with fail
    refine (HB.out _).mono ?_
    rintro e w' ⟨rfl, rfl⟩
    have hmk := HMK.out
    go_wp2_with fail
    clear hmk
    have k1 := Blk.new w1 5 (rowF .u8 n (fun _ => 0))
    have B1 : Below w.heap.size w (w1.alloc (.cells (rowF .u8 n (fun _ => 0)) 5)) := hb1.alloc hb1.size _
    have l1 : w.heap.size ≤ w1.heap.size := hb1.size
    generalize w1.heap.size = g at *
    generalize w1.alloc (.cells (rowF .u8 n (fun _ => 0)) 5) = w2 at *
    clear hb1
    go_loopw [22] (fun i wr => ∃ (k : Nat) (f : Nat → Int), k ≤ n ∧ i = .int .i64 k ∧ Blk wr g 5 (rowF .u8 n f) ∧ Hid (∀ i, i < k → ∃ (ha : i < a.size) (hb : i < b.size), f i = ((a[i] ^^^ b[i]).toNat : Int)) ∧ Below w.heap.size w wr) (fun i _ => n - (intOf i).toNat)
    case atStart => exact ⟨0, fun _ => 0, by omega, rfl, k1, Lib.hid (fun i hi => absurd hi (by omega)), B1⟩
    case round =>
      clear k1 B1
      obtain ⟨k, f, hk, rfl, kb, HF, hB⟩ := hrel
      by_cases hlt2 : k < n
      · have ka : k < a.size := by omega
        have kbb : k < b.size := by have := Hnb.out; omega
        have c0 := kb.cell k
        have f0 := kb.frozen k
        rw [rowF_get _ _ _ _ hlt2] at c0
        have hx : bits .xor .u8 (a[k].toNat : Int) (b[k].toNat : Int) = ((a[k] ^^^ b[k]).toNat : Int) := by
          rw [u8_xor_nat _ _ a[k].toNat_lt b[k].toNat_lt, UInt8.toNat_xor]
        have i1 : (0 : Int) ≤ (k : Int) := by omega
        have i2 : (k : Int) < (n : Int) := by omega
        go_upto_region 9 with fail
        go_region
        go_wp2_with fail
        go_roundw
        case rel =>
          refine ⟨k + 1, fun j => if j = k then ((a[k] ^^^ b[k]).toNat : Int) else f j, by omega, by go_num, ?_, Lib.hid ?_, (hB.setCell l1 _).drew⟩
          · have := kb.set_ k (.int .u8 ((a[k] ^^^ b[k]).toNat : Int))
            rw [rowF_set] at this
            rw [← UInt8.toNat_xor]
            exact this
          · intro i hi
            simp only
            by_cases h : i = k
            · subst h
              exact ⟨ka, kbb, by rw [if_pos rfl]⟩
            · rw [if_neg h]
              exact HF.out i (by omega)
        case measure => simp only [intOf]; omega
      · obtain rfl : k = n := by omega
        obtain ⟨A, hA⟩ : ∃ A, a.extract 0 k = A := ⟨_, rfl⟩
        obtain ⟨B, hBB⟩ : ∃ B, b.extract 0 k = B := ⟨_, rfl⟩
        obtain ⟨X, hX⟩ : ∃ X, strOfNums ((List.range k).map f) = X := ⟨_, rfl⟩
        obtain ⟨r1, hr1⟩ : ∃ r1, remL 0#32 A.data.toList = r1 := ⟨_, rfl⟩
        obtain ⟨r2, hr2⟩ : ∃ r2, remL 0#32 B.data.toList = r2 := ⟨_, rfl⟩
        have hrx : remL 0#32 X.data.toList = r1 ^^^ r2 := by
          rw [← hX, linear_data a b k hna hnb f HF.out, remL_xor _ _ (by simp; have : a.data.size = a.size := rfl; have : b.data.size = b.size := rfl; omega), hA, hBB, hr1, hr2]
        have hsz := hB.size
        have hzx : X.size ≤ 100000 := by rw [← hX, strOfNums_size]; simp; omega
        have hza : A.size ≤ 100000 := by rw [← hA]; simp; omega
        have hzb : B.size ≤ 100000 := by rw [← hBB]; simp; omega
        have hcv : ∀ W, Below wr.heap.size wr W → Below wr.heap.size wr W ∧ (convert 33 9 (.slice (some ⟨g, 0, none⟩) k k)).run Try.prog W = .ok (.string X) W := fun W hW => ⟨hW, by
          have kk := kb.below hW kb.lt
          rw [← hX]
          exact run_convert_bytes_arg (P := Try.prog) W 33 5 Try.underlying33 Try.underlying5 g 0 k k ((List.range k).map f) (by simp) (fun i hi => by
            rw [kk.cell, Nat.zero_add, rowF_get _ _ _ _ hi]
            simp [hi]) 9 Try.underlying9⟩
        have HCV := Lib.hid hcv
        have HX := Lib.hid (fun W g h => crc_RemB g 9 X _ W h hzx hrx)
        have HA2 := Lib.hid (fun W g h => crc_RemB g 9 A _ W h hza hr1)
        have HB2 := Lib.hid (fun W g h => crc_RemB g 9 B _ W h hzb hr2)
        have hxb := bv_xor r1 r2
        clear hcv hX hr1 hr2 hrx hzx hza hzb HF
        go_upto_region 11 with fail
        go_region_held3 (fun W => Below wr.heap.size wr W ∧ (convert 33 9 (.slice (some ⟨g, 0, none⟩) k k)).run Try.prog W = .ok (.string X) W) ((refine HCV.out _ ?_; (repeat (first | with_reducible assumption | with_reducible exact Below.refl _ _ | with_reducible refine Below.drew ?_ | with_reducible refine Below.setCell ?_ (by first | exact Nat.le_refl _ | exact Nat.le_add_right _ _ | assumption | omega | (simp; done) | (simp; omega)) _ | with_reducible refine Below.alloc ?_ (by first | exact Nat.le_refl _ | exact Nat.le_add_right _ _ | assumption | omega | (simp; done) | (simp; omega)) _ | refine Below.drew ?_ | refine Below.setCell ?_ (by first | exact Nat.le_refl _ | exact Nat.le_add_right _ _ | assumption | omega | (simp; done) | (simp; omega)) _ | refine Below.alloc ?_ (by first | exact Nat.le_refl _ | exact Nat.le_add_right _ _ | assumption | omega | (simp; done) | (simp; omega)) _)))) (first | (go_at_call 11; refine (HX.out _ _ ?_).mono ?_; (focus (refine Blk.drew ?_; repeat (first | (refine Blk.top ?_; simp; done) | refine Blk.alloc ?_ _))); rintro e w' ⟨rfl, rfl⟩) | (go_at_call 11; refine (HA2.out _ _ ?_).mono ?_; (focus (refine Blk.drew ?_; repeat (first | (refine Blk.top ?_; simp; done) | refine Blk.alloc ?_ _))); rintro e w' ⟨rfl, rfl⟩) | (go_at_call 11; refine (HB2.out _ _ ?_).mono ?_; (focus (refine Blk.drew ?_; repeat (first | (refine Blk.top ?_; simp; done) | refine Blk.alloc ?_ _))); rintro e w' ⟨rfl, rfl⟩))
        all_goals
          go_wp2_with fail
          go_ret
          refine ⟨rfl, hB.trans ?_⟩
          (repeat (first | with_reducible assumption | with_reducible exact Below.refl _ _ | with_reducible refine Below.drew ?_ | with_reducible refine Below.setCell ?_ (by first | exact Nat.le_refl _ | exact Nat.le_add_right _ _ | assumption | omega | (simp; done) | (simp; omega)) _ | with_reducible refine Below.alloc ?_ (by first | exact Nat.le_refl _ | exact Nat.le_add_right _ _ | assumption | omega | (simp; done) | (simp; omega)) _ | refine Below.drew ?_ | refine Below.setCell ?_ (by first | exact Nat.le_refl _ | exact Nat.le_add_right _ _ | assumption | omega | (simp; done) | (simp; omega)) _ | refine Below.alloc ?_ (by first | exact Nat.le_refl _ | exact Nat.le_add_right _ _ | assumption | omega | (simp; done) | (simp; omega)) _))
end Go.Proofs.Ytkopapiblihmmaa
