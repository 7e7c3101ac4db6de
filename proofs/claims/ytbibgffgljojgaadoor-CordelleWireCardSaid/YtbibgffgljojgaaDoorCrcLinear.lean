/- The statement CrcLinear, walked: it returns true. No condition but the frame's. -/
import Derived.Test.YtbibgffgljojgaaDoorCrc4
import Derived.RegionTactic
import Derived.Laws.BytesArg
import Derived.OwnWalk
import Derived.Deep.DeepCutAuto
import Derived.Deep.RegionHeld3
namespace Go.Proofs.YtbibgffgljojgaaDoor
open Go.RowKit
attribute [local go_sem ↓] Go.wp_at_zero Go.wp_at_succ

/-- A row of numbers. -/
def rowF (k : IntKind) (n : Nat) (f : Nat → Int) : Array Value := ((List.range n).map fun i => Value.int k (f i)).toArray
theorem rowF_size (k : IntKind) (n : Nat) (f : Nat → Int) : (rowF k n f).size = n := by simp [rowF]
theorem rowF_get (k : IntKind) (n : Nat) (f : Nat → Int) (i : Nat) (h : i < n) : (rowF k n f)[i]? = some (.int k (f i)) := by
  simp [rowF, h]
theorem rowF_set (k : IntKind) (n : Nat) (f : Nat → Int) (i : Nat) (x : Int) : (rowF k n f).setIfInBounds i (.int k x) = rowF k n (fun j => if j = i then x else f j) := by
  apply Array.ext_getElem?
  intro j
  rw [Array.getElem?_setIfInBounds, rowF_size]
  by_cases hj : j < n
  · rw [rowF_get _ _ _ _ hj, rowF_get _ _ _ _ hj]
    by_cases h : i = j
    · subst h; simp [hj]
    · rw [if_neg h, if_neg (Ne.symm h)]
  · have h1 : (rowF k n f)[j]? = none := Array.getElem?_eq_none (by rw [rowF_size]; omega)
    have h2 : ∀ g, (rowF k n g)[j]? = none := fun g => Array.getElem?_eq_none (by rw [rowF_size]; omega)
    rw [h1, h2]
    by_cases h : i = j
    · subst h; simp [hj]
    · rw [if_neg h]
theorem rowF_congr (k : IntKind) (n : Nat) (f g : Nat → Int) (h : ∀ i, i < n → f i = g i) : rowF k n f = rowF k n g := by
  apply Array.ext_getElem?
  intro j
  by_cases hj : j < n
  · rw [rowF_get _ _ _ _ hj, rowF_get _ _ _ _ hj, h j hj]
  · rw [Array.getElem?_eq_none (by rw [rowF_size]; omega), Array.getElem?_eq_none (by rw [rowF_size]; omega)]
theorem madeF (n : Nat) : madeCells #[.int .u8 0] n = rowF .u8 n (fun _ => 0) := by
  have h := toList_madeCells_one (.int .u8 0) n
  apply Array.ext'
  rw [h]
  simp [rowF, List.map_const']

theorem zip_bits (x y : Nat) : bitsN (x ^^^ y) = List.zipWith (· ^^ ·) (bitsN x) (bitsN y) := by
  unfold bitsN
  simp only [List.zipWith_cons_cons, List.zipWith_nil_left, Nat.testBit_xor]
theorem zip_bitsL : ∀ (l m : List UInt8), l.length = m.length → bitsL (List.zipWith (· ^^^ ·) l m) = List.zipWith (· ^^ ·) (bitsL l) (bitsL m)
  | [], [], _ => rfl
  | x :: l, y :: m, h => by
    rw [List.zipWith_cons_cons, bitsL_cons, bitsL_cons, bitsL_cons, zip_bitsL l m (by simpa using h), List.zipWith_append (by rfl)]
    congr 1
    rw [UInt8.toNat_xor, zip_bits]
theorem remL_xor (l m : List UInt8) (h : l.length = m.length) : remL 0#32 (List.zipWith (· ^^^ ·) l m) = remL 0#32 l ^^^ remL 0#32 m := by
  unfold remL
  rw [zip_bitsL l m h, ← remB_xor _ _ _ _ (by rw [bitsL_len, bitsL_len, h])]
  rfl

theorem heap_alloc_if (w : World) (o : Obj) (i : Nat) : (w.alloc o).heap[i]? = if i = w.heap.size then some o else w.heap[i]? := by
  show (w.heap.push o)[i]? = _
  rw [Array.getElem?_push]
theorem Blk.top {w : World} {g : Nat} {t : TypeId} {cs : Array Value} (h : g = w.heap.size) : Blk (w.alloc (.cells cs t)) g t cs := by subst h; exact Blk.new _ _ _
theorem heap_drew (w : World) : w.drew.heap = w.heap := rfl
theorem crc_RemB (g : Nat) (t : TypeId) (s : ByteArray) (r : BitVec 32) (w : World) (hb : Blk w g t #[.string s]) (hs : s.size ≤ 100000) (h : remL 0#32 s.data.toList = r) :
    Calls Tryd.prog 5 #[.slice (some ⟨g, 0, none⟩) 1 1] w fun e w' => e = .returned (.int .u32 (r.toNat : Int)) ∧ w = w' :=
  crc_Rem _ 1 1 (fun _ => s) r w (SliceOf.lit1 hb) (fun _ _ => by rw [maxLen_eq]; omega) (by rw [texts_one, h])
theorem linear_data (a b : ByteArray) (n : Nat) (ha : n ≤ a.size) (hb : n ≤ b.size) (f : Nat → Int) (hf : ∀ i, i < n → ∃ (ha : i < a.size) (hb : i < b.size), f i = ((a[i] ^^^ b[i]).toNat : Int)) :
    (strOfNums ((List.range n).map f)).data.toList = List.zipWith (· ^^^ ·) (a.extract 0 n).data.toList (b.extract 0 n).data.toList := by
  have la : a.data.size = a.size := rfl
  have lb : b.data.size = b.size := rfl
  rw [strOfNums_data]
  apply List.ext_getElem
  · simp; omega
  · intro i h1 h2
    have hi : i < n := by simpa using h1
    obtain ⟨p, q, e⟩ := hf i hi
    simp only [List.getElem_map, List.getElem_range, List.getElem_zipWith, e]
    simp
    rfl
end Go.Proofs.YtbibgffgljojgaaDoor
