/- Texts as bytes, numbers of two and four bytes. No condition. -/
import Derived.Test.YtbibgffgljojgaaDoorPenL
namespace Go.Proofs.YtbibgffgljojgaaDoor

/-- A text's bytes. -/
def bytesI (s : ByteArray) : List Int := s.data.toList.map fun b => (b.toNat : Int)
def Bytes (l : List Int) : Prop := ∀ x ∈ l, 0 ≤ x ∧ x ≤ 255
theorem bytesI_ok (s : ByteArray) : Bytes (bytesI s) := fun x hx => by
  unfold bytesI at hx
  obtain ⟨b, _, rfl⟩ := List.mem_map.1 hx
  have := b.toNat_lt
  omega
theorem bytesI_len (s : ByteArray) : (bytesI s).length = s.size := by unfold bytesI; rw [List.length_map, Array.length_toList]; rfl
theorem bytesI_str {l : List Int} (h : Bytes l) : bytesI (strOfNums l) = l := by
  unfold bytesI
  rw [strOfNums_data, List.map_map]
  conv => rhs; rw [← List.map_id l]
  refine List.map_congr_left fun x hx => ?_
  have := h x hx
  simp only [Function.comp, id]
  rw [UInt8.toNat_ofNat']
  omega
theorem str_bytesI (s : ByteArray) : strOfNums (bytesI s) = s := by
  apply ByteArray.ext
  apply Array.ext'
  rw [strOfNums_data]
  unfold bytesI
  rw [List.map_map]
  conv => rhs; rw [← List.map_id s.data.toList]
  refine List.map_congr_left fun x _ => ?_
  simp
theorem bytesI_inj {s t : ByteArray} (h : bytesI s = bytesI t) : s = t := by rw [← str_bytesI s, h, str_bytesI]
theorem bytesI_extract (s : ByteArray) (a b : Nat) : bytesI (s.extract a b) = ((bytesI s).take b).drop a := by
  unfold bytesI
  rw [ByteArray.data_extract, Array.toList_extract, List.extract_eq_take_drop, ← List.map_take, ← List.map_drop, List.drop_take]
theorem bytesI_drop (s : ByteArray) (n : Nat) : bytesI (s.extract n s.size) = (bytesI s).drop n := by
  rw [bytesI_extract, List.take_of_length_le (by rw [bytesI_len]; exact Nat.le_refl _)]
theorem bytesI_app (s t : ByteArray) : bytesI (s ++ t) = bytesI s ++ bytesI t := by
  unfold bytesI
  rw [← List.map_append]
  congr 1
theorem numS_two {s : ByteArray} {a b : Int} {r : List Int} (h : bytesI s = a :: b :: r) : (numS s 2 : Int) = 256 * a + b := by
  unfold bytesI at h
  match hs : s.data.toList, h with
  | x :: y :: t, h =>
    simp only [List.map_cons, List.cons.injEq] at h
    obtain ⟨rfl, rfl, _⟩ := h
    simp [numS, hs]
    omega
theorem numS_four {s : ByteArray} {a b c d : Int} {r : List Int} (h : bytesI s = a :: b :: c :: d :: r) : (numS s 4 : Int) = 16777216 * a + 65536 * b + 256 * c + d := by
  unfold bytesI at h
  match hs : s.data.toList, h with
  | x :: y :: z :: u :: t, h =>
    simp only [List.map_cons, List.cons.injEq] at h
    obtain ⟨rfl, rfl, rfl, rfl, _⟩ := h
    simp [numS, hs]
    omega
theorem beI_two (x : Int) : beI x 2 = [x / 256 % 256, x % 256] := beI2 x
theorem beI_four (x : Int) : beI x 4 = [x / 16777216 % 256, x / 65536 % 256, x / 256 % 256, x % 256] := by simp [beI, List.range_succ]
theorem beI_bytes (x : Int) (n : Nat) : Bytes (beI x n) := fun y hy => by
  unfold beI at hy
  obtain ⟨i, _, rfl⟩ := List.mem_map.1 hy
  omega
theorem Bytes.append {l m : List Int} (h : Bytes l) (k : Bytes m) : Bytes (l ++ m) := fun x hx => by
  rcases List.mem_append.1 hx with h1 | h1
  · exact h x h1
  · exact k x h1
theorem be2_num {a b : Int} (ha : 0 ≤ a ∧ a ≤ 255) (hb : 0 ≤ b ∧ b ≤ 255) : beI (256 * a + b) 2 = [a, b] := by
  rw [beI_two]
  congr 1
  · omega
  · congr 1; omega
theorem be4_num {a b c d : Int} (ha : 0 ≤ a ∧ a ≤ 255) (hb : 0 ≤ b ∧ b ≤ 255) (hc : 0 ≤ c ∧ c ≤ 255) (hd : 0 ≤ d ∧ d ≤ 255) : beI (16777216 * a + 65536 * b + 256 * c + d) 4 = [a, b, c, d] := by
  rw [beI_four]
  congr 1
  · omega
  · congr 1
    · omega
    · congr 1
      · omega
      · congr 1; omega
end Go.Proofs.YtbibgffgljojgaaDoor
