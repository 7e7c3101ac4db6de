/- Laws of bytes written and read. No condition but the sizes. -/
import Derived.Test.YtbibgffgljojgaaDoorPen3
namespace Go.Proofs.YtbibgffgljojgaaDoor
open Go.RowKit BigFrame
attribute [local go_sem ↓] Go.wp_at_zero Go.wp_at_succ

theorem beI2 (x : Int) : beI x 2 = [x / 256 % 256, x % 256] := by
  simp [beI, List.range_succ]
theorem beAll_split (ns : Nat → Int) (size k : Nat) : ∀ K, k < K → ∃ rest, beAll ns size K = beAll ns size k ++ (beI (ns k % 4294967296) size ++ rest)
  | 0, h => absurd h (by omega)
  | K + 1, h => by
    rcases Nat.lt_or_ge k K with h1 | h1
    · obtain ⟨rest, e⟩ := beAll_split ns size k K h1
      exact ⟨rest ++ beI (ns K % 4294967296) size, by rw [beAll_succ, e]; simp [List.append_assoc]⟩
    · obtain rfl : k = K := by omega
      exact ⟨[], by rw [beAll_succ, List.append_nil]⟩
theorem strOfNums_drop (l : List Int) (n : Nat) : (strOfNums l).extract n (strOfNums l).size = strOfNums (l.drop n) := by
  apply ByteArray.ext
  apply Array.ext'
  rw [ByteArray.data_extract, Array.toList_extract, strOfNums_data, strOfNums_data]
  rw [strOfNums_size]
  simp [List.extract_eq_take_drop, List.map_drop, List.take_of_length_le]
theorem numS2 (l rest : List Int) (x : Int) (h : l = beI x 2 ++ rest) : (numS (strOfNums l) 2 : Int) = x % 65536 := by
  subst h
  rw [beI2]
  simp only [numS, strOfNums_data, List.cons_append, List.map_cons, List.getD_cons_zero, List.getD_cons_succ]
  have e1 : (UInt8.ofNat (x / 256 % 256).toNat).toNat = (x / 256 % 256).toNat := by simp; omega
  have e2 : (UInt8.ofNat (x % 256).toNat).toNat = (x % 256).toNat := by simp; omega
  rw [e1, e2]
  omega
theorem SliceOf.litP {w : World} {g : Nat} {t : TypeId} {v : Value} (h : Blk w g t #[v]) : SliceOf w (some ⟨g, 0, none⟩) 1 1 1 (fun _ => [v]) := by
  refine ⟨Nat.le_refl _, by rw [maxLen_eq]; omega, fun _ => ⟨g, 0, rfl, h.lt, fun i hi j u hu => ?_⟩⟩
  obtain rfl : i = 0 := by omega
  match j, hu with
  | 0, hu =>
    simp at hu
    subst hu
    have := h.cell 0
    simpa using this
end Go.Proofs.YtbibgffgljojgaaDoor
