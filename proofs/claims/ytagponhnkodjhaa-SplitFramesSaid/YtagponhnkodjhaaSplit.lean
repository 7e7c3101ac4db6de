/- Package split: Split, walked: the parts of a text. No condition but the text's length. -/
import Derived.Test.YtagponhnkodjhaaKit
import Derived.Deep.AppendLies
import Derived.Deep.DeepCutAuto
namespace Go.Proofs.Ytagponhnkodjhaa
open Go.RowKit BigFrame
attribute [local go_sem ↓] Go.wp_at_zero Go.wp_at_succ

/-- Part number i of a text, each of n bytes. -/
def partB (s : ByteArray) (n i : Nat) : ByteArray := s.extract (i * n) (min s.size (i * n + n))
/-- How many parts. -/
def countB (s : ByteArray) (n : Nat) : Nat := if s.size ≤ n then 1 else (s.size + n - 1) / n
def partCells (s : ByteArray) (n k : Nat) : List Value := (List.range k).map fun i => .string (partB s n i)
theorem partCells_succ (s : ByteArray) (n k : Nat) : partCells s n (k + 1) = partCells s n k ++ [.string (partB s n k)] := by
  unfold partCells; rw [List.range_succ, List.map_append]; rfl
theorem partCells_get (s : ByteArray) (n k i : Nat) (hi : i < k) : (partCells s n k)[i]? = some (.string (partB s n i)) := by
  unfold partCells; simp [hi]
theorem count_is (s : ByteArray) (n k : Nat) (hn : 0 < n) (h1 : k = 0 ∨ k * n < s.size) (h2 : s.size ≤ k * n + n) : countB s n = k + 1 := by
  unfold countB
  rcases k with _ | k
  · simp at h2; rw [if_pos h2]
  · have h1 : (k + 1) * n < s.size := by omega
    have hkn : n ≤ (k + 1) * n := Nat.le_mul_of_pos_left n (by omega)
    rw [if_neg (by omega)]
    have e : s.size + n - 1 = (s.size - 1 - (k + 1) * n) + (k + 1 + 1) * n := by rw [Nat.add_mul (k + 1)]; omega
    rw [e, Nat.add_mul_div_right _ _ hn, Nat.div_eq_of_lt (by omega)]
    omega
theorem rest_0 (s : ByteArray) (n : Nat) : s.extract (0 * n) s.size = s := by simp
theorem part_of_rest (s : ByteArray) (n k : Nat) (h : k * n + n ≤ s.size) : (s.extract (k * n) s.size).extract 0 n = partB s n k := by
  unfold partB
  rw [ByteArray.extract_extract]
  congr 1
  omega
theorem rest_of_rest (s : ByteArray) (n k : Nat) (h : k * n + n ≤ s.size) : (s.extract (k * n) s.size).extract n (s.extract (k * n) s.size).size = s.extract ((k + 1) * n) s.size := by
  rw [ByteArray.extract_extract, Nat.add_mul, Nat.one_mul]
  congr 1
  simp
  omega
theorem rest_last (s : ByteArray) (n k : Nat) (h : s.size ≤ k * n + n) : s.extract (k * n) s.size = partB s n k := by
  unfold partB
  congr 1
  omega
def OwnsRes (w : World) (E : TypeId) (n : Nat) (xs : List Value) (e : Ending) (w' : World) : Prop :=
  ∃ v, e = .returned v ∧ w'.ownsRow w.heap.size E 1 v n xs ∧ Below w.heap.size w w'

set_option maxHeartbeats 2000000 in
theorem split_Split (s : ByteArray) (z : Int) (n : Nat) (hs : s.size ≤ 100000) (hn : clipI z 1 1472 = (n : Int)) (hok : s.size ≤ n * 255) (w : World) :
    Calls Try.prog 9 #[.string s, .int .i64 z] w (OwnsRes w 9 (countB s n) (partCells s n (countB s n))) := by
  obtain ⟨i0, hi0, hz0, hz1, hz2⟩ := info_parts (show (Try.prog.info? 9).map (fun i => (i.zero, i.size, i.bytes)) = some (some (.string ByteArray.empty), 1, 16) by kernel_rfl)
  have hb := clip_bd z 1 1472 (by omega)
  rw [hn] at hb
  obtain ⟨m, hm⟩ : ∃ m, (if 1472 < z then 1472 else z) = m := ⟨_, rfl⟩
  have hm2 : (if 1 < m then m else 1) = (n : Int) := by rw [← hn, ← hm]; unfold clipI; split <;> split <;> omega
  have wn : IntKind.i64.wrap ((n : Int) * 255) = (n : Int) * 255 := IntWalk.i64_in _ (by omega)
  have j1 : decide ((n : Int) * 255 < (s.size : Int)) = false := by simp; omega
  obtain ⟨b1, b2⟩ := hb
  clear hn
  go_enter Try.func9, Try.ntmps9
  go_wp2_with fail
  go_loopw [0, 5] (fun x0 x5 wr => ∃ k : Nat, (k = 0 ∨ k * n < s.size) ∧ k ≤ 100000 ∧ x0 = .string (s.extract (k * n) s.size) ∧ wr.ownsRow w.heap.size 9 1 x5 k (partCells s n k) ∧ Below w.heap.size w wr) (fun x0 _ _ => match x0 with | .string t => t.size | _ => 0)
  case atStart => exact ⟨0, .inl rfl, by omega, by rw [rest_0], ⟨rfl, .inl ⟨rfl, rfl⟩⟩, Below.refl _ _⟩
  case round =>
    obtain ⟨k, hk, hk2, rfl, own, B⟩ := hrel
    obtain ⟨t, ht⟩ : ∃ t, s.extract (k * n) s.size = t := ⟨_, rfl⟩
    have hts : t.size = s.size - k * n := by rw [← ht]; simp
    have hkn : k * n ≤ s.size := by
      rcases hk with rfl | hk
      · simp
      · omega
    have hkk : k ≤ k * n := Nat.le_mul_of_pos_right k (by omega)
    rw [ht]
    by_cases hmore : n < t.size
    · have h1 : k * n + n ≤ s.size := by omega
      have e1 : t.extract 0 n = partB s n k := by rw [← ht]; exact part_of_rest s n k h1
      have e2 : t.extract n t.size = s.extract ((k + 1) * n) s.size := by rw [← ht]; exact rest_of_rest s n k h1
      have hk1 : (k + 1) * n < s.size := by rw [Nat.add_mul]; omega
      have E1 := Lib.hid e1
      have E2 := Lib.hid e2
      have j2 : (n : Int) < (t.size : Int) := by omega
      have j3 : (0 : Int) ≤ (n : Int) := by omega
      have j4 : (n : Int) ≤ (t.size : Int) := by omega
      have hts2 : t.size ≤ 100000 := by omega
      clear ht e1 e2 h1 hkn
      go_wp2_with (at_builtin; refine wpList_append_lies _ rfl _ _ 24 rfl w.heap.size 9 i0 (.string ByteArray.empty) 1 16 Try.underlying24 hi0 hz0 hz1 hz2 rfl (by decide) _ _ _ rfl (own.alloc _) ⟨wr.heap.size, 0, none⟩ 1 1 [.string (t.extract 0 n)] rfl rfl (cell_one_new _ _ _) (by simp [Value.oneCell']) (by omega) (by rw [maxLen_eq]; omega) (by omega) (Nat.le_trans B.size (by simp)) _ rfl ?_; intro g2 cap w1 own1 hgrow hat hlt1)
      have hB1 := (B.alloc B.size _).grown hgrow (by have := B.size; simp; omega) (fun j hj => (own.lt j hj).1)
      go_roundw
      case rel =>
        refine ⟨k + 1, .inr hk1, by omega, ?_, ?_, hB1⟩
        · rw [← E2.out, hts]
        · rw [partCells_succ, ← E1.out]; exact own1
      case measure => simp; omega
    · have h1 : s.size ≤ k * n + n := by omega
      have hc : countB s n = k + 1 := count_is s n k (by omega) hk h1
      have e1 : t = partB s n k := by rw [← ht]; exact rest_last s n k h1
      have E1 := Lib.hid e1
      have HC := Lib.hid hc
      have j2 : ¬ (n : Int) < (t.size : Int) := by omega
      clear ht e1 h1 hc hkn
      go_wp2_with (at_builtin; refine wpList_append_lies _ rfl _ _ 24 rfl w.heap.size 9 i0 (.string ByteArray.empty) 1 16 Try.underlying24 hi0 hz0 hz1 hz2 rfl (by decide) _ _ _ rfl (own.alloc _) ⟨wr.heap.size, 0, none⟩ 1 1 [.string t] rfl rfl (cell_one_new _ _ _) (by simp [Value.oneCell']) (by omega) (by rw [maxLen_eq]; omega) (by omega) (Nat.le_trans B.size (by simp)) _ rfl ?_; intro g2 cap w1 own1 hgrow hat hlt1)
      have hB1 := (B.alloc B.size _).grown hgrow (by have := B.size; simp; omega) (fun j hj => (own.lt j hj).1)
      go_ret
      refine ⟨_, rfl, ?_, hB1⟩
      rw [HC.out, partCells_succ, ← E1.out]
      exact own1
set_option maxHeartbeats 1000000 in
theorem split_SplitNo (s : ByteArray) (z : Int) (n : Nat) (hs : s.size ≤ 100000) (hn : clipI z 1 1472 = (n : Int)) (hok : n * 255 < s.size) (w : World) :
    Calls Try.prog 9 #[.string s, .int .i64 z] w fun e w' => e = .returned (.slice none 0 0) ∧ w = w' := by
  have hb := clip_bd z 1 1472 (by omega)
  rw [hn] at hb
  obtain ⟨m, hm⟩ : ∃ m, (if 1472 < z then 1472 else z) = m := ⟨_, rfl⟩
  have hm2 : (if 1 < m then m else 1) = (n : Int) := by rw [← hn, ← hm]; unfold clipI; split <;> split <;> omega
  have wn : IntKind.i64.wrap ((n : Int) * 255) = (n : Int) * 255 := IntWalk.i64_in _ (by omega)
  have j1 : decide ((n : Int) * 255 < (s.size : Int)) = true := by simp; omega
  clear hn hok
  go_enter Try.func9, Try.ntmps9
  go_wp2_with fail
  go_ret
  exact ⟨rfl, rfl⟩

set_option maxHeartbeats 2000000 in
theorem ref23_Split (s : ByteArray) (z : Int) (n : Nat) (hs : s.size ≤ 100000) (hn : clipI z 1 1472 = (n : Int)) (hok : s.size ≤ n * 255) (w : World) :
    Calls Try.prog 10 #[.string s, .int .i64 z] w (OwnsRes w 9 (countB s n) (partCells s n (countB s n))) := by
  obtain ⟨i0, hi0, hz0, hz1, hz2⟩ := info_parts (show (Try.prog.info? 9).map (fun i => (i.zero, i.size, i.bytes)) = some (some (.string ByteArray.empty), 1, 16) by kernel_rfl)
  have hb := clip_bd z 1 1472 (by omega)
  rw [hn] at hb
  obtain ⟨m, hm⟩ : ∃ m, (if 1472 < z then 1472 else z) = m := ⟨_, rfl⟩
  have hm2 : (if 1 < m then m else 1) = (n : Int) := by rw [← hn, ← hm]; unfold clipI; split <;> split <;> omega
  have w1 : IntKind.i64.wrap ((s.size : Int) + (n : Int)) = (s.size : Int) + (n : Int) := IntWalk.i64_in _ (by omega)
  have w2 : IntKind.i64.wrap ((s.size : Int) + (n : Int) - 1) = (s.size : Int) + (n : Int) - 1 := IntWalk.i64_in _ (by omega)
  have n0 : ¬ ((n : Int) = 0) := by omega
  obtain ⟨b1, b2⟩ := hb
  obtain ⟨c, hc⟩ : ∃ c, countB s n = c := ⟨_, rfl⟩
  obtain ⟨q, hq⟩ : ∃ q, (s.size + n - 1) / n = q := ⟨_, rfl⟩
  have hqi : ((s.size : Int) + (n : Int) - 1) / (n : Int) = (q : Int) := by
    rw [← hq]
    have : ((s.size + n - 1 : Nat) : Int) = (s.size : Int) + (n : Int) - 1 := by omega
    rw [← this]
    exact (Int.natCast_ediv _ _).symm
  have hq2 : (if (1 : Int) < (q : Int) then (q : Int) else 1) = (c : Int) := by
    rw [← hc, ← hq]
    unfold countB
    by_cases h : s.size ≤ n
    · rw [if_pos h]
      have : (s.size + n - 1) / n ≤ 1 := by
        rw [Nat.div_le_iff_le_mul_add_pred (by omega)]
        omega
      split <;> omega
    · rw [if_neg h]
      have : 1 ≤ (s.size + n - 1) / n := (Nat.le_div_iff_mul_le (by omega)).2 (by omega)
      split <;> omega
  have hcb : 1 ≤ c ∧ (c = 1 ∨ (c - 1) * n < s.size) ∧ s.size ≤ c * n := by
    rw [← hc]
    unfold countB
    by_cases h : s.size ≤ n
    · rw [if_pos h]; omega
    · rw [if_neg h]
      have h1 : 1 ≤ (s.size + n - 1) / n := (Nat.le_div_iff_mul_le (by omega)).2 (by omega)
      have h2 := Nat.div_add_mod (s.size + n - 1) n
      have h3 := Nat.mod_lt (s.size + n - 1) (show 0 < n by omega)
      rw [Nat.mul_comm] at h2
      refine ⟨h1, .inr ?_, by omega⟩
      rw [Nat.sub_mul]
      omega
  have hc255 : c ≤ 255 := by
    rcases hcb.2.1 with h | h
    · omega
    · have : (c - 1) * n < 255 * n := by omega
      have := Nat.lt_of_mul_lt_mul_right this
      omega
  have HCB := Lib.hid hcb
  have HC := Lib.hid hc
  clear hn hcb hc hq
  go_enter Try.func10, Try.ntmps10
  go_wp2_with fail
  clear hqi hq2
  go_loopw [7, 8] (fun x7 x8 wr => ∃ k : Nat, k ≤ c ∧ x8 = .int .i64 k ∧ wr.ownsRow w.heap.size 9 1 x7 k (partCells s n k) ∧ Below w.heap.size w wr) (fun _ x8 _ => c - (intOf x8).toNat)
  case atStart =>
    refine ⟨0, by omega, rfl, ?_, ?_⟩
    · exact ⟨by simp [partCells], .inr ⟨w.heap.size, 0, #[], rfl, Nat.le_refl _, heap_alloc_new w _, Nat.le_refl _, Nat.zero_le _, rfl, by simp [partCells]⟩⟩
    · exact (Below.refl _ _).alloc (Nat.le_refl _) _
  case round =>
    obtain ⟨k, hk, rfl, own, B⟩ := hrel
    by_cases hlt : k < c
    · have hkn : k * n + n ≤ s.size ∨ k + 1 = c := by
        obtain ⟨h1, h2, h3⟩ := HCB.out
        by_cases he : k + 1 = c
        · exact .inr he
        · have : (k + 1) * n ≤ (c - 1) * n := Nat.mul_le_mul_right n (by omega)
          rw [Nat.add_mul] at this
          rcases h2 with h2 | h2 <;> omega
      have hkl : k * n ≤ s.size := by
        obtain ⟨h1, h2, h3⟩ := HCB.out
        have : k * n ≤ (c - 1) * n := Nat.mul_le_mul_right n (by omega)
        rcases h2 with h2 | h2
        · have : k = 0 := by omega
          subst this; simp
        · omega
      obtain ⟨a, ha⟩ : ∃ a, k * n = a := ⟨_, rfl⟩
      obtain ⟨b, hb⟩ : ∃ b, min s.size (k * n + n) = b := ⟨_, rfl⟩
      have hp : partB s n k = s.extract a b := by unfold partB; rw [hb, ha]
      have hai : (k : Int) * (n : Int) = (a : Int) := by rw [← ha]; simp
      have wa : IntKind.i64.wrap ((k : Int) * (n : Int)) = (a : Int) := by rw [hai]; exact IntWalk.i64_in _ (by omega)
      have wb : IntKind.i64.wrap ((a : Int) + (n : Int)) = (a : Int) + (n : Int) := IntWalk.i64_in _ (by omega)
      have hbi : (if (a : Int) + (n : Int) < (s.size : Int) then (a : Int) + (n : Int) else (s.size : Int)) = (b : Int) := by rw [← hb, ha]; split <;> omega
      have j1 : (k : Int) < (c : Int) := by omega
      have j2 : (a : Int) ≤ (b : Int) := by omega
      have j3 : (b : Int) ≤ (s.size : Int) := by omega
      have j4 : (0 : Int) ≤ (a : Int) := by omega
      have wk : IntKind.i64.wrap ((k : Int) + 1) = ((k + 1 : Nat) : Int) := by rw [IntWalk.i64_in _ (by omega)]; omega
      have HP := Lib.hid hp
      clear hp ha hb hkn hkl hai
      go_wp2_with (at_builtin; refine wpList_append_lies _ rfl _ _ 24 rfl w.heap.size 9 i0 (.string ByteArray.empty) 1 16 Try.underlying24 hi0 hz0 hz1 hz2 rfl (by decide) _ _ _ rfl (own.alloc _) ⟨wr.heap.size, 0, none⟩ 1 1 [.string (s.extract a b)] rfl rfl (cell_one_new _ _ _) (by simp [Value.oneCell']) (by omega) (by rw [maxLen_eq]; omega) (by omega) (Nat.le_trans B.size (by simp)) _ rfl ?_; intro g2 cap w1 own1 hgrow hat hlt1)
      have hB1 := (B.alloc B.size _).grown hgrow (by have := B.size; simp; omega) (fun j hj => (own.lt j hj).1)
      go_roundw
      case rel => exact ⟨k + 1, by omega, by go_num, by rw [partCells_succ, HP.out]; exact own1, hB1⟩
      case measure => simp only [intOf]; omega
    · obtain rfl : k = c := by omega
      have j1 : ¬ (k : Int) < (k : Int) := by omega
      go_wp2_with fail
      go_ret
      refine ⟨_, rfl, ?_, B⟩
      rw [HC.out]
      exact own
end Go.Proofs.Ytagponhnkodjhaa
