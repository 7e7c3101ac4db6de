/- The statements' Cut and Few, walked. No condition but the texts' lengths. -/
import Derived.Test.YtomhnegfemdcdaaKit
import Derived.Deep.AppendLies
namespace Go.Proofs.Ytomhnegfemdcdaa
open Go.RowKit
attribute [local go_sem ↓] Go.wp_at_zero Go.wp_at_succ

theorem SliceOf.lit {w : World} {g : Nat} {t : TypeId} {cs : Array Value} {n : Nat} (h : Blk w g t cs) (hn : cs.size = n) (hm : n ≤ 1000) (E : Nat → Value) (hE : ∀ i, i < n → cs[i]? = some (E i)) :
    SliceOf w (some ⟨g, 0, none⟩) n n 1 (fun i => [E i]) := by
  refine ⟨Nat.le_refl _, by rw [maxLen_eq]; omega, fun hp => ⟨g, 0, rfl, h.lt, fun i hi j v hv => ?_⟩⟩
  match j, hv with
  | 0, hv =>
    simp at hv
    subst hv
    have := h.cell i
    simp only [Nat.mul_one, Nat.add_zero, Nat.zero_add]
    rw [this]
    exact hE i hi
theorem SliceOf.lit1 {w : World} {g : Nat} {t : TypeId} {v : Value} (h : Blk w g t #[v]) : SliceOf w (some ⟨g, 0, none⟩) 1 1 1 (fun _ => [v]) :=
  SliceOf.lit (n := 1) h rfl (by decide) (fun _ => v) (fun i hi => by
    obtain rfl : i = 0 := by omega
    rfl)
theorem SliceOf.lit2 {w : World} {g : Nat} {t : TypeId} {a b : Value} (h : Blk w g t #[a, b]) : SliceOf w (some ⟨g, 0, none⟩) 2 2 1 (fun i => [if i = 0 then a else b]) :=
  SliceOf.lit (n := 2) h rfl (by decide) (fun i => if i = 0 then a else b) (fun i hi => by
    match i, hi with
    | 0, _ => rfl
    | 1, _ => rfl)
def OwnsRes (w : World) (E : TypeId) (n : Nat) (xs : List Value) (e : Ending) (w' : World) : Prop :=
  ∃ v, e = .returned v ∧ w'.ownsRow w.heap.size E 1 v n xs ∧ Below w.heap.size w w'
def cutB (s : ByteArray) (n : Nat) : ByteArray := if n < s.size then s.extract 0 n else s
theorem cutB_size (s : ByteArray) (n : Nat) : (cutB s n).size ≤ n ∧ (cutB s n).size ≤ s.size := by
  unfold cutB
  split
  · simp; omega
  · omega
set_option maxHeartbeats 400000 in
theorem law02_Cut (s c : ByteArray) (n : Nat) (hs : s.size ≤ maxLen) (hn : n ≤ 100000) (h : cutB s n = c) (w : World) :
    Calls Try.prog 34 #[.string s, .int .i64 (n : Int)] w fun e w' => e = .returned (.string c) ∧ w = w' := by
  subst h
  rw [maxLen_eq] at hs
  by_cases hlt : n < s.size
  · have hc : cutB s n = s.extract 0 n := if_pos hlt
    have HC := Lib.hid hc
    clear hc
    go_enter Try.func34, Try.ntmps34
    go_wp2
    go_ret
    exact ⟨by rw [HC.out]; rfl, rfl⟩
  · have hc : cutB s n = s := if_neg hlt
    have HC := Lib.hid hc
    clear hc
    go_enter Try.func34, Try.ntmps34
    go_wp2
    go_ret
    exact ⟨by rw [HC.out]; rfl, rfl⟩

def cutCells (ss : Nat → ByteArray) (m n : Nat) : List Value := (List.range n).map fun i => .string (cutB (ss i) m)
theorem cutCells_succ (ss : Nat → ByteArray) (m n : Nat) : cutCells ss m (n + 1) = cutCells ss m n ++ [.string (cutB (ss n) m)] := by
  unfold cutCells; rw [List.range_succ, List.map_append]; rfl
theorem cutCells_get (ss : Nat → ByteArray) (m n i : Nat) (hi : i < n) : (cutCells ss m n)[i]? = some (.string (cutB (ss i) m)) := by
  unfold cutCells; rw [List.getElem?_map, List.getElem?_range hi]; rfl

set_option maxHeartbeats 2000000 in
theorem law02_Few (a : Option Addr) (n c : Nat) (ss : Nat → ByteArray) (most m : Nat) (w : World) (hS : SliceOf w a n c 1 (fun i => [.string (ss i)])) (hs : ∀ i, i < n → (ss i).size ≤ maxLen) (hm : most ≤ 1000) (hm2 : m ≤ 100000) :
    Calls Try.prog 19 #[.slice a n c, .int .i64 (most : Int), .int .i64 (m : Int)] w (OwnsRes w 9 (min n most) (cutCells ss m (min n most))) := by
  obtain ⟨i0, hi0, hz0, hz1, hz2⟩ := info_parts (show (Try.prog.info? 9).map (fun i => (i.zero, i.size, i.bytes)) = some (some (.string ByteArray.empty), 1, 16) by kernel_rfl)
  have hl := hS.size_le
  have HS := Lib.hid hS
  have HM := Lib.hid hs
  clear hS hs
  go_enter Try.func19, Try.ntmps19
  go_wp2_with fail
  go_loopw [7, 8] (fun v i wr => ∃ k : Nat, k ≤ n ∧ k ≤ most ∧ i = .int .i64 k ∧ wr.ownsRow w.heap.size 9 1 v k (cutCells ss m k) ∧ Below w.heap.size w wr) (fun _ i _ => n - (intOf i).toNat)
  case atStart => exact ⟨0, by omega, by omega, rfl, ⟨rfl, .inl ⟨rfl, rfl⟩⟩, Below.refl _ _⟩
  case round =>
    obtain ⟨k, hk, hk2, rfl, hown, hB⟩ := hrel
    by_cases hlt : k < n
    · by_cases hlt2 : k < most
      · obtain ⟨b, off, rfl, hb, hc⟩ := HS.out.at1 (by omega)
        have c0 := (hB.cell (p := ⟨b, off + k, none⟩) hb).trans (hc k hlt)
        obtain ⟨s, hs⟩ : ∃ s, ss k = s := ⟨_, rfl⟩
        have hsz := HM.out k hlt
        rw [hs] at c0 hsz
        obtain ⟨t, ht⟩ : ∃ t, cutB s m = t := ⟨_, rfl⟩
        have HSS := Lib.hid hs
        have HT := Lib.hid ht
        have HZ := Lib.hid hsz
        have i1 : (0 : Int) ≤ (k : Int) := by omega
        have i2 : (k : Int) < (n : Int) := by omega
        have i3 : (k : Int) < (most : Int) := by omega
        clear hs ht hc hsz
        go_wp2_with fail
        refine (law02_Cut s t m HZ.out hm2 HT.out _).mono ?_
        rintro e w' ⟨rfl, rfl⟩
        go_wp2_with (at_builtin; refine wpList_append_lies _ rfl _ _ 45 rfl w.heap.size 9 i0 (.string ByteArray.empty) 1 16 Try.underlying45 hi0 hz0 hz1 hz2 rfl (by decide) _ _ _ rfl (hown.alloc _) ⟨wr.heap.size, 0, none⟩ 1 1 [.string t] rfl rfl (cell_one_new _ _ _) (by simp [Value.oneCell']) (by omega) (by rw [maxLen_eq]; omega) (by omega) (Nat.le_trans hB.size (by simp)) _ rfl ?_; intro g cap w1 hown1 hgrow hat hlt1)
        have hB1 := (hB.alloc hB.size _).grown hgrow (by have := hB.size; simp; omega) (fun j hj => (hown.lt j hj).1)
        go_roundw
        case rel =>
          refine ⟨k + 1, by omega, by omega, by go_num, ?_, hB1⟩
          rw [cutCells_succ, HSS.out, HT.out]
          exact hown1
        case measure => simp only [intOf]; omega
      · obtain rfl : k = most := by omega
        have hmin : min n k = k := by omega
        go_wp2
        go_ret
        exact ⟨_, rfl, by rw [hmin]; exact hown, hB⟩
    · obtain rfl : k = n := by omega
      have hmin : min k most = k := by omega
      go_wp2
      go_ret
      exact ⟨_, rfl, by rw [hmin]; exact hown, hB⟩

end Go.Proofs.Ytomhnegfemdcdaa
