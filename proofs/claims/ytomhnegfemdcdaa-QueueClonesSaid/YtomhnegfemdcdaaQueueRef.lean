/- The reference of package queue, walked. No condition but the texts' sizes. -/
import Derived.Test.YtomhnegfemdcdaaQueue8
namespace Go.Proofs.Ytomhnegfemdcdaa
open Go.RowKit BigFrame
attribute [local go_sem ↓] Go.wp_at_zero Go.wp_at_succ

/-- The document's queue, as a value. -/
def RefQ (W : World) (x : Value) (a b : Int) (l : List ByteArray) : Prop := ∃ ra rc, x = .agg #[.int .i64 a, .int .i64 b, .slice ra l.length rc] ∧ SliceOf W ra l.length rc 1 (fun i => [.string (l.getD i .empty)])
theorem RefQ.below {w w' : World} {x : Value} {a b : Int} {l : List ByteArray} (h : RefQ w x a b l) (hb : Below w.heap.size w w') : RefQ w' x a b l := by
  obtain ⟨ra, rc, e, S⟩ := h
  exact ⟨ra, rc, e, S.below hb⟩
set_option maxHeartbeats 1000000 in
theorem ref20_Bytes (a : Option Addr) (n c : Nat) (l : List ByteArray) (hn : l.length = n) (hn2 : n ≤ 1000000) (hs : ∀ s ∈ l, s.size ≤ 1000000) (w : World) (hS : SliceOf w a n c 1 (fun i => [.string (l.getD i .empty)])) :
    Calls Try.prog 44 #[.slice a n c] w fun e w' => e = .returned (.int .i64 (sumQ l)) ∧ w = w' := by
  have HS := Lib.hid hS
  have HN := Lib.hid hn
  have HSZ := Lib.hid hs
  clear hS hn hs
  go_enter Try.func44, Try.ntmps44
  go_wp2_with fail
  go_loopw [3, 8] (fun x i wr => ∃ k : Nat, k ≤ n ∧ i = .int .i64 k ∧ x = .int .i64 (sumQ (l.take k)) ∧ w = wr) (fun _ i _ => n - (intOf i).toNat)
  case atStart => exact ⟨0, by omega, rfl, rfl, rfl⟩
  case round =>
    obtain ⟨k, hk, rfl, rfl, rfl⟩ := hrel
    by_cases hlt : k < n
    · obtain ⟨b0, off, rfl, hb, hc⟩ := HS.out.at1 (by omega)
      have d := hc k hlt
      have hs := sumQ_take l k (by rw [HN.out]; exact hlt)
      obtain ⟨s0, s1⟩ := sumQ_bd (l.take k)
      have hlk : (l.take k).length = k := by rw [List.length_take, HN.out]; omega
      rw [hlk] at s1
      obtain ⟨s, hss⟩ : ∃ s, l.getD k .empty = s := ⟨_, rfl⟩
      have hsz : s.size ≤ 1000000 := by rw [← hss]; exact HSZ.out _ (by rw [List.getD_eq_getElem?_getD, List.getElem?_eq_getElem (by rw [HN.out]; exact hlt)]; simp)
      rw [hss] at d hs
      have hm : min (s.size : Int) 1073741825 = s.size := by omega
      rw [hm] at hs
      obtain ⟨t, ht⟩ : ∃ t, sumQ (l.take k) = t := ⟨_, rfl⟩
      rw [ht] at s0 s1 hs ⊢
      have HSM := Lib.hid hs
      have i1 : (k : Int) < (n : Int) := by omega
      have i0 : (0 : Int) ≤ (k : Int) := by omega
      have wt : IntKind.i64.wrap (t + (s.size : Int)) = t + s.size := IntWalk.i64_in _ (by omega)
      have wk : IntKind.i64.wrap ((k : Int) + 1) = ((k + 1 : Nat) : Int) := by rw [IntWalk.i64_in _ (by omega)]; omega
      clear hs hc hss ht hlk hm
      go_wp2_with fail
      go_roundw
      case rel => exact ⟨k + 1, by omega, by go_num, by rw [HSM.out], by trivial⟩
      case measure => simp only [intOf]; omega
    · obtain rfl : k = n := by omega
      have j1 : ¬ (k : Int) < (k : Int) := by omega
      have hall : l.take k = l := by rw [← HN.out]; exact List.take_length
      rw [hall]
      go_wp2_with fail
      go_ret
      exact ⟨rfl, rfl⟩
set_option maxHeartbeats 1000000 in
theorem ref20_New (z1 z2 a b : Int) (ha : clipI z1 1 1073741824 = a) (hb : clipI z2 1 1073741824 = b) (w : World) :
    Calls Try.prog 24 #[.int .i64 z1, .int .i64 z2] w fun e w' => e = .returned (.agg #[.int .i64 a, .int .i64 b, .slice none 0 0]) ∧ Below w.heap.size w w' := by
  have h1 : max 1 (min z1 1073741824) = a := ha
  have h2 : max 1 (min z2 1073741824) = b := hb
  clear ha hb
  go_enter Try.func24, Try.ntmps24
  go_wp2_with fail
  all_goals
    refine bodyPost_ret (v := .agg #[.int .i64 a, .int .i64 b, .slice none 0 0]) ?_ rfl ⟨rfl, ?_⟩
    · first | (simp [results, Try.results24, go_sem]; done) | (simp [results, Try.results24, go_sem]; omega)
    · (repeat (first | with_reducible assumption | with_reducible exact Below.refl _ _ | with_reducible refine Below.drew ?_ | with_reducible refine Below.setCell ?_ (by first | exact Nat.le_refl _ | exact Nat.le_add_right _ _ | assumption | omega | (simp; done) | (simp; omega)) _ | with_reducible refine Below.alloc ?_ (by first | exact Nat.le_refl _ | exact Nat.le_add_right _ _ | assumption | omega | (simp; done) | (simp; omega)) _ | refine Below.drew ?_ | refine Below.setCell ?_ (by first | exact Nat.le_refl _ | exact Nat.le_add_right _ _ | assumption | omega | (simp; done) | (simp; omega)) _ | refine Below.alloc ?_ (by first | exact Nat.le_refl _ | exact Nat.le_add_right _ _ | assumption | omega | (simp; done) | (simp; omega)) _))
end Go.Proofs.Ytomhnegfemdcdaa
