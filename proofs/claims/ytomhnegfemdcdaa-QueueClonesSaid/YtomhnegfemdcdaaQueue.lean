/- Package queue, walked: a queue of texts is a block and a row of its own. No condition but that the queue stands. -/
import Derived.Test.YtomhnegfemdcdaaKit
import Derived.Deep.AppendLies
namespace Go.Proofs.Ytomhnegfemdcdaa
open Go.RowKit
attribute [local go_sem ↓] Go.wp_at_zero Go.wp_at_succ

/-- The cells of texts. -/
def textCells (l : List ByteArray) : List Value := l.map .string
/-- A queue at block g: at most 'most' texts of 'room' bytes; these wait, of so many bytes; the row lies at B or behind, and is not the queue's own block. -/
def QAt (W : World) (B g : Nat) (most room : Int) (l : List ByteArray) (bytes : Int) : Prop :=
  ∃ v, Blk W g 76 #[.int .i64 most, .int .i64 room, v, .int .i64 bytes] ∧ W.ownsRow B 49 1 v l.length (textCells l) ∧ v.ownBlock ≠ some g ∧ B ≤ g

set_option maxHeartbeats 400000 in
theorem queue_clip (n r : Int) (h : clipI n 1 1073741824 = r) (w : World) :
    Calls Try.prog 35 #[.int .i64 n] w fun e w' => e = .returned (.int .i64 r) ∧ w = w' := by
  subst h
  go_enter Try.func35, Try.ntmps35
  go_wp2
  all_goals
    go_ret
    exact ⟨ret_int (by unfold clipI; omega), rfl⟩

set_option maxHeartbeats 1000000 in
theorem queue_New (n m a b : Int) (ha : clipI n 1 1073741824 = a) (hb : clipI m 1 1073741824 = b) (w : World) :
    Calls Try.prog 20 #[.int .i64 n, .int .i64 m] w fun e w' => e = .returned (.pointer (some ⟨w.heap.size, 0, none⟩)) ∧ QAt w' w.heap.size w.heap.size a b [] 0 ∧ Below w.heap.size w w' := by
  have HA := Lib.hid ha
  have HB := Lib.hid hb
  clear ha hb
  go_enter Try.func20, Try.ntmps20
  go_wp2_with (first | (go_at_call 35; ((with_reducible refine (queue_clip _ a HA.out _).mono ?_); rintro e w' ⟨rfl, rfl⟩)) | (go_at_call 35; ((with_reducible refine (queue_clip _ b HB.out _).mono ?_); rintro e w' ⟨rfl, rfl⟩)))
  go_ret
  exact ⟨rfl, ⟨_, Blk.new _ _ _, ⟨rfl, .inl ⟨rfl, rfl⟩⟩, (by intro h; cases h), Nat.le_refl _⟩, (Below.refl _ _).alloc (Nat.le_refl _) _⟩

set_option maxHeartbeats 400000 in
theorem text_Size (s : ByteArray) (w : World) :
    Calls Try.prog 31 #[.string s] w fun e w' => e = .returned (.int .i64 (s.size : Int)) ∧ w = w' := by
  go_enter Try.func31, Try.ntmps31
  go_wp2
  go_ret
  exact ⟨rfl, rfl⟩

set_option maxHeartbeats 400000 in
theorem queue_Bytes (B g : Nat) (a b y : Int) (l : List ByteArray) (w : World) (h : QAt w B g a b l y) :
    Calls Try.prog 23 #[.pointer (some ⟨g, 0, none⟩)] w fun e w' => e = .returned (.int .i64 y) ∧ w = w' := by
  obtain ⟨v, k, own, hne, hB⟩ := h
  have c := k.cell 3
  simp at c
  go_enter Try.func23, Try.ntmps23
  go_wp2
  go_ret
  exact ⟨rfl, rfl⟩

set_option maxHeartbeats 400000 in
theorem queue_Len (B g : Nat) (a b y : Int) (l : List ByteArray) (w : World) (h : QAt w B g a b l y) :
    Calls Try.prog 27 #[.pointer (some ⟨g, 0, none⟩)] w fun e w' => e = .returned (.int .i64 (l.length : Int)) ∧ w = w' := by
  obtain ⟨v, k, own, hne, hB⟩ := h
  obtain ⟨s, c0, rfl, S⟩ := SliceOf.of_own own (fun i => .string (l.getD i .empty)) (fun i hi => by unfold textCells; simp [hi])
  have c := k.cell 2
  simp at c
  go_enter Try.func27, Try.ntmps27
  go_wp2
  go_ret
  exact ⟨rfl, rfl⟩

set_option maxHeartbeats 1000000 in
theorem queue_Front (B g : Nat) (a b y : Int) (l : List ByteArray) (w : World) (h : QAt w B g a b l y) :
    Calls Try.prog 29 #[.pointer (some ⟨g, 0, none⟩)] w fun e w' => e = .returned (.tuple #[.string (l.headD .empty), .bool (!l.isEmpty)]) ∧ w = w' := by
  obtain ⟨v, k, own, hne, hB⟩ := h
  have hl : l.length ≤ 9223372036854775807 := by
    obtain ⟨s, c0, rfl, S⟩ := SliceOf.of_own own (fun i => .string (l.getD i .empty)) (fun i hi => by unfold textCells; simp [hi])
    exact S.size_le
  obtain ⟨s, c0, rfl, S⟩ := SliceOf.of_own own (fun i => .string (l.getD i .empty)) (fun i hi => by unfold textCells; simp [hi])
  have c := k.cell 2
  simp at c
  cases l with
  | nil =>
    go_enter Try.func29, Try.ntmps29
    go_wp2
    refine bodyPost_ret (v := .tuple #[.string .empty, .bool false]) ?_ rfl ⟨rfl, rfl⟩
    simp [results, Try.results29, go_sem]
    rfl
  | cons x xs =>
    obtain ⟨b0, off, rfl, hb, hc⟩ := S.at1 (by simp)
    have d := hc 0 (by simp)
    simp at d
    obtain ⟨n, hn⟩ : ∃ n, (x :: xs).length = n := ⟨_, rfl⟩
    have hn0 : 0 < n := by rw [← hn]; simp
    rw [hn] at c hl
    clear hc S own hn
    have n1 : ¬ ((n : Int) = 0) := by omega
    have n2 : (0 : Int) < (n : Int) := by omega
    go_enter Try.func29, Try.ntmps29
    go_wp2
    refine bodyPost_ret (v := .tuple #[.string x, .bool true]) ?_ rfl ⟨rfl, rfl⟩
    simp [results, Try.results29, go_sem]

/-- The bytes of texts, as far as they count. -/
def sumQ : List ByteArray → Int
  | [] => 0
  | s :: l => min (s.size : Int) 1073741825 + sumQ l
theorem sumQ_append (l m : List ByteArray) : sumQ (l ++ m) = sumQ l + sumQ m := by
  induction l with
  | nil => simp [sumQ]
  | cons s l ih => rw [List.cons_append, sumQ, sumQ, ih]; omega
theorem sumQ_bd (l : List ByteArray) : 0 ≤ sumQ l ∧ sumQ l ≤ 1073741825 * l.length := by
  induction l with
  | nil => simp [sumQ]
  | cons s l ih => rw [sumQ, List.length_cons]; omega
theorem sumQ_take (l : List ByteArray) (k : Nat) (h : k < l.length) : sumQ (l.take (k + 1)) = sumQ (l.take k) + min ((l.getD k .empty).size : Int) 1073741825 := by
  rw [List.take_add_one, sumQ_append, List.getD_eq_getElem?_getD, List.getElem?_eq_getElem h]
  simp [sumQ]

set_option maxHeartbeats 1000000 in
theorem queue_sizes (a : Option Addr) (n c : Nat) (l : List ByteArray) (hn : l.length = n) (hn2 : n ≤ 1000000) (w : World) (hS : SliceOf w a n c 1 (fun i => [.string (l.getD i .empty)])) :
    Calls Try.prog 36 #[.slice a n c] w fun e w' => e = .returned (.int .i64 (sumQ l)) ∧ w = w' := by
  have HS := Lib.hid hS
  have HN := Lib.hid hn
  clear hS hn
  go_enter Try.func36, Try.ntmps36
  go_wp2_with fail
  go_loopw [3, 8] (fun x i wr => ∃ k : Nat, k ≤ n ∧ i = .int .i64 k ∧ x = .int .i64 (sumQ (l.take k)) ∧ w = wr) (fun _ i _ => n - (intOf i).toNat)
  case atStart => exact ⟨0, by omega, rfl, rfl, rfl⟩
  case round =>
    obtain ⟨k, hk, rfl, rfl, rfl⟩ := hrel
    by_cases hlt : k < n
    · obtain ⟨b0, off, rfl, hb, hc⟩ := HS.out.at1 (by omega)
      have d := hc k hlt
      have hs := sumQ_take l k (by rw [HN.out]; exact hlt)
      obtain ⟨s0, s1⟩ := sumQ_bd (l.take k)
      have hlk : (l.take k).length = k := by rw [List.length_take, HN.out]; omega
      rw [hlk] at s1
      obtain ⟨s, hss⟩ : ∃ s, l.getD k .empty = s := ⟨_, rfl⟩
      rw [hss] at d hs
      obtain ⟨m, hm⟩ : ∃ m, min (s.size : Int) 1073741825 = m := ⟨_, rfl⟩
      have m0 : 0 ≤ m := by omega
      have m1 : m ≤ 1073741825 := by omega
      have hm2 : (if (1073741825 : Int) < (s.size : Int) then 1073741825 else (s.size : Int)) = m := by rw [← hm]; split <;> omega
      obtain ⟨t, ht⟩ : ∃ t, sumQ (l.take k) = t := ⟨_, rfl⟩
      rw [ht] at s0 s1 hs ⊢
      rw [hm] at hs
      have HSM := Lib.hid hs
      have i1 : (k : Int) < (n : Int) := by omega
      have i0 : (0 : Int) ≤ (k : Int) := by omega
      have wt : IntKind.i64.wrap (t + m) = t + m := IntWalk.i64_in _ (by omega)
      clear hs hc hss ht hlk
      have HM := Lib.hid hm
      clear hm
      go_wp2_with fail
      refine (text_Size s _).mono ?_
      rintro e w' ⟨rfl, rfl⟩
      go_wp2_with fail
      go_roundw
      case rel => exact ⟨k + 1, by omega, by go_num, (by rw [HSM.out]; congr 1; split <;> omega), by trivial⟩
      case measure => simp only [intOf]; omega
    · obtain rfl : k = n := by omega
      have hall : l.take k = l := by rw [← HN.out]; exact List.take_length
      go_wp2
      go_ret
      exact ⟨by first | (rw [hall]; done) | simp [hall], by trivial⟩
end Go.Proofs.Ytomhnegfemdcdaa
