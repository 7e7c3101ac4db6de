/- serial.Span and the statement SerialSpans, walked. -/
import Derived.Test.YticagajaphoefaaSerialLaws
namespace Go.Proofs.Yticagajaphoefaa
open Go.RowKit

/-- The call hands back a slice of its own, whose cells are these; nothing that was there has turned. -/
def OwnsRes (w : World) (E : TypeId) (n : Nat) (xs : List Value) (e : Ending) (w' : World) : Prop :=
  ∃ v, e = .returned v ∧ w'.ownsRow w.heap.size E 1 v n xs ∧ Below w.heap.size w w'

def spanCells (f : Int) (n : Nat) : List Value := (List.range n).map fun (i : Nat) => .int .u16 ((f + (i : Int)) % 65536)
theorem spanCells_succ (f : Int) (n : Nat) : spanCells f (n + 1) = spanCells f n ++ [.int .u16 ((f + (n : Int)) % 65536)] := by
  unfold spanCells; rw [List.range_succ, List.map_append]; rfl

set_option maxHeartbeats 1000000 in
theorem serial_Span (f t : Int) (n : Nat) (f0 : 0 ≤ f) (f1 : f ≤ 65535) (t0 : 0 ≤ t) (t1 : t ≤ 65535) (hn : (t - f) % 65536 = n) (w : World) :
    Calls Try.prog 16 #[.int .u16 f, .int .u16 t] w (OwnsRes w 22 (n + 1) (spanCells f (n + 1))) := by
  obtain ⟨i0, hi0, hz0, hz1, hz2⟩ := info_parts (show (Try.prog.info? 22).map (fun i => (i.zero, i.size, i.bytes)) = some (some (.int .u16 0), 1, 2) by kernel_rfl)
  have hn2 : n ≤ 65535 := by omega
  have HN := Lib.hid hn
  clear hn
  go_enter Try.func16, Try.ntmps16
  go_wp2_with fail
  go_loopw [0, 5] (fun x v wr => ∃ k : Nat, k ≤ n ∧ x = .int .u16 ((f + (k : Int)) % 65536) ∧ wr.ownsRow w.heap.size 22 1 v (k + 1) (spanCells f (k + 1)) ∧ Below w.heap.size w wr)
    (fun x _ _ => ((t - intOf x) % 65536).toNat)
  case atStart =>
    refine ⟨0, Nat.zero_le _, ?_, ?_, (Below.refl _ _).alloc (Nat.le_refl _) _⟩
    · congr 1; omega
    · have := World.ownsRow_lit (base := w.heap.size) (size := 1) (e := 22) w #[.int .u16 f] 1 (Nat.le_refl _) (by decide) rfl
      have hs : spanCells f (0 + 1) = [.int .u16 f] := by
        rw [spanCells_succ]; unfold spanCells
        have : f % 65536 = f := by omega
        simp [this]
      rw [hs]
      exact this
  case round =>
    obtain ⟨k, hk, rfl, hown, hB⟩ := hrel
    have hn := HN.out
    by_cases hlt : k < n
    · obtain ⟨x, hx⟩ : ∃ x, (f + (k : Int)) % 65536 = x := ⟨_, rfl⟩
      obtain ⟨y, hy⟩ : ∃ y, (f + ((k + 1 : Nat) : Int)) % 65536 = y := ⟨_, rfl⟩
      have x0 : 0 ≤ x := by omega
      have x1 : x ≤ 65535 := by omega
      have hw : IntKind.u16.wrap (x + 1) = y := by simp [IntKind.wrap, IntKind.bits, IntKind.signed]; omega
      have hne : (x != t) = true := by rw [bne_iff_ne]; omega
      have hdec : ((t - y) % 65536).toNat < ((t - x) % 65536).toNat := by omega
      rw [hx]
      have hy' := Lib.hid hy
      have hs := Lib.hid (spanCells_succ f (k + 1))
      have HDEC := Lib.hid hdec
      clear hx hy hdec hn
      go_wp2_with (at_builtin; refine wpList_append_lies _ rfl _ _ 33 rfl w.heap.size 22 i0 (.int .u16 0) 1 2 Try.underlying33 hi0 hz0 hz1 hz2 rfl (by decide) _ _ _ rfl (hown.alloc _) ⟨wr.heap.size, 0, none⟩ 1 1 [.int .u16 y] rfl rfl (cell_one_new _ _ _) (by simp [Value.oneCell']) (by omega) (by rw [maxLen_eq]; omega) (by omega) (Nat.le_trans hB.size (by simp)) _ rfl ?_; intro g cap w1 hown1 hgrow hat hlt1)
      have hB1 := (hB.alloc hB.size _).grown hgrow (by have := hB.size; simp; omega) (fun j hj => (hown.lt j hj).1)
      go_roundw
      case rel =>
        refine ⟨k + 1, by omega, by rw [hy'.out], ?_, hB1⟩
        rw [hs.out, hy'.out]
        exact hown1
      case measure => simp only [intOf]; exact HDEC.out
    · obtain rfl : k = n := by omega
      have hx : (f + (k : Int)) % 65536 = t := by omega
      rw [hx]
      have hne : (t != t) = false := by simp
      clear hn hx
      go_wp2
      go_ret
      exact ⟨_, rfl, hown, hB⟩

attribute [local go_sem] i64_and4095
set_option maxHeartbeats 2000000 in
theorem SerialSpans_walk (a0 : Int) (a1 : Int) (w : World) (a0w : (Lit.int .u16 a0).wf = true) (_a1w : (Lit.int .i64 a1).wf = true) :
    Calls Try.prog 6 #[.int .u16 a0, .int .i64 a1] w fun e w' => e = .returned (.bool true) ∧ Below w.heap.size w w' := by
  obtain ⟨b1, b2⟩ := wf_u16 a0w
  clear a0w _a1w
  obtain ⟨n, hn⟩ : ∃ n : Nat, a1 % 4096 = n := ⟨(a1 % 4096).toNat, by omega⟩
  have n1 : n < 4096 := by omega
  obtain ⟨t, ht⟩ : ∃ t, (a0 + (n : Int)) % 65536 = t := ⟨_, rfl⟩
  have t0 : 0 ≤ t := by omega
  have t1 : t ≤ 65535 := by omega
  have hd : (t - a0) % 65536 = n := by omega
  have hw1 : IntKind.u16.wrap (n : Int) = n := by simp [IntKind.wrap, IntKind.bits, IntKind.signed]; omega
  have hw2 : IntKind.u16.wrap (a0 + (n : Int)) = t := by simp [IntKind.wrap, IntKind.bits, IntKind.signed]; omega
  have HD := Lib.hid hd
  clear hd ht
  go_enter Try.func6, Try.ntmps6
  go_wp2_with fail
  refine (law01_awake _).mono ?_
  rintro e w1 ⟨rfl, hb⟩
  go_wp2_with fail
  refine (serial_Span a0 t n b1 b2 t0 t1 HD.out _).mono ?_
  rintro e w2 ⟨v, rfl, hown, hb2⟩
  obtain ⟨g, cap, hv, hg1, hg2⟩ := hown.form (by omega)
  subst hv
  have hcell := fun (i : Nat) (hi : i < n + 1) => (hown.cellAt i (by omega)).trans (show (spanCells a0 (n + 1))[i]? = some (.int .u16 ((a0 + (i : Int)) % 65536)) by
    unfold spanCells; simp [List.getElem?_range hi])
  have HC := Lib.hid hcell
  have hB := hb.trans (hb2.mono hb.size)
  clear hcell hown hb hb2 hg1 hg2 HD hw2 hw1
  go_wp2_with fail
  go_loop [25] (fun i => ∃ k : Nat, k ≤ n + 1 ∧ i = .int .i64 k) (fun i => n + 1 - (intOf i).toNat)
  case atStart => exact ⟨0, Nat.zero_le _, rfl⟩
  case round =>
    obtain ⟨k, hk, rfl⟩ := hrel
    by_cases hlt : k < n + 1
    · have c0 := HC.out k hlt
      obtain ⟨x, hx⟩ : ∃ x, (a0 + (k : Int)) % 65536 = x := ⟨_, rfl⟩
      have hw : IntKind.u16.wrap (a0 + (k : Int)) = x := by simp [IntKind.wrap, IntKind.bits, IntKind.signed]; omega
      have hw1 : IntKind.u16.wrap (k : Int) = k := by simp [IntKind.wrap, IntKind.bits, IntKind.signed]; omega
      rw [hx] at c0
      clear hx
      go_wp2
      go_round
      case rel => exact ⟨k + 1, by omega, by go_num⟩
      case measure => simp [intOf]; omega
    · go_wp2
      go_ret
      exact ⟨rfl, hB⟩
end Go.Proofs.Yticagajaphoefaa
