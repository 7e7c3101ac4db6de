/- Layer 13's awake and the statement SourceTwice, walked. No condition but the frame's. -/
import Derived.Test.YthngobikokhdlaaSource5
namespace Go.Proofs.Ythngobikokhdlaa
open Go.RowKit
attribute [local go_sem ↓] Go.wp_at_zero Go.wp_at_succ

theorem wf_u16 {n : Int} (h : (Lit.int .u16 n).wf = true) : 0 ≤ n ∧ n ≤ 65535 := by
  simp [Lit.wf, IntKind.min, IntKind.max, IntKind.signed, IntKind.bits] at h
  omega
theorem SliceOf.litF {w : World} {g : Nat} {t : TypeId} {cs : Array Value} {n : Nat} (h : Blk w g t cs) (hn : cs.size = n) (hm : n ≤ 1000) (E : Nat → Value) (hE : ∀ i, i < n → cs[i]? = some (E i)) :
    SliceOf w (some ⟨g, 0, none⟩) n n 1 (fun i => [E i]) := by
  refine ⟨Nat.le_refl _, by rw [maxLen_eq]; omega, fun hp => ⟨g, 0, rfl, h.lt, fun i hi j v hv => ?_⟩⟩
  match j, hv with
  | 0, hv =>
    simp at hv
    subst hv
    have := h.cell i
    simp only [Nat.mul_one, Nat.add_zero, Nat.zero_add]
    rw [this]
    exact hE i hi
theorem SliceOf.cut {w : World} {a : Option Addr} {n c size m : Nat} {E : Nat → List Value} (h : SliceOf w a n c size E) (hm : m ≤ n) : SliceOf w a m c size E := by
  refine ⟨Nat.le_trans hm h.1, h.2.1, fun hp => ?_⟩
  obtain ⟨b, off, e, hb, hc⟩ := h.2.2 (by omega)
  exact ⟨b, off, e, hb, fun i hi => hc i (by omega)⟩
def seq789 (i : Nat) : Int := if i = 0 then 7 else if i = 1 then 8 else 9

set_option maxHeartbeats 4000000 in
theorem law13_awake (w : World) :
    Calls Try.prog 20 #[] w fun e w' => e = .returned (.bool true) ∧ Below w.heap.size w w' := by
  have hin : InS 3 ⟨9, 0, 8, 65537, 0, 2⟩ := by unfold InS; simp
  have H1 := Lib.hid (fun W => source_New 7 (by omega) (by omega) ⟨6, 0, 7, 65537, 2, 0⟩ rfl W)
  have H2 := Lib.hid (fun W hS => source_Run ⟨6, 0, 7, 65537, 2, 0⟩ ⟨9, 0, 8, 65537, 0, 2⟩ (some ⟨(W : World).heap.size - 1, 0, none⟩) 3 3 seq789 0 2 (by omega) (by omega) (by unfold InS; simp) (fun i _ => by unfold seq789; split <;> (try split) <;> omega) (by decide) W hS)
  have H3 := Lib.hid (fun W => source_Highest ⟨9, 0, 8, 65537, 0, 2⟩ 3 hin (by omega) 9 rfl W)
  have H4 := Lib.hid (fun W => source_Expected ⟨9, 0, 8, 65537, 0, 2⟩ 3 hin (by omega) 2 rfl W)
  clear hin
  go_enter Try.func20, Try.ntmps20
  go_wp2_with fail
  refine (H1.out _).mono ?_
  rintro e w1 ⟨rfl, hb1⟩
  go_wp2_with fail
  have k1 := Blk.new w1 27 #[.int .u16 7, .int .u16 8, .int .u16 9]
  refine (source_Run ⟨6, 0, 7, 65537, 2, 0⟩ ⟨9, 0, 8, 65537, 0, 2⟩ _ 3 3 seq789 0 2 (by omega) (by omega) (by unfold InS; simp) (fun i _ => by unfold seq789; split <;> (try split) <;> omega) (by decide) _ (SliceOf.litF (n := 3) k1 rfl (by decide) (fun i => .int .u16 (seq789 i)) (fun i hi => by
    match i, hi with
    | 0, _ => rfl
    | 1, _ => rfl
    | 2, _ => rfl))).mono ?_
  rintro e w2 ⟨rfl, hb2⟩
  have B2 : Below w.heap.size w w2 := (hb1.alloc hb1.size _).trans (hb2.mono (Nat.le_trans hb1.size (by simp)))
  clear hb1 hb2 k1
  have k3 := Blk.new w2 31 #[.int .u16 9, .int .i64 0, .int .i64 8, .int .i64 65537, .int .i64 0, .int .i64 2]
  have B3 := B2.alloc B2.size (.cells #[.int .u16 9, .int .i64 0, .int .i64 8, .int .i64 65537, .int .i64 0, .int .i64 2] 31)
  go_wp2_with fail
  refine (H3.out _).mono ?_
  rintro e w4 ⟨rfl, hb4⟩
  have k4 := k3.below hb4 k3.lt
  have B4 := below_then B3 hb4 (Nat.le_refl _)
  have c4 := k4.cell
  simp at c4
  go_wp2_with fail
  refine (H4.out _).mono ?_
  rintro e w5 ⟨rfl, hb5⟩
  have k5 := k4.below hb5 k4.lt
  have B5 := below_then B4 hb5 (Nat.le_refl _)
  clear c4
  have c5 := k5.cell
  simp at c5
  go_wp2_with fail
  go_ret
  exact ⟨rfl, B5⟩

theorem upd_same (s r : S6) (ok : Bool) (k : Int) (hs : InS k s) (h : updS s s.mx = (r, ok)) :
    (0 < s.pr ∧ ok = false ∧ r.mx = s.mx ∧ r.pr = 1) ∨ (s.pr ≤ 0 ∧ ok = true ∧ r = ⟨s.mx, s.cy, s.ba, s.bd, s.pr, s.rc + 1⟩) := by
  unfold InS at hs
  unfold updS proveS at h
  by_cases hp : 0 < s.pr
  · rw [if_pos hp, if_neg (by omega)] at h
    injection h with h1 h2
    left
    exact ⟨hp, h2.symm, by rw [← h1], by rw [← h1]⟩
  · rw [if_neg hp, if_pos (by omega), if_neg (by omega)] at h
    injection h with h1 h2
    right
    exact ⟨by omega, h2.symm, h1.symm⟩
end Go.Proofs.Ythngobikokhdlaa
