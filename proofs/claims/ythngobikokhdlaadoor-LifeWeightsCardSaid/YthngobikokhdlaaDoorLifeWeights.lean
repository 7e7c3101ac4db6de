/- The statement LifeWeights, walked: it returns true. No condition but that the two tables stand. -/
import Derived.Test.YthngobikokhdlaaDoorLife9
namespace Go.Proofs.YthngobikokhdlaaDoor
open Go.RowKit BigFrame
attribute [local go_sem ↓] Go.wp_at_zero Go.wp_at_succ

/-- The weights of the first k states. -/
def arrW (q0 q1 q2 : Int) : Nat → Array Value
  | 0 => #[.int .i64 0, .int .i64 0, .int .i64 0, .int .i64 0]
  | 1 => #[.int .i64 q0, .int .i64 0, .int .i64 0, .int .i64 0]
  | 2 => #[.int .i64 q0, .int .i64 q1, .int .i64 0, .int .i64 0]
  | _ => #[.int .i64 q0, .int .i64 q1, .int .i64 q2, .int .i64 0]

set_option maxHeartbeats 4000000 in
theorem LifeWeights_walk (a0 : Int) (a1 : Int) (a2 : Int) (w : World) (hT : Tabs w) (_w0 : (Lit.int .i64 a0).wf = true) (_w1 : (Lit.int .i64 a1).wf = true) (_w2 : (Lit.int .i64 a2).wf = true) :
    Calls Tryd.prog 4 #[.int .i64 a0, .int .i64 a1, .int .i64 a2] w fun e w' => e = .returned (.bool true) ∧ Below w.heap.size w w' := by
  clear _w0 _w1 _w2
  obtain ⟨r, hr⟩ : ∃ r, clipI a0 1 65535 = r := ⟨_, rfl⟩
  have hrb := clip_bd a0 1 65535 (by omega)
  rw [hr] at hrb
  obtain ⟨m, hm⟩ : ∃ m, (if 65535 < a0 then 65535 else a0) = m := ⟨_, rfl⟩
  have hm2 : (if 1 < m then m else 1) = r := by rw [← hr, ← hm]; unfold clipI; split <;> split <;> omega
  have hq0 : weightL (knownL ⟨0, a1, a2⟩).s r = max 1 (r / 4) := rfl
  have hq1 : weightL (knownL ⟨1, a1, a2⟩).s r = r := rfl
  have hq2 : weightL (knownL ⟨2, a1, a2⟩).s r = max 1 (r / 2) := rfl
  have hq3 : weightL (knownL ⟨3, a1, a2⟩).s r = 0 := rfl
  obtain ⟨q0, e0⟩ : ∃ q, max 1 (r / 4) = q := ⟨_, rfl⟩
  obtain ⟨q2, e2⟩ : ∃ q, max 1 (r / 2) = q := ⟨_, rfl⟩
  rw [e0] at hq0
  rw [e2] at hq2
  have HW0 := Lib.hid (fun W => life_Weight ⟨0, a1, a2⟩ a0 r q0 hr hq0 W)
  have HW1 := Lib.hid (fun W => life_Weight ⟨1, a1, a2⟩ a0 r r hr hq1 W)
  have HW2 := Lib.hid (fun W => life_Weight ⟨2, a1, a2⟩ a0 r q2 hr hq2 W)
  have HW3 := Lib.hid (fun W => life_Weight ⟨3, a1, a2⟩ a0 r 0 hr hq3 W)
  have HS0 := Lib.hid (show ∀ W, Calls Tryd.prog 10 #[.agg #[.int .i64 0, .int .i64 a1, .int .i64 a2]] W fun e w' => e = .returned (.bool true) ∧ Below W.heap.size W w' from fun W => life_Sends ⟨0, a1, a2⟩ W)
  have HS1 := Lib.hid (show ∀ W, Calls Tryd.prog 10 #[.agg #[.int .i64 1, .int .i64 a1, .int .i64 a2]] W fun e w' => e = .returned (.bool true) ∧ Below W.heap.size W w' from fun W => life_Sends ⟨1, a1, a2⟩ W)
  have HS2 := Lib.hid (show ∀ W, Calls Tryd.prog 10 #[.agg #[.int .i64 2, .int .i64 a1, .int .i64 a2]] W fun e w' => e = .returned (.bool true) ∧ Below W.heap.size W w' from fun W => life_Sends ⟨2, a1, a2⟩ W)
  have HS3 := Lib.hid (show ∀ W, Calls Tryd.prog 10 #[.agg #[.int .i64 3, .int .i64 a1, .int .i64 a2]] W fun e w' => e = .returned (.bool false) ∧ Below W.heap.size W w' from fun W => life_Sends ⟨3, a1, a2⟩ W)
  clear hq0 hq1 hq2 hq3 hr
  have g1 : decide (r ≤ r) = true := by simp
  have c1 : decide (q2 ≤ r) = true := by simp; omega
  have c2 : decide (q0 ≤ q2) = true := by simp; omega
  have c3 : decide (1 ≤ q0) = true := by simp; omega
  clear e0 e2 hrb
  go_enter Tryd.func4, Tryd.ntmps4
  go_wp2_with fail
  refine (law17_awake w hT).mono ?_
  rintro e w1 ⟨rfl, B1⟩
  clear hT
  go_wp2_with fail
  have k7 := Blk.new w1 37 #[.int .i64 0, .int .i64 0, .int .i64 0, .int .i64 0]
  have B2 := B1.alloc B1.size (.cells #[.int .i64 0, .int .i64 0, .int .i64 0, .int .i64 0] 37)
  generalize hg7 : w1.heap.size = g7 at *
  generalize (w1.alloc (.cells #[.int .i64 0, .int .i64 0, .int .i64 0, .int .i64 0] 37)) = w2 at *
  have hg : w.heap.size ≤ g7 := by rw [← hg7]; exact B1.size
  clear hg7 B1
  go_loopw [12] (fun i wr => ∃ k : Nat, k ≤ 4 ∧ i = .int .i64 k ∧ Blk wr g7 37 (arrW q0 r q2 k) ∧ Below w.heap.size w wr) (fun i _ => 4 - (intOf i).toNat)
  case atStart => exact ⟨0, by omega, rfl, k7, B2⟩
  case round =>
    clear k7 B2
    obtain ⟨k, hk, rfl, k7, B2⟩ := hrel
    have hl7 := k7.lt
    rcases k with _ | _ | _ | _ | _ | k
    · go_wp2_with fail
      refine (HW0.out _).mono ?_
      rintro e w3 ⟨rfl, hb3⟩
      have p7 := (k7.alloc (.cells #[.int .i64 0, .int .i64 a1, .int .i64 a2] 28)).below hb3 (by simp; omega)
      have p9 := (Blk.new wr 28 #[.int .i64 0, .int .i64 a1, .int .i64 a2]).below hb3 (by simp)
      have B3 := (B2.alloc B2.size (.cells #[.int .i64 0, .int .i64 a1, .int .i64 a2] 28)).trans (hb3.mono (by have := B2.size; simp; omega))
      have hne : g7 ≠ wr.heap.size := by omega
      generalize wr.heap.size = g9 at p9 hne ⊢
      clear hb3 k7 B2
      simp only [arrW] at p7
      have c7 := p7.cell
      have f7 := p7.frozen
      simp at c7
      go_upto_region 9 with fail
      have p7 := p7.set_ 0 (.int .i64 q0)
      have p9 := p9.far (p := ⟨g7, 0, none⟩) (Ne.symm hne) (.int .i64 q0)
      have B3 := B3.setCell (p := ⟨g7, 0, none⟩) hg (.int .i64 q0)
      simp at p7
      clear c7 f7
      generalize (World.setCell w3 ⟨g7, 0, none⟩ (.int .i64 q0)) = w4 at p7 p9 B3 ⊢
      have c9 := p9.cell
      simp at c9
      go_wp2_with fail
      refine (HS0.out _).mono ?_
      rintro e w5 ⟨rfl, hb5⟩
      have p7 := p7.below hb5 p7.lt
      have B5 := B3.trans (hb5.mono B3.size)
      clear hb5 c9 p9 B3
      go_wp2_with fail
      go_roundw
      case rel => exact ⟨1, by omega, rfl, p7, B5⟩
      case measure => simp only [intOf]; omega
    · go_wp2_with fail
      refine (HW1.out _).mono ?_
      rintro e w3 ⟨rfl, hb3⟩
      have p7 := (k7.alloc (.cells #[.int .i64 1, .int .i64 a1, .int .i64 a2] 28)).below hb3 (by simp; omega)
      have p9 := (Blk.new wr 28 #[.int .i64 1, .int .i64 a1, .int .i64 a2]).below hb3 (by simp)
      have B3 := (B2.alloc B2.size (.cells #[.int .i64 1, .int .i64 a1, .int .i64 a2] 28)).trans (hb3.mono (by have := B2.size; simp; omega))
      have hne : g7 ≠ wr.heap.size := by omega
      generalize wr.heap.size = g9 at p9 hne ⊢
      clear hb3 k7 B2
      simp only [arrW] at p7
      have c7 := p7.cell
      have f7 := p7.frozen
      simp at c7
      go_upto_region 9 with fail
      have p7 := p7.set_ 1 (.int .i64 r)
      have p9 := p9.far (p := ⟨g7, 1, none⟩) (Ne.symm hne) (.int .i64 r)
      have B3 := B3.setCell (p := ⟨g7, 1, none⟩) hg (.int .i64 r)
      simp at p7
      clear c7 f7
      generalize (World.setCell w3 ⟨g7, 1, none⟩ (.int .i64 r)) = w4 at p7 p9 B3 ⊢
      have c9 := p9.cell
      simp at c9
      go_wp2_with fail
      refine (HS1.out _).mono ?_
      rintro e w5 ⟨rfl, hb5⟩
      have p7 := p7.below hb5 p7.lt
      have B5 := B3.trans (hb5.mono B3.size)
      clear hb5 c9 p9 B3
      go_wp2_with fail
      go_roundw
      case rel => exact ⟨2, by omega, rfl, p7, B5⟩
      case measure => simp only [intOf]; omega
    · go_wp2_with fail
      refine (HW2.out _).mono ?_
      rintro e w3 ⟨rfl, hb3⟩
      have p7 := (k7.alloc (.cells #[.int .i64 2, .int .i64 a1, .int .i64 a2] 28)).below hb3 (by simp; omega)
      have p9 := (Blk.new wr 28 #[.int .i64 2, .int .i64 a1, .int .i64 a2]).below hb3 (by simp)
      have B3 := (B2.alloc B2.size (.cells #[.int .i64 2, .int .i64 a1, .int .i64 a2] 28)).trans (hb3.mono (by have := B2.size; simp; omega))
      have hne : g7 ≠ wr.heap.size := by omega
      generalize wr.heap.size = g9 at p9 hne ⊢
      clear hb3 k7 B2
      simp only [arrW] at p7
      have c7 := p7.cell
      have f7 := p7.frozen
      simp at c7
      go_upto_region 9 with fail
      have p7 := p7.set_ 2 (.int .i64 q2)
      have p9 := p9.far (p := ⟨g7, 2, none⟩) (Ne.symm hne) (.int .i64 q2)
      have B3 := B3.setCell (p := ⟨g7, 2, none⟩) hg (.int .i64 q2)
      simp at p7
      clear c7 f7
      generalize (World.setCell w3 ⟨g7, 2, none⟩ (.int .i64 q2)) = w4 at p7 p9 B3 ⊢
      have c9 := p9.cell
      simp at c9
      go_wp2_with fail
      refine (HS2.out _).mono ?_
      rintro e w5 ⟨rfl, hb5⟩
      have p7 := p7.below hb5 p7.lt
      have B5 := B3.trans (hb5.mono B3.size)
      clear hb5 c9 p9 B3
      go_wp2_with fail
      go_roundw
      case rel => exact ⟨3, by omega, rfl, p7, B5⟩
      case measure => simp only [intOf]; omega
    · go_wp2_with fail
      refine (HW3.out _).mono ?_
      rintro e w3 ⟨rfl, hb3⟩
      have p7 := (k7.alloc (.cells #[.int .i64 3, .int .i64 a1, .int .i64 a2] 28)).below hb3 (by simp; omega)
      have p9 := (Blk.new wr 28 #[.int .i64 3, .int .i64 a1, .int .i64 a2]).below hb3 (by simp)
      have B3 := (B2.alloc B2.size (.cells #[.int .i64 3, .int .i64 a1, .int .i64 a2] 28)).trans (hb3.mono (by have := B2.size; simp; omega))
      have hne : g7 ≠ wr.heap.size := by omega
      generalize wr.heap.size = g9 at p9 hne ⊢
      clear hb3 k7 B2
      simp only [arrW] at p7
      have c7 := p7.cell
      have f7 := p7.frozen
      simp at c7
      go_upto_region 9 with fail
      have p7 := p7.set_ 3 (.int .i64 0)
      have p9 := p9.far (p := ⟨g7, 3, none⟩) (Ne.symm hne) (.int .i64 0)
      have B3 := B3.setCell (p := ⟨g7, 3, none⟩) hg (.int .i64 0)
      simp at p7
      clear c7 f7
      generalize (World.setCell w3 ⟨g7, 3, none⟩ (.int .i64 0)) = w4 at p7 p9 B3 ⊢
      have c9 := p9.cell
      simp at c9
      go_wp2_with fail
      refine (HS3.out _).mono ?_
      rintro e w5 ⟨rfl, hb5⟩
      have p7 := p7.below hb5 p7.lt
      have B5 := B3.trans (hb5.mono B3.size)
      clear hb5 c9 p9 B3
      go_wp2_with fail
      go_roundw
      case rel => exact ⟨4, by omega, rfl, p7, B5⟩
      case measure => simp only [intOf]; omega
    · simp only [arrW] at k7
      have c7 := k7.cell
      simp at c7
      go_wp2_with fail
      go_ret
      exact ⟨rfl, B2⟩
    · omega
end Go.Proofs.YthngobikokhdlaaDoor
