/- Package gaps: one is asked for, or given up; the least are given up. No condition but that the gaps stand. -/
import Derived.Test.YtonamlgipoannaaGaps5
namespace Go.Proofs.Ytonamlgipoannaa
open Go.RowKit BigFrame
attribute [local go_sem ↓] Go.wp_at_zero Go.wp_at_succ

theorem GV.at_ {w w' : World} {g : Nat} {a b c d : Int} {y : Bool} {e u : Int} {l : List WR} {v : Value} (h : GV w g a b c d y e u l v) (h1 : w'.heap[g]? = w.heap[g]?) (h2 : ∀ j, v.ownBlock = some j → w'.heap[j]? = w.heap[j]?) : GV w' g a b c d y e u l v :=
  ⟨h1.trans h.blk, own_at h.own h2, h.ne⟩
/-- Nothing that was is changed but block g. -/
structure KG (w w' : World) (g : Nat) : Prop where
  below : Below 0 w w'
  keep : ∀ k, k < w.heap.size → k ≠ g → w'.heap[k]? = w.heap[k]?
theorem KG.of_below {w w' : World} {g : Nat} (h : Below w.heap.size w w') : KG w w' g := ⟨h.mono (Nat.zero_le _), fun k hk _ => h.block k hk⟩
theorem KG.step {w w1 w2 : World} {g : Nat} (h : KG w w1 g) (h2 : Below w.heap.size w1 w2) : KG w w2 g := ⟨h.below.trans (h2.mono (Nat.zero_le _)), fun k hk hg => (h2.block k hk).trans (h.keep k hk hg)⟩
theorem KG.trans {w w1 w2 : World} {g : Nat} (h : KG w w1 g) (h2 : KG w1 w2 g) : KG w w2 g := ⟨h.below.trans h2.below, fun k hk hg => (h2.keep k (by have := h.below.size; omega) hg).trans (h.keep k hk hg)⟩
theorem KG.moved {w w' : World} {g : Nat} {v : Value} (h : KG w w' g) : Moved w w' g v v := ⟨h.below, fun k hk hg _ => h.keep k hk hg, fun _ e => .inl e⟩
theorem Moved.kg {w w' : World} {g : Nat} (h : Moved w w' g (.slice none 0 0) (.slice none 0 0)) : KG w w' g := ⟨h.below, fun k hk hg => h.keep k hk hg (fun e => by cases e)⟩
theorem KG.put {w : World} {g o : Nat} {x : Value} : KG w (w.setCell ⟨g, o, none⟩ x) g := ⟨(Below.refl _ _).setCell (Nat.zero_le _) _, fun k _ hg => Below.heap_setCell _ ⟨g, o, none⟩ _ k hg⟩
def WR.blk (r : WR) : Array Value := #[.int .i64 r.n, .int .i64 r.at_, .int .i64 r.t, .int .i64 r.w]
/-- One that is asked for. -/
def WR.ask (r : WR) (now : Int) : WR := ⟨r.n, now + r.w, r.t + 1, min (2 * r.w) 1048576⟩
set_option maxRecDepth 8000 in
set_option maxHeartbeats 4000000 in
theorem gaps_askNo (g bq : Nat) (a b c d : Int) (y : Bool) (e' u u' : Int) (l : List WR) (v : Value) (r : WR) (now : Int) (w : World) (h : GV w g a b c d y e' u l v) (hr : Blk w bq 112 r.blk) (ht : b ≤ r.t) (hu : IntKind.i64.wrap (u + 1) = u') :
    Calls Try.prog 51 #[.pointer (some ⟨g, 0, none⟩), .pointer (some ⟨bq, 0, none⟩), .int .i64 now] w fun e w' => e = .returned (.bool false) ∧ GV w' g a b c d y e' u' l v ∧ KG w w' g := by
  have E1 := fun (gx : Ext w) => gx.cell (h.blk.cell 1) h.blk.lt
  have ER := fun (gx : Ext w) => gx.cell (hr.cell 2) hr.lt
  unfold WR.blk at ER
  simp at E1 ER
  go_enter Try.func51, Try.ntmps51
  go_upto_region 1 with fail
  refine wp_region_ext (by kernel_rfl) (by kernel_rfl) ?_; (repeat (go_big_quiet_step (fail))); refine wpQuiet_nil ?_; rintro _ ⟨gq, rfl⟩
  have BX := gq.below
  have h2 := h.below BX
  generalize gq.world = w2 at BX h2 ⊢
  obtain ⟨h3, M3⟩ := h2.put (y' := y) (e' := e') (u' := u') 7 (.int .i64 u') (by simp)
  have c2 := h2.blk.cell
  have f2 := h2.blk.frozen
  simp at c2
  clear E1 ER h hr
  go_wp2_with fail
  go_ret
  exact ⟨rfl, h3, (KG.of_below BX).trans KG.put⟩
set_option maxRecDepth 8000 in
set_option maxHeartbeats 4000000 in
theorem gaps_askYes (g bq : Nat) (a b c d : Int) (y : Bool) (e' u : Int) (l : List WR) (v : Value) (r : WR) (now : Int) (w : World) (h : GV w g a b c d y e' u l v) (hr : Blk w bq 112 r.blk) (ht : r.t < b) (hb : b ≤ 100) (ht0 : 0 ≤ r.t) (hw0 : 0 ≤ r.w) (hw1 : r.w ≤ 1048576) (hn0 : 0 ≤ now) (hn1 : now ≤ 1099511627776) :
    Calls Try.prog 51 #[.pointer (some ⟨g, 0, none⟩), .pointer (some ⟨bq, 0, none⟩), .int .i64 now] w fun e w' => e = .returned (.bool true) ∧ Blk w' bq 112 (r.ask now).blk ∧ KG w w' bq := by
  have E1 := fun (gx : Ext w) => gx.cell (h.blk.cell 1) h.blk.lt
  have ER := fun (gx : Ext w) => gx.cell (hr.cell 2) hr.lt
  have HR := hr
  unfold WR.blk at ER hr
  simp at E1 ER
  obtain ⟨t1, ht1⟩ : ∃ x, r.t + 1 = x := ⟨_, rfl⟩
  obtain ⟨a1, ha1⟩ : ∃ x, now + r.w = x := ⟨_, rfl⟩
  obtain ⟨w1, hw2⟩ : ∃ x, 2 * r.w = x := ⟨_, rfl⟩
  obtain ⟨m1, hm1⟩ : ∃ x, (if 1048576 < w1 then 1048576 else w1) = x := ⟨_, rfl⟩
  have x1 : IntKind.i64.wrap (r.t + 1) = t1 := by rw [IntWalk.i64_in _ (by omega), ht1]
  have x2 : IntKind.i64.wrap (now + r.w) = a1 := by rw [IntWalk.i64_in _ (by omega), ha1]
  have x3 : IntKind.i64.wrap (2 * r.w) = w1 := by rw [IntWalk.i64_in _ (by omega), hw2]
  have HF := Lib.hid (show (r.ask now).blk = #[.int .i64 r.n, .int .i64 a1, .int .i64 t1, .int .i64 m1] by
    unfold WR.ask WR.blk
    have : min (2 * r.w) 1048576 = m1 := by rw [← hm1, hw2]; split <;> omega
    simp only [ht1, ha1, this])
  go_enter Try.func51, Try.ntmps51
  go_upto_region 1 with fail
  refine wp_region_ext (by kernel_rfl) (by kernel_rfl) ?_; (repeat (go_big_quiet_step (fail))); refine wpQuiet_nil ?_; rintro _ ⟨gq, rfl⟩
  have BX := gq.below
  have k2 := hr.below BX hr.lt
  generalize gq.world = w2 at BX k2 ⊢
  have k3 := k2.set_ 2 (.int .i64 t1)
  have k4 := k3.set_ 1 (.int .i64 a1)
  have k5 := k4.set_ 3 (.int .i64 m1)
  have K := (KG.of_below (g := bq) BX).trans ((KG.put (o := 2) (x := .int .i64 t1)).trans ((KG.put (o := 1) (x := .int .i64 a1)).trans (KG.put (o := 3) (x := .int .i64 m1))))
  have c2 := k2.cell
  have f2 := k2.frozen
  have c3 := k3.cell
  have f3 := k3.frozen
  have c4 := k4.cell
  have f4 := k4.frozen
  simp at c2 c3 c4 k5
  have K5 := Lib.hid k5
  clear E1 ER h hr ht1 ha1 hw2 k2 k3 k4 k5 HR
  go_upto_region 5 with fail
  generalize w2.setCell ⟨bq, 2, none⟩ (.int .i64 t1) = w3 at *
  clear c2 f2
  go_upto_region 6 with fail
  generalize w3.setCell ⟨bq, 1, none⟩ (.int .i64 a1) = w4 at *
  clear c3 f3
  go_wp2_with fail
  go_ret
  exact ⟨rfl, by rw [HF.out]; exact K5.out, K⟩
end Go.Proofs.Ytonamlgipoannaa
