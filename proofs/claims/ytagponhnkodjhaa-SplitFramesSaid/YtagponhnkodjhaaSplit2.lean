/- Package split: a frame that collects parts: New, Time, First, IsWhole, walked. No condition but that the frame stands. -/
import Derived.Test.YtagponhnkodjhaaSplit
import Derived.Test.YtagponhnkodjhaaRegion
import Derived.Maps.OwnSet
import Derived.WalkSpells
namespace Go.Proofs.Ytagponhnkodjhaa
open Go.RowKit Go.Maps BigFrame
attribute [local go_sem ↓] Go.wp_at_zero Go.wp_at_succ

theorem keyed_int : Keyed Try.prog 3 := int_keyed Try.underlying3
/-- The map of a frame's parts: block b, at most n entries, reading as D. -/
def PartsAt (W : World) (b n : Nat) (D : DataW Unit) : Prop := W.ownsMap Try.prog 3 (plainElem Try.prog 9) b n D
theorem PartsAt.below {w w' : World} {b n : Nat} {D : DataW Unit} (h : PartsAt w b n D) (hb : Below w.heap.size w w') : PartsAt w' b n D := by
  obtain ⟨es, clock, hg, F, hs⟩ := h
  have hlt : b < w.heap.size := by
    rcases Nat.lt_or_ge b w.heap.size with h1 | h1
    · exact h1
    · rw [Array.getElem?_eq_none h1] at hg; cases hg
  exact ⟨es, clock, (hb.block b hlt).trans hg, F, hs⟩
theorem PartsAt.look {w : World} {b n : Nat} {D : DataW Unit} (h : PartsAt w b n D) (i : Int) (hi : (Lit.int .i64 i).wf = true) (s : ByteArray) (hat : D.atKey (.int .i64 i) (.lit (.string [])) = .lit (.string s.data.toList)) (bk : Bool) (hhas : Maps.has D (.int .i64 i) = bk) :
    (Instr.lookup 52 (.map (some b)) (.int .i64 i) true).run Try.prog w = .ok (.tuple #[.string s, .bool bk]) w := by
  obtain ⟨v, ps, hrun, hv⟩ := World.ownsMap.look_ok h keyed_int Try.underlying52 (z := .string ByteArray.empty) (by kernel_rfl) (zd := .lit (.string [])) (zp := []) (plainElem_string Try.underlying9 (by decide)) (keyOf_int_mk Try.underlying3 hi)
  rw [hrun, hhas]
  obtain ⟨t, rfl, hz, _⟩ := plainElem_string_inv Try.underlying9 hv
  rw [hat] at hz
  simp at hz
  have : t = s := by
    have h1 : t.data = s.data := hz.1.symm
    cases t; cases s; simp_all
  rw [this]
/-- A frame at block g. -/
def FrameAt (W : World) (g b n : Nat) (time count first bytes : Int) (D : DataW Unit) : Prop :=
  Blk W g 54 #[.int .u32 time, .int .i64 count, .int .i64 first, .map (some b), .int .i64 bytes] ∧ PartsAt W b n D
theorem FrameAt.below {w w' : World} {g b n : Nat} {time count first bytes : Int} {D : DataW Unit} (h : FrameAt w g b n time count first bytes D) (hb : Below w.heap.size w w') : FrameAt w' g b n time count first bytes D :=
  ⟨h.1.below hb h.1.lt, h.2.below hb⟩

set_option maxHeartbeats 1000000 in
theorem split_Time (g b n : Nat) (time count first bytes : Int) (D : DataW Unit) (w : World) (h : FrameAt w g b n time count first bytes D) :
    Calls Try.prog 20 #[.pointer (some ⟨g, 0, none⟩)] w fun e w' => e = .returned (.int .u32 time) ∧ w = w' := by
  have c := h.1.cell
  simp at c
  go_enter Try.func20, Try.ntmps20
  go_wp2
  go_ret
  exact ⟨rfl, rfl⟩

set_option maxHeartbeats 1000000 in
theorem split_First (g b n : Nat) (time count first bytes : Int) (D : DataW Unit) (w : World) (h : FrameAt w g b n time count first bytes D) :
    Calls Try.prog 21 #[.pointer (some ⟨g, 0, none⟩)] w fun e w' => e = .returned (.int .i64 first) ∧ w = w' := by
  have c := h.1.cell
  simp at c
  go_enter Try.func21, Try.ntmps21
  go_wp2
  go_ret
  exact ⟨rfl, rfl⟩

set_option maxHeartbeats 1000000 in
theorem split_IsWhole (g b n : Nat) (time count first bytes : Int) (D : DataW Unit) (r : Bool) (w : World) (h : FrameAt w g b n time count first bytes D) (hr : ((Maps.size D : Int) == count) = r) :
    Calls Try.prog 22 #[.pointer (some ⟨g, 0, none⟩)] w fun e w' => e = .returned (.bool r) ∧ Below w.heap.size w w' := by
  have E1 := fun (gx : Ext w) => gx.cell (h.1.cell 1) h.1.lt
  have E3 := fun (gx : Ext w) => gx.cell (h.1.cell 3) h.1.lt
  simp at E1 E3
  have HL := fun (gx : Ext w) (ty : TypeId) => World.ownsMap.len (h.2.below gx.below) Try.underlying52 ty
  go_enter Try.func22, Try.ntmps22
  go_upto_region 1 with fail
  refine wp_region_ext (by kernel_rfl) (by kernel_rfl) ?_; (repeat (go_big_quiet_step (fail))); refine wpQuiet_nil ?_; rintro _ ⟨gq, rfl⟩
  go_wp2_with fail
  go_ret
  exact ⟨by rw [← hr]; rfl, gq.below⟩

set_option maxHeartbeats 1000000 in
theorem split_New (time z first : Int) (n : Nat) (hn : clipI z 1 255 = (n : Int)) (w : World) :
    Calls Try.prog 11 #[.int .u32 time, .int .i64 z, .int .i64 first] w fun e w' => e = .returned (.pointer (some ⟨w.heap.size + 1, 0, none⟩)) ∧ FrameAt w' (w.heap.size + 1) w.heap.size 0 time n first 0 (.map []) ∧ Below w.heap.size w w' := by
  obtain ⟨m, hm⟩ : ∃ m, (if 255 < z then 255 else z) = m := ⟨_, rfl⟩
  have hm2 : (if 1 < m then m else 1) = (n : Int) := by rw [← hn, ← hm]; unfold clipI; split <;> split <;> omega
  clear hn
  have hmm := @run_makeMap Try.prog
  go_enter Try.func11, Try.ntmps11
  go_wp2_with fail
  go_ret
  refine ⟨rfl, ⟨Blk.new1 _ _ _ _, ?_⟩, ((Below.refl _ _).alloc (Nat.le_refl _) _).alloc (by simp) _⟩
  exact (World.ownsMap_made w Try.prog 3 _).alloc _
set_option maxHeartbeats 2000000 in
theorem split_PutOk (g b n : Nat) (time count first bytes i : Int) (D : DataW Unit) (s : ByteArray) (r : Int) (w : World) (h : FrameAt w g b n time count first bytes D) (hb : b ≠ g) (hn : n ≤ 1000) (hi0 : 0 ≤ i) (hi : i < count) (hc : count ≤ 255)
    (hnew : Maps.has D (.int .i64 i) = false) (hs : s.size ≤ 100000) (hby0 : 0 ≤ bytes) (hby : bytes ≤ 100000000) (hr : r = if ((Maps.size (D.put (.int .i64 i) (.lit (.string s.data.toList))) : Int) == count) = true then 2 else 1) :
    Calls Try.prog 12 #[.pointer (some ⟨g, 0, none⟩), .agg #[.int .i64 i, .int .i64 count], .string s] w fun e w' => e = .returned (.int .i64 r) ∧
      FrameAt w' g b (n + 1) time count first (bytes + s.size) (D.put (.int .i64 i) (.lit (.string s.data.toList))) ∧ (∀ B, B ≤ g → B ≤ b → B ≤ w.heap.size → Below B w w') := by
  have hwf : (Lit.int .i64 i).wf = true := WalkArith.wf_i64 (by omega)
  have HLK := fun (gx : Ext (w.alloc (.cells #[.int .i64 i, .int .i64 count] 34))) => PartsAt.look ((h.2.below ((Below.refl _ w).alloc (Nat.le_refl _) _)).below gx.below) i hwf ByteArray.empty (by rw [Maps.atKey_of_not_has hnew]; rfl) false hnew
  have k4 := Blk.new w 34 #[.int .i64 i, .int .i64 count]
  have h4 := h.below ((Below.refl _ w).alloc (Nat.le_refl _) (.cells #[.int .i64 i, .int .i64 count] 34))
  have hsz : g < w.heap.size := h.1.lt
  have hw1 : ∀ B, B ≤ w.heap.size → Below B w (w.alloc (.cells #[.int .i64 i, .int .i64 count] 34)) := fun B hB => (Below.refl _ _).alloc hB _
  go_enter Try.func12, Try.ntmps12
  go_upto_region 1 with fail
  generalize (w.alloc (.cells #[.int .i64 i, .int .i64 count] 34)) = w1 at *
  have EG1 := fun (gx : Ext w1) => gx.cell (h4.1.cell 1) h4.1.lt
  have EG3 := fun (gx : Ext w1) => gx.cell (h4.1.cell 3) h4.1.lt
  have EP0 := fun (gx : Ext w1) => gx.cell (k4.cell 0) k4.lt
  have EP1 := fun (gx : Ext w1) => gx.cell (k4.cell 1) k4.lt
  simp at EG1 EG3 EP0 EP1
  refine wp_region_ext (by kernel_rfl) (by kernel_rfl) ?_; (repeat (go_big_quiet_step (fail))); refine wpQuiet_nil ?_; rintro _ ⟨gq, rfl⟩
  clear EG1 EG3 EP0 EP1 HLK
  have h5 := h4.below gq.below
  have k5 := k4.below gq.below k4.lt
  have B5 := gq.below
  generalize gq.world = w2 at h5 k5 B5 ⊢
  clear gq
  have EG1 := fun (gx : Ext w2) => gx.cell (h5.1.cell 1) h5.1.lt
  have EP0 := fun (gx : Ext w2) => gx.cell (k5.cell 0) k5.lt
  have EP1 := fun (gx : Ext w2) => gx.cell (k5.cell 1) k5.lt
  simp at EG1 EP0 EP1
  have j1 : (count != count) = false := by simp
  have j2 : decide (i < 0) = false := by simp; omega
  have j3 : decide (count ≤ i) = false := by simp; omega
  go_upto_region 2 with fail
  refine wp_region_ext (by kernel_rfl) (by kernel_rfl) ?_; (repeat (go_big_quiet_step (fail))); refine wpQuiet_nil ?_; rintro _ ⟨gq, rfl⟩
  clear EG1 EP0 EP1
  have h6 := h5.below gq.below
  have k6 := k5.below gq.below k5.lt
  have B6 := B5.trans (gq.below.mono B5.size)
  generalize gq.world = w3 at h6 k6 B6 ⊢
  clear gq h5 k5 B5
  go_upto_region 6 with fail
  have EG3 := fun (gx : Ext w3) => gx.cell (h6.1.cell 3) h6.1.lt
  have EP0 := fun (gx : Ext w3) => gx.cell (k6.cell 0) k6.lt
  simp at EG3 EP0
  refine wp_region_ext_tail 7 (by kernel_rfl) (by kernel_rfl) ?_; simp only [List.take_succ_cons, List.take_zero, List.drop_succ_cons, List.drop_zero]; (repeat (go_big_quiet_step (fail))); refine wpQuiet_nil ?_; rintro _ ⟨gq, rfl⟩
  clear EG3 EP0
  have h7 := h6.below gq.below
  have B7 := B6.trans (gq.below.mono B6.size)
  generalize gq.world = w4 at h7 B7 ⊢
  clear gq h6 k6 B6
  go_upto_region 7 with (at_mapUpdate; refine wpList_mapUpdate_own _ rfl _ _ _ 52 rfl 3 9 keyed_int Try.underlying52 _ b n _ rfl h7.2 (by unfold maxLen; omega) _ _ _ rfl rfl (keyOf_int_mk Try.underlying3 hwf) _ [] (plainElem_string Try.underlying9 (by rw [maxLen_eq]; omega)) ?_; intro w5 hown5 hgrow5)
  have k7 : Blk w5 g 54 #[.int .u32 time, .int .i64 count, .int .i64 first, .map (some b), .int .i64 bytes] := (hgrow5.block g h7.1.lt (fun e => hb (by injection e with e; exact e.symm))).trans h7.1
  have hs1 : w.heap.size < w4.heap.size := Nat.lt_of_lt_of_le k4.lt B7.size
  have c7 := k7.cell
  have f7 := k7.frozen
  simp at c7
  have wy : IntKind.i64.wrap (bytes + (s.size : Int)) = bytes + (s.size : Int) := IntWalk.i64_in _ (by omega)
  go_upto_region 8 with fail
  have h8 : FrameAt (w5.setCell ⟨g, 4, none⟩ (.int .i64 (bytes + s.size))) g b (n + 1) time count first (bytes + s.size) (D.put (.int .i64 i) (.lit (.string s.data.toList))) := ⟨by simpa using k7.set_ 4 (.int .i64 (bytes + s.size)), World.ownsMap.setCell hown5 (a := ⟨g, 4, none⟩) hb _⟩
  have hk8 : ∀ B, B ≤ g → B ≤ b → B ≤ w.heap.size → Below B w (w5.setCell ⟨g, 4, none⟩ (.int .i64 (bytes + s.size))) := fun B hg hbj hB =>
    ((((hw1 B hB).trans (B7.mono (Nat.le_trans hB (Nat.le_of_lt k4.lt)))).grown hgrow5 (by omega) (fun j hj => by injection hj with hj; omega)).setCell hg _)
  generalize (w5.setCell ⟨g, 4, none⟩ (.int .i64 (bytes + s.size))) = w6 at *
  clear k7 c7 f7 hown5 hgrow5 h7 B7
  obtain ⟨rb, hrb⟩ : ∃ rb, ((Maps.size (D.put (.int .i64 i) (.lit (.string s.data.toList))) : Int) == count) = rb := ⟨_, rfl⟩
  rw [hrb] at hr
  have HW := Lib.hid (split_IsWhole g b (n + 1) time count first (bytes + s.size) _ rb w6 h8 hrb)
  have H8 := Lib.hid h8
  have HK8 := Lib.hid hk8
  clear h8 hk8 hrb
  go_wp2_with fail
  refine HW.out.mono ?_
  rintro e w7 ⟨rfl, hb7⟩
  cases rb
  all_goals
    simp at hr
    subst hr
    go_wp2_with fail
    go_ret
    exact ⟨rfl, H8.out.below hb7, fun B hg hbj hB => (HK8.out B hg hbj hB).trans (hb7.mono (Nat.le_trans hB (HK8.out B hg hbj hB).size))⟩
end Go.Proofs.Ytagponhnkodjhaa
