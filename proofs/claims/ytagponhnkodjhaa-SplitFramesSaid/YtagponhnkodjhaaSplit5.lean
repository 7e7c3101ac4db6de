/- Package split: Put of a part that was there or may not be, Lacks, Data, Have, Count, Bytes, Clone, walked. No condition but that the frame stands. -/
import Derived.Test.YtagponhnkodjhaaSplit4
namespace Go.Proofs.Ytagponhnkodjhaa
open Go.RowKit Go.Maps Go.Shelf BigFrame
attribute [local go_sem ↓] Go.wp_at_zero Go.wp_at_succ

theorem PartsAt.look0 {w : World} {b n : Nat} {D : DataW Unit} (h : PartsAt w b n D) (i : Int) (hi : (Lit.int .i64 i).wf = true) (s : ByteArray) (hat : D.atKey (.int .i64 i) (.lit (.string [])) = .lit (.string s.data.toList)) :
    (Instr.lookup 52 (.map (some b)) (.int .i64 i) false).run Try.prog w = .ok (.string s) w := by
  obtain ⟨v, ps, hrun, hv⟩ := World.ownsMap.lookup h keyed_int Try.underlying52 (z := .string ByteArray.empty) (by kernel_rfl) (zd := .lit (.string [])) (zp := []) (plainElem_string Try.underlying9 (by decide)) (keyOf_int_mk Try.underlying3 hi)
  rw [hrun]
  obtain ⟨t, rfl, hz, _⟩ := plainElem_string_inv Try.underlying9 hv
  rw [hat] at hz
  simp at hz
  have : t = s := by
    have h1 : t.data = s.data := hz.1.symm
    cases t; cases s; simp_all
  rw [this]
theorem PartsAt.at_string {w : World} {b n : Nat} {D : DataW Unit} (h : PartsAt w b n D) (i : Int) (hi : (Lit.int .i64 i).wf = true) : ∃ s : ByteArray, D.atKey (.int .i64 i) (.lit (.string [])) = .lit (.string s.data.toList) := by
  obtain ⟨v, ps, hrun, hv⟩ := World.ownsMap.look_ok h keyed_int Try.underlying52 (z := .string ByteArray.empty) (by kernel_rfl) (zd := .lit (.string [])) (zp := []) (plainElem_string Try.underlying9 (by decide)) (keyOf_int_mk Try.underlying3 hi)
  obtain ⟨t, rfl, hz, _⟩ := plainElem_string_inv Try.underlying9 hv
  exact ⟨t, by injection hz⟩
set_option maxHeartbeats 2000000 in
theorem split_PutTwice (g b n : Nat) (time count first bytes i pc : Int) (D : DataW Unit) (s : ByteArray) (w : World) (h : FrameAt w g b n time count first bytes D) (hwf : (Lit.int .i64 i).wf = true) (hc : pc = count) (hi0 : 0 ≤ i) (hi : i < count) (hhas : Maps.has D (.int .i64 i) = true) :
    Calls Try.prog 12 #[.pointer (some ⟨g, 0, none⟩), .agg #[.int .i64 i, .int .i64 pc], .string s] w fun e w' => e = .returned (.int .i64 3) ∧ Below w.heap.size w w' := by
  obtain ⟨t, ht⟩ := PartsAt.at_string h.2 i hwf
  obtain ⟨bk, hbk⟩ : ∃ bk, Maps.has D (.int .i64 i) = bk := ⟨_, rfl⟩
  rw [hhas] at hbk
  subst hbk
  have HHAS := Lib.hid hhas
  subst hc
  have j1 : (pc != pc) = false := by simp
  have j2 : decide (i < 0) = false := by simp; omega
  have j3 : decide (pc ≤ i) = false := by simp; omega
  have HLK := fun (gx : Ext (w.alloc (.cells #[.int .i64 i, .int .i64 pc] 34))) => PartsAt.look ((h.2.below ((Below.refl _ w).alloc (Nat.le_refl _) _)).below gx.below) i hwf t ht _ HHAS.out
  have k4 := Blk.new w 34 #[.int .i64 i, .int .i64 pc]
  have h4 := h.below ((Below.refl _ w).alloc (Nat.le_refl _) (.cells #[.int .i64 i, .int .i64 pc] 34))
  have hw1 : Below w.heap.size w (w.alloc (.cells #[.int .i64 i, .int .i64 pc] 34)) := (Below.refl _ _).alloc (Nat.le_refl _) _
  clear ht hhas
  go_enter Try.func12, Try.ntmps12
  go_upto_region 1 with fail
  generalize (w.alloc (.cells #[.int .i64 i, .int .i64 pc] 34)) = w1 at *
  have EG1 := fun (gx : Ext w1) => gx.cell (h4.1.cell 1) h4.1.lt
  have EG3 := fun (gx : Ext w1) => gx.cell (h4.1.cell 3) h4.1.lt
  have EP0 := fun (gx : Ext w1) => gx.cell (k4.cell 0) k4.lt
  have EP1 := fun (gx : Ext w1) => gx.cell (k4.cell 1) k4.lt
  simp at EG1 EG3 EP0 EP1
  refine wp_region_ext (by kernel_rfl) (by kernel_rfl) ?_; (repeat (go_big_quiet_step (fail))); refine wpQuiet_nil ?_; rintro _ ⟨gq, rfl⟩
  clear EG1 EG3 EP0 EP1 HLK
  have h5 := h4.below gq.below
  have k5 := k4.below gq.below k4.lt
  have B5 := below_then hw1 gq.below (Nat.le_refl _)
  generalize gq.world = w2 at h5 k5 B5 ⊢
  clear gq
  have EG1 := fun (gx : Ext w2) => gx.cell (h5.1.cell 1) h5.1.lt
  have EP0 := fun (gx : Ext w2) => gx.cell (k5.cell 0) k5.lt
  have EP1 := fun (gx : Ext w2) => gx.cell (k5.cell 1) k5.lt
  simp at EG1 EP0 EP1
  go_upto_region 2 with fail
  refine wp_region_ext (by kernel_rfl) (by kernel_rfl) ?_; (repeat (go_big_quiet_step (fail))); refine wpQuiet_nil ?_; rintro _ ⟨gq, rfl⟩
  clear EG1 EP0 EP1
  have B6 := below_then B5 gq.below (Nat.le_refl _)
  generalize gq.world = w3 at B6 ⊢
  clear gq h5 k5 B5
  go_wp2_with fail
  go_ret
  exact ⟨rfl, B6⟩
set_option maxHeartbeats 2000000 in
theorem split_PutBad1 (g b n : Nat) (time count first bytes i pc : Int) (D : DataW Unit) (s : ByteArray) (w : World) (h : FrameAt w g b n time count first bytes D) (hwf : (Lit.int .i64 i).wf = true) (hc : pc ≠ count) :
    Calls Try.prog 12 #[.pointer (some ⟨g, 0, none⟩), .agg #[.int .i64 i, .int .i64 pc], .string s] w fun e w' => e = .returned (.int .i64 4) ∧ Below w.heap.size w w' := by
  obtain ⟨t, ht⟩ := PartsAt.at_string h.2 i hwf
  obtain ⟨bk, hbk⟩ : ∃ bk, Maps.has D (.int .i64 i) = bk := ⟨_, rfl⟩
  have j1 : (pc != count) = true := by simpa using hc
  clear hc
  have HLK := fun (gx : Ext (w.alloc (.cells #[.int .i64 i, .int .i64 pc] 34))) => PartsAt.look ((h.2.below ((Below.refl _ w).alloc (Nat.le_refl _) _)).below gx.below) i hwf t ht _ hbk
  have k4 := Blk.new w 34 #[.int .i64 i, .int .i64 pc]
  have h4 := h.below ((Below.refl _ w).alloc (Nat.le_refl _) (.cells #[.int .i64 i, .int .i64 pc] 34))
  have hw1 : Below w.heap.size w (w.alloc (.cells #[.int .i64 i, .int .i64 pc] 34)) := (Below.refl _ _).alloc (Nat.le_refl _) _
  clear hbk ht
  go_enter Try.func12, Try.ntmps12
  go_upto_region 1 with fail
  generalize (w.alloc (.cells #[.int .i64 i, .int .i64 pc] 34)) = w1 at *
  have EG1 := fun (gx : Ext w1) => gx.cell (h4.1.cell 1) h4.1.lt
  have EG3 := fun (gx : Ext w1) => gx.cell (h4.1.cell 3) h4.1.lt
  have EP0 := fun (gx : Ext w1) => gx.cell (k4.cell 0) k4.lt
  have EP1 := fun (gx : Ext w1) => gx.cell (k4.cell 1) k4.lt
  simp at EG1 EG3 EP0 EP1
  refine wp_region_ext (by kernel_rfl) (by kernel_rfl) ?_; (repeat (go_big_quiet_step (fail))); refine wpQuiet_nil ?_; rintro _ ⟨gq, rfl⟩
  clear EG1 EG3 EP0 EP1 HLK
  have h5 := h4.below gq.below
  have k5 := k4.below gq.below k4.lt
  have B5 := below_then hw1 gq.below (Nat.le_refl _)
  generalize gq.world = w2 at h5 k5 B5 ⊢
  clear gq
  have EG1 := fun (gx : Ext w2) => gx.cell (h5.1.cell 1) h5.1.lt
  have EP0 := fun (gx : Ext w2) => gx.cell (k5.cell 0) k5.lt
  have EP1 := fun (gx : Ext w2) => gx.cell (k5.cell 1) k5.lt
  simp at EG1 EP0 EP1
  go_upto_region 2 with fail
  refine wp_region_ext (by kernel_rfl) (by kernel_rfl) ?_; (repeat (go_big_quiet_step (fail))); refine wpQuiet_nil ?_; rintro _ ⟨gq, rfl⟩
  clear EG1 EP0 EP1
  have B6 := below_then B5 gq.below (Nat.le_refl _)
  generalize gq.world = w3 at B6 ⊢
  clear gq h5 k5 B5
  go_wp2_with fail
  go_ret
  exact ⟨rfl, B6⟩
set_option maxHeartbeats 2000000 in
theorem split_PutBad2 (g b n : Nat) (time count first bytes i pc : Int) (D : DataW Unit) (s : ByteArray) (w : World) (h : FrameAt w g b n time count first bytes D) (hwf : (Lit.int .i64 i).wf = true) (hc : pc = count) (hi : i < 0) :
    Calls Try.prog 12 #[.pointer (some ⟨g, 0, none⟩), .agg #[.int .i64 i, .int .i64 pc], .string s] w fun e w' => e = .returned (.int .i64 4) ∧ Below w.heap.size w w' := by
  obtain ⟨t, ht⟩ := PartsAt.at_string h.2 i hwf
  obtain ⟨bk, hbk⟩ : ∃ bk, Maps.has D (.int .i64 i) = bk := ⟨_, rfl⟩
  subst hc
  have j1 : (pc != pc) = false := by simp
  have j2 : decide (i < 0) = true := by simpa using hi
  have HLK := fun (gx : Ext (w.alloc (.cells #[.int .i64 i, .int .i64 pc] 34))) => PartsAt.look ((h.2.below ((Below.refl _ w).alloc (Nat.le_refl _) _)).below gx.below) i hwf t ht _ hbk
  have k4 := Blk.new w 34 #[.int .i64 i, .int .i64 pc]
  have h4 := h.below ((Below.refl _ w).alloc (Nat.le_refl _) (.cells #[.int .i64 i, .int .i64 pc] 34))
  have hw1 : Below w.heap.size w (w.alloc (.cells #[.int .i64 i, .int .i64 pc] 34)) := (Below.refl _ _).alloc (Nat.le_refl _) _
  clear hbk ht
  go_enter Try.func12, Try.ntmps12
  go_upto_region 1 with fail
  generalize (w.alloc (.cells #[.int .i64 i, .int .i64 pc] 34)) = w1 at *
  have EG1 := fun (gx : Ext w1) => gx.cell (h4.1.cell 1) h4.1.lt
  have EG3 := fun (gx : Ext w1) => gx.cell (h4.1.cell 3) h4.1.lt
  have EP0 := fun (gx : Ext w1) => gx.cell (k4.cell 0) k4.lt
  have EP1 := fun (gx : Ext w1) => gx.cell (k4.cell 1) k4.lt
  simp at EG1 EG3 EP0 EP1
  refine wp_region_ext (by kernel_rfl) (by kernel_rfl) ?_; (repeat (go_big_quiet_step (fail))); refine wpQuiet_nil ?_; rintro _ ⟨gq, rfl⟩
  clear EG1 EG3 EP0 EP1 HLK
  have h5 := h4.below gq.below
  have k5 := k4.below gq.below k4.lt
  have B5 := below_then hw1 gq.below (Nat.le_refl _)
  generalize gq.world = w2 at h5 k5 B5 ⊢
  clear gq
  have EG1 := fun (gx : Ext w2) => gx.cell (h5.1.cell 1) h5.1.lt
  have EP0 := fun (gx : Ext w2) => gx.cell (k5.cell 0) k5.lt
  have EP1 := fun (gx : Ext w2) => gx.cell (k5.cell 1) k5.lt
  simp at EG1 EP0 EP1
  go_upto_region 2 with fail
  refine wp_region_ext (by kernel_rfl) (by kernel_rfl) ?_; (repeat (go_big_quiet_step (fail))); refine wpQuiet_nil ?_; rintro _ ⟨gq, rfl⟩
  clear EG1 EP0 EP1
  have B6 := below_then B5 gq.below (Nat.le_refl _)
  generalize gq.world = w3 at B6 ⊢
  clear gq h5 k5 B5
  go_wp2_with fail
  go_ret
  exact ⟨rfl, B6⟩
set_option maxHeartbeats 2000000 in
theorem split_PutBad3 (g b n : Nat) (time count first bytes i pc : Int) (D : DataW Unit) (s : ByteArray) (w : World) (h : FrameAt w g b n time count first bytes D) (hwf : (Lit.int .i64 i).wf = true) (hc : pc = count) (hi0 : 0 ≤ i) (hi : count ≤ i) :
    Calls Try.prog 12 #[.pointer (some ⟨g, 0, none⟩), .agg #[.int .i64 i, .int .i64 pc], .string s] w fun e w' => e = .returned (.int .i64 4) ∧ Below w.heap.size w w' := by
  obtain ⟨t, ht⟩ := PartsAt.at_string h.2 i hwf
  obtain ⟨bk, hbk⟩ : ∃ bk, Maps.has D (.int .i64 i) = bk := ⟨_, rfl⟩
  subst hc
  have j1 : (pc != pc) = false := by simp
  have j2 : decide (i < 0) = false := by simp; omega
  have j3 : decide (pc ≤ i) = true := by simpa using hi
  have HLK := fun (gx : Ext (w.alloc (.cells #[.int .i64 i, .int .i64 pc] 34))) => PartsAt.look ((h.2.below ((Below.refl _ w).alloc (Nat.le_refl _) _)).below gx.below) i hwf t ht _ hbk
  have k4 := Blk.new w 34 #[.int .i64 i, .int .i64 pc]
  have h4 := h.below ((Below.refl _ w).alloc (Nat.le_refl _) (.cells #[.int .i64 i, .int .i64 pc] 34))
  have hw1 : Below w.heap.size w (w.alloc (.cells #[.int .i64 i, .int .i64 pc] 34)) := (Below.refl _ _).alloc (Nat.le_refl _) _
  clear hbk ht
  go_enter Try.func12, Try.ntmps12
  go_upto_region 1 with fail
  generalize (w.alloc (.cells #[.int .i64 i, .int .i64 pc] 34)) = w1 at *
  have EG1 := fun (gx : Ext w1) => gx.cell (h4.1.cell 1) h4.1.lt
  have EG3 := fun (gx : Ext w1) => gx.cell (h4.1.cell 3) h4.1.lt
  have EP0 := fun (gx : Ext w1) => gx.cell (k4.cell 0) k4.lt
  have EP1 := fun (gx : Ext w1) => gx.cell (k4.cell 1) k4.lt
  simp at EG1 EG3 EP0 EP1
  refine wp_region_ext (by kernel_rfl) (by kernel_rfl) ?_; (repeat (go_big_quiet_step (fail))); refine wpQuiet_nil ?_; rintro _ ⟨gq, rfl⟩
  clear EG1 EG3 EP0 EP1 HLK
  have h5 := h4.below gq.below
  have k5 := k4.below gq.below k4.lt
  have B5 := below_then hw1 gq.below (Nat.le_refl _)
  generalize gq.world = w2 at h5 k5 B5 ⊢
  clear gq
  have EG1 := fun (gx : Ext w2) => gx.cell (h5.1.cell 1) h5.1.lt
  have EP0 := fun (gx : Ext w2) => gx.cell (k5.cell 0) k5.lt
  have EP1 := fun (gx : Ext w2) => gx.cell (k5.cell 1) k5.lt
  simp at EG1 EP0 EP1
  go_upto_region 2 with fail
  refine wp_region_ext (by kernel_rfl) (by kernel_rfl) ?_; (repeat (go_big_quiet_step (fail))); refine wpQuiet_nil ?_; rintro _ ⟨gq, rfl⟩
  clear EG1 EP0 EP1
  have B6 := below_then B5 gq.below (Nat.le_refl _)
  generalize gq.world = w3 at B6 ⊢
  clear gq h5 k5 B5
  go_wp2_with fail
  go_ret
  exact ⟨rfl, B6⟩

def natCells (l : List Nat) : List Value := l.map fun (i : Nat) => Value.int .i64 (i : Int)
theorem natCells_snoc (l : List Nat) (k : Nat) : natCells (l ++ [k]) = natCells l ++ [.int .i64 (k : Int)] := by simp [natCells]
set_option maxHeartbeats 2000000 in
theorem split_Lacks (g b n : Nat) (time first bytes : Int) (c : Nat) (D : DataW Unit) (hh : Nat → Bool) (d : Nat → ByteArray) (hc : c ≤ 255) (hD : HasAs D c hh d) (w : World) (h : FrameAt w g b n time c first bytes D) :
    Calls Try.prog 13 #[.pointer (some ⟨g, 0, none⟩)] w (OwnsRes w 3 (lacksL c hh).length (natCells (lacksL c hh))) := by
  obtain ⟨i0, hi0, hz0, hz1, hz2⟩ := info_parts (show (Try.prog.info? 3).map (fun i => (i.zero, i.size, i.bytes)) = some (some (.int .i64 0), 1, 8) by kernel_rfl)
  have e1 := h.1.cell 1
  simp at e1
  go_enter Try.func13, Try.ntmps13
  go_wp2_with fail
  clear e1
  go_loopw [3, 11] (fun x3 x11 wr => ∃ k : Nat, k ≤ c ∧ x11 = .int .i64 k ∧ wr.ownsRow w.heap.size 3 1 x3 (lacksL k hh).length (natCells (lacksL k hh)) ∧ Below w.heap.size w wr) (fun _ x11 _ => c - (intOf x11).toNat)
  case atStart => exact ⟨0, by omega, rfl, ⟨rfl, .inl ⟨rfl, rfl⟩⟩, Below.refl _ _⟩
  case round =>
    obtain ⟨k, hk, rfl, own, B⟩ := hrel
    have hF := h.below B
    have e1 := hF.1.cell 1
    have e3 := hF.1.cell 3
    simp at e1 e3
    by_cases hlt : k < c
    · have p0 : (0 : Int) ≤ (k : Int) := by omega
      have p1 : (k : Int) < (c : Int) := by omega
      have wk : IntKind.i64.wrap ((k : Int) + 1) = ((k + 1 : Nat) : Int) := by rw [IntWalk.i64_in _ (by omega)]; omega
      have hwf : (Lit.int .i64 (k : Int)).wf = true := WalkArith.wf_i64 (by omega)
      have hs := lacksL_succ k hh
      obtain ⟨bk, hbk⟩ : ∃ bk, hh k = bk := ⟨_, rfl⟩
      have HL := PartsAt.look hF.2 (k : Int) hwf (d k) (hD.1 k hlt).2 bk (by rw [← hbk]; exact (hD.1 k hlt).1)
      rw [hbk] at hs
      have hll : (lacksL k hh).length ≤ 255 := by have := lacks_len k hh; omega
      clear hbk
      cases bk
      · simp only [Bool.false_eq_true, if_false] at hs
        have HS := Lib.hid hs
        clear hs
        go_wp2_with (at_builtin; refine wpList_append_lies _ rfl _ _ 27 rfl w.heap.size 3 i0 (.int .i64 0) 1 8 Try.underlying27 hi0 hz0 hz1 hz2 rfl (by decide) _ _ _ rfl (own.alloc _) ⟨wr.heap.size, 0, none⟩ 1 1 [.int .i64 (k : Int)] rfl rfl (cell_one_new _ _ _) (by simp [Value.oneCell']) (by omega) (by rw [maxLen_eq]; omega) (by omega) (Nat.le_trans B.size (by simp)) _ rfl ?_; intro g2 cap w1 own1 hgrow hat hlt1)
        have hB1 := (B.alloc B.size _).grown hgrow (by have := B.size; simp; omega) (fun j hj => (own.lt j hj).1)
        go_roundw
        case rel => exact ⟨k + 1, by omega, by go_num, by rw [HS.out, natCells_snoc, List.length_append]; exact own1, hB1⟩
        case measure => simp only [intOf]; omega
      · simp only [if_true, List.append_nil] at hs
        have HS := Lib.hid hs
        clear hs
        go_wp2_with fail
        go_roundw
        case rel => exact ⟨k + 1, by omega, by go_num, by rw [HS.out]; exact own, B⟩
        case measure => simp only [intOf]; omega
    · obtain rfl : k = c := by omega
      have j1 : ¬ (k : Int) < (k : Int) := by omega
      go_wp2_with fail
      go_ret
      exact ⟨_, rfl, own, B⟩

set_option maxHeartbeats 2000000 in
theorem split_Data (g b n : Nat) (time first bytes : Int) (c : Nat) (D : DataW Unit) (hh : Nat → Bool) (d : Nat → ByteArray) (hc : c ≤ 255) (hD : HasAs D c hh d) (hall : cntH c hh = c) (hsz : ∀ i, (d i).size ≤ 100000) (w : World) (h : FrameAt w g b n time c first bytes D) :
    Calls Try.prog 14 #[.pointer (some ⟨g, 0, none⟩)] w fun e w' => e = .returned (.tuple #[.string ⟨(catD c d).toArray⟩, .bool true]) ∧ Below w.heap.size w w' := by
  have HW := Lib.hid (split_IsWhole g b n time c first bytes D true w h (by rw [hD.2, hall]; simp))
  have HA := Lib.hid hall
  clear hall
  go_enter Try.func14, Try.ntmps14
  go_wp2_with fail
  refine HW.out.mono ?_
  rintro e w1 ⟨rfl, B1⟩
  have h1 := h.below B1
  have hb1 : ∀ o, Below w1.heap.size w1 (w1.alloc o) := fun o => (Below.refl _ _).alloc (Nat.le_refl _) _
  have e1 := (h1.below (hb1 (.cells #[.pointer none, .slice none 0 0] 58))).1.cell 1
  simp at e1
  have hbs : Lib.IsBuilder 58 5 w1.heap.size w1.heap.size [] (w1.alloc (.cells #[.pointer none, .slice none 0 0] 58)) := Lib.fresh_isBuilder _ _ w1
  have hs1 := B1.size
  go_wp2_with fail
  clear e1
  go_loopw [13] (fun x13 wr => ∃ k : Nat, k ≤ c ∧ x13 = .int .i64 k ∧ Lib.IsBuilder 58 5 w1.heap.size w1.heap.size (Lib.byteCells (catD k d)) wr ∧ Below w1.heap.size w1 wr) (fun x13 _ => c - (intOf x13).toNat)
  case atStart => exact ⟨0, by omega, rfl, hbs, hb1 _⟩
  case round =>
    obtain ⟨k, hk, rfl, hbd, B⟩ := hrel
    have hF := h1.below B
    have e1 := hF.1.cell 1
    have e3 := hF.1.cell 3
    simp at e1 e3
    have hlen : ∀ m, (catD m d).length ≤ m * 100000 := by
      intro m
      induction m with
      | zero => simp [catD]
      | succ m ih =>
        rw [catD_succ, List.length_append]
        have : (d m).data.toList.length ≤ 100000 := by have := hsz m; simpa using this
        omega
    by_cases hlt : k < c
    · have p0 : (0 : Int) ≤ (k : Int) := by omega
      have p1 : (k : Int) < (c : Int) := by omega
      have wk : IntKind.i64.wrap ((k : Int) + 1) = ((k + 1 : Nat) : Int) := by rw [IntWalk.i64_in _ (by omega)]; omega
      have hwf : (Lit.int .i64 (k : Int)).wf = true := WalkArith.wf_i64 (by omega)
      have HS := Lib.hid (catD_succ k d)
      have HL := PartsAt.look0 hF.2 (k : Int) hwf (d k) (hD.1 k hlt).2
      have HB := Lib.hid (builder_WriteString w1.heap.size w1.heap.size (Lib.byteCells (catD k d)) (d k) wr hbd (by have := hlen k; have := hsz k; simp [Lib.byteCells_length]; omega) B.size)
      clear hbd hlen
      go_wp2_with fail
      refine HB.out.mono ?_
      rintro e w2 ⟨rfl, hb2, B2⟩
      go_wp2_with fail
      go_roundw
      case rel =>
        refine ⟨k + 1, by omega, by go_num, .inr ?_, B.trans B2⟩
        rw [HS.out]
        simpa [Lib.byteCells, Lib.strCells] using hb2
      case measure => simp only [intOf]; omega
    · obtain rfl : k = c := by omega
      have j1 : ¬ (k : Int) < (k : Int) := by omega
      have HB := Lib.hid (builder_String w1.heap.size w1.heap.size (catD k d) wr hbd B.size)
      clear hbd hlen
      go_wp2_with fail
      refine HB.out.mono ?_
      rintro e w2 ⟨rfl, B2⟩
      go_wp2_with fail
      go_ret2
      exact ⟨rfl, B1.trans ((B.trans B2).mono B1.size)⟩

set_option maxHeartbeats 2000000 in
theorem split_DataNo (g b n : Nat) (time first bytes : Int) (c : Nat) (D : DataW Unit) (hh : Nat → Bool) (d : Nat → ByteArray) (hD : HasAs D c hh d) (hall : cntH c hh ≠ c) (w : World) (h : FrameAt w g b n time c first bytes D) :
    Calls Try.prog 14 #[.pointer (some ⟨g, 0, none⟩)] w fun e w' => e = .returned (.tuple #[.string ⟨#[]⟩, .bool false]) ∧ Below w.heap.size w w' := by
  have HW := Lib.hid (split_IsWhole g b n time c first bytes D false w h (by rw [hD.2]; simp; omega))
  clear hall
  go_enter Try.func14, Try.ntmps14
  go_wp2_with fail
  refine HW.out.mono ?_
  rintro e w1 ⟨rfl, B1⟩
  go_wp2_with fail
  go_ret2
  exact ⟨rfl, B1⟩
end Go.Proofs.Ytagponhnkodjhaa
