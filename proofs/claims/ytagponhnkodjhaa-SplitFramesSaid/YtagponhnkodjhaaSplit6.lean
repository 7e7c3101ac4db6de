/- Package split: the frame in the words of plain functions, each method's contract over it; rows of cells as functions. No condition but that the frame stands. -/
import Derived.Test.YtagponhnkodjhaaSplit5
import Derived.Shelf.SlMaps.Clone
namespace Go.Proofs.Ytagponhnkodjhaa
open Go.RowKit Go.Maps Go.Shelf BigFrame
attribute [local go_sem ↓] Go.wp_at_zero Go.wp_at_succ

def rowV (n : Nat) (f : Nat → Value) : Array Value := ((List.range n).map f).toArray
theorem rowV_size (n : Nat) (f : Nat → Value) : (rowV n f).size = n := by simp [rowV]
theorem rowV_get (n : Nat) (f : Nat → Value) (i : Nat) (h : i < n) : (rowV n f)[i]? = some (f i) := by simp [rowV, h]
theorem rowV_set (n : Nat) (f : Nat → Value) (i : Nat) (x : Value) : (rowV n f).setIfInBounds i x = rowV n (updN f i x) := by
  apply Array.ext_getElem?
  intro j
  rw [Array.getElem?_setIfInBounds, rowV_size]
  by_cases hj : j < n
  · rw [rowV_get _ _ _ hj, rowV_get _ _ _ hj]
    by_cases e : i = j
    · subst e; simp [updN, hj]
    · have e' : ¬ j = i := fun h => e h.symm
      simp [e, updN, e']
  · have h1 : (rowV n f)[j]? = none := Array.getElem?_eq_none (by rw [rowV_size]; omega)
    have h2 : ∀ g, (rowV n g)[j]? = none := fun g => Array.getElem?_eq_none (by rw [rowV_size]; omega)
    rw [h1, h2]
    by_cases e : i = j
    · subst e; simp [hj]
    · simp [e]
theorem updN_map {α β : Type} (f : Nat → α) (k : Nat) (x : α) (F : α → β) : updN (fun i => F (f i)) k (F x) = fun i => F (updN f k x i) := by
  funext i
  unfold updN
  split <;> rfl
theorem madeV (n : Nat) (z : Value) : madeCells #[z] n = rowV n (fun _ => z) := by
  have h := toList_madeCells_one z n
  apply Array.ext'
  rw [h]
  simp [rowV, List.map_const']

def sumD (c : Nat) (d : Nat → ByteArray) : Nat := (catD c d).length
theorem sumD_succ (k : Nat) (d : Nat → ByteArray) : sumD (k + 1) d = sumD k d + (d k).size := by
  unfold sumD
  rw [catD_succ, List.length_append]
  simp
theorem sumD_le (c : Nat) (d : Nat → ByteArray) (h : ∀ i, (d i).size ≤ 100000) : sumD c d ≤ c * 100000 := by
  induction c with
  | zero => simp [sumD, catD]
  | succ c ih => rw [sumD_succ]; have := h c; omega
theorem sumD_congr (c : Nat) (d e : Nat → ByteArray) (h : ∀ i, i < c → d i = e i) : sumD c d = sumD c e := by
  induction c with
  | zero => rfl
  | succ c ih => rw [sumD_succ, sumD_succ, ih (fun i hi => h i (by omega)), h c (by omega)]
theorem sumD_upd (c k : Nat) (d : Nat → ByteArray) (s : ByteArray) (hk : k < c) (hd : (d k).size = 0) : sumD c (updN d k s) = sumD c d + s.size := by
  induction c with
  | zero => omega
  | succ c ih =>
    rw [sumD_succ, sumD_succ]
    by_cases e : k = c
    · subst e
      rw [sumD_congr k (updN d k s) d (fun i hi => by unfold updN; rw [if_neg (by omega)])]
      have : updN d k s k = s := by simp [updN]
      rw [this, hd]
      omega
    · rw [ih (by omega)]
      have : updN d k s c = d c := by unfold updN; rw [if_neg (by omega)]
      rw [this]
      omega
theorem HasAs.none_ {D : DataW Unit} {c : Nat} {h : Nat → Bool} {d : Nat → ByteArray} (H : HasAs D c h d) {k : Nat} (hk : k < c) (hh : h k = false) : (d k).size = 0 := by
  obtain ⟨h1, h2⟩ := H.1 k hk
  rw [hh] at h1
  rw [Maps.atKey_of_not_has h1] at h2
  injection h2 with h2
  injection h2 with h2
  have : (d k).data.toList.length = 0 := by rw [← h2]; rfl
  simpa using this
/-- The frame at block g: c parts, of which h are there, reading as d. -/
def FrameIs (W : World) (g b : Nat) (time first : Int) (c : Nat) (h : Nat → Bool) (d : Nat → ByteArray) : Prop :=
  b ≠ g ∧ (∀ i, (d i).size ≤ 100000) ∧ ∃ D, FrameAt W g b (cntH c h) time c first (sumD c d) D ∧ HasAs D c h d
theorem FrameIs.below {w w' : World} {g b : Nat} {time first : Int} {c : Nat} {h : Nat → Bool} {d : Nat → ByteArray} (H : FrameIs w g b time first c h d) (hb : Below w.heap.size w w') : FrameIs w' g b time first c h d := by
  obtain ⟨h1, h2, D, h3, h4⟩ := H
  exact ⟨h1, h2, D, h3.below hb, h4⟩
theorem FrameIs.kept {w w' : World} {g b : Nat} {time first : Int} {c : Nat} {h : Nat → Bool} {d : Nat → ByteArray} (H : FrameIs w g b time first c h d) (hg : w'.heap[g]? = w.heap[g]?) (hb : w'.heap[b]? = w.heap[b]?) : FrameIs w' g b time first c h d := by
  obtain ⟨h1, h2, D, ⟨h3, es, clock, h5, F, hs⟩, h4⟩ := H
  exact ⟨h1, h2, D, ⟨hg.trans h3, es, clock, hb.trans h5, F, hs⟩, h4⟩
theorem FrameIs.lt {w : World} {g b : Nat} {time first : Int} {c : Nat} {h : Nat → Bool} {d : Nat → ByteArray} (H : FrameIs w g b time first c h d) : g < w.heap.size ∧ b < w.heap.size := by
  obtain ⟨h1, h2, D, ⟨h3, h5⟩, h4⟩ := H
  exact ⟨h3.lt, h5.lt⟩
theorem cntH_none (c : Nat) : cntH c (fun _ => false) = 0 := by simp [cntH]
theorem sumD_none (c : Nat) : sumD c (fun _ => ByteArray.empty) = 0 := by
  induction c with
  | zero => rfl
  | succ c ih => rw [sumD_succ, ih]; rfl
set_option maxHeartbeats 2000000 in
theorem split_PutOk2 (g b n : Nat) (time count first bytes i : Int) (D : DataW Unit) (s : ByteArray) (r : Int) (w : World) (h : FrameAt w g b n time count first bytes D) (hb : b ≠ g) (hn : n ≤ 1000) (hi0 : 0 ≤ i) (hi : i < count) (hc : count ≤ 255)
    (hnew : Maps.has D (.int .i64 i) = false) (hs : s.size ≤ 100000) (hby0 : 0 ≤ bytes) (hby : bytes ≤ 100000000) (hr : r = if ((Maps.size (D.put (.int .i64 i) (.lit (.string s.data.toList))) : Int) == count) = true then 2 else 1) :
    Calls Try.prog 12 #[.pointer (some ⟨g, 0, none⟩), .agg #[.int .i64 i, .int .i64 count], .string s] w fun e w' => e = .returned (.int .i64 r) ∧
      FrameAt w' g b (n + 1) time count first (bytes + s.size) (D.put (.int .i64 i) (.lit (.string s.data.toList))) ∧ (∀ B, B ≤ g → B ≤ b → B ≤ w.heap.size → Below B w w') ∧ (∀ k, k < w.heap.size → k ≠ g → k ≠ b → w'.heap[k]? = w.heap[k]?) := by
  have hwf : (Lit.int .i64 i).wf = true := WalkArith.wf_i64 (by omega)
  have HLK := fun (gx : Ext (w.alloc (.cells #[.int .i64 i, .int .i64 count] 34))) => PartsAt.look ((h.2.below ((Below.refl _ w).alloc (Nat.le_refl _) _)).below gx.below) i hwf ByteArray.empty (by rw [Maps.atKey_of_not_has hnew]; rfl) false hnew
  have k4 := Blk.new w 34 #[.int .i64 i, .int .i64 count]
  have h4 := h.below ((Below.refl _ w).alloc (Nat.le_refl _) (.cells #[.int .i64 i, .int .i64 count] 34))
  have hsz : g < w.heap.size := h.1.lt
  have ho1 : ∀ k, k < w.heap.size → (w.alloc (.cells #[.int .i64 i, .int .i64 count] 34)).heap[k]? = w.heap[k]? := fun k hk => Below.heap_alloc _ _ k hk
  have hw1 : ∀ B, B ≤ w.heap.size → Below B w (w.alloc (.cells #[.int .i64 i, .int .i64 count] 34)) := fun B hB => (Below.refl _ _).alloc hB _
  go_enter Try.func12, Try.ntmps12
  go_upto_region 1 with fail
  generalize (w.alloc (.cells #[.int .i64 i, .int .i64 count] 34)) = w1 at *
  have EG1 := fun (gx : Ext w1) => gx.cell (h4.1.cell 1) h4.1.lt
  have EG3 := fun (gx : Ext w1) => gx.cell (h4.1.cell 3) h4.1.lt
  have EP0 := fun (gx : Ext w1) => gx.cell (k4.cell 0) k4.lt
  have EP1 := fun (gx : Ext w1) => gx.cell (k4.cell 1) k4.lt
  simp at EG1 EG3 EP0 EP1
  refine wp_region_ext (by kernel_rfl) (by kernel_rfl) ?_; (repeat (go_big_quiet_step (fail))); refine wpQuiet_nil ?_; rintro _ ⟨gq, rfl⟩
  clear EG1 EG3 EP0 EP1 HLK
  have h5 := h4.below gq.below
  have k5 := k4.below gq.below k4.lt
  have B5 := gq.below
  generalize gq.world = w2 at h5 k5 B5 ⊢
  clear gq
  have EG1 := fun (gx : Ext w2) => gx.cell (h5.1.cell 1) h5.1.lt
  have EP0 := fun (gx : Ext w2) => gx.cell (k5.cell 0) k5.lt
  have EP1 := fun (gx : Ext w2) => gx.cell (k5.cell 1) k5.lt
  simp at EG1 EP0 EP1
  have j1 : (count != count) = false := by simp
  have j2 : decide (i < 0) = false := by simp; omega
  have j3 : decide (count ≤ i) = false := by simp; omega
  go_upto_region 2 with fail
  refine wp_region_ext (by kernel_rfl) (by kernel_rfl) ?_; (repeat (go_big_quiet_step (fail))); refine wpQuiet_nil ?_; rintro _ ⟨gq, rfl⟩
  clear EG1 EP0 EP1
  have h6 := h5.below gq.below
  have k6 := k5.below gq.below k5.lt
  have B6 := B5.trans (gq.below.mono B5.size)
  generalize gq.world = w3 at h6 k6 B6 ⊢
  clear gq h5 k5 B5
  go_upto_region 6 with fail
  have EG3 := fun (gx : Ext w3) => gx.cell (h6.1.cell 3) h6.1.lt
  have EP0 := fun (gx : Ext w3) => gx.cell (k6.cell 0) k6.lt
  simp at EG3 EP0
  refine wp_region_ext_tail 7 (by kernel_rfl) (by kernel_rfl) ?_; simp only [List.take_succ_cons, List.take_zero, List.drop_succ_cons, List.drop_zero]; (repeat (go_big_quiet_step (fail))); refine wpQuiet_nil ?_; rintro _ ⟨gq, rfl⟩
  clear EG3 EP0
  have h7 := h6.below gq.below
  have B7 := B6.trans (gq.below.mono B6.size)
  generalize gq.world = w4 at h7 B7 ⊢
  clear gq h6 k6 B6
  go_upto_region 7 with (at_mapUpdate; refine wpList_mapUpdate_own _ rfl _ _ _ 52 rfl 3 9 keyed_int Try.underlying52 _ b n _ rfl h7.2 (by unfold maxLen; omega) _ _ _ rfl rfl (keyOf_int_mk Try.underlying3 hwf) _ [] (plainElem_string Try.underlying9 (by rw [maxLen_eq]; omega)) ?_; intro w5 hown5 hgrow5)
  have k7 : Blk w5 g 54 #[.int .u32 time, .int .i64 count, .int .i64 first, .map (some b), .int .i64 bytes] := (hgrow5.block g h7.1.lt (fun e => hb (by injection e with e; exact e.symm))).trans h7.1
  have hs1 : w.heap.size < w4.heap.size := Nat.lt_of_lt_of_le k4.lt B7.size
  have c7 := k7.cell
  have f7 := k7.frozen
  simp at c7
  have wy : IntKind.i64.wrap (bytes + (s.size : Int)) = bytes + (s.size : Int) := IntWalk.i64_in _ (by omega)
  go_upto_region 8 with fail
  have h8 : FrameAt (w5.setCell ⟨g, 4, none⟩ (.int .i64 (bytes + s.size))) g b (n + 1) time count first (bytes + s.size) (D.put (.int .i64 i) (.lit (.string s.data.toList))) := ⟨by simpa using k7.set_ 4 (.int .i64 (bytes + s.size)), World.ownsMap.setCell hown5 (a := ⟨g, 4, none⟩) hb _⟩
  have hk8 : ∀ B, B ≤ g → B ≤ b → B ≤ w.heap.size → Below B w (w5.setCell ⟨g, 4, none⟩ (.int .i64 (bytes + s.size))) := fun B hg hbj hB =>
    ((((hw1 B hB).trans (B7.mono (Nat.le_trans hB (Nat.le_of_lt k4.lt)))).grown hgrow5 (by omega) (fun j hj => by injection hj with hj; omega)).setCell hg _)
  have ho8 : ∀ k, k < w.heap.size → k ≠ g → k ≠ b → (w5.setCell ⟨g, 4, none⟩ (.int .i64 (bytes + s.size))).heap[k]? = w.heap[k]? := fun k hk h1 h2 => by
    rw [Below.heap_setCell _ _ _ _ h1, hgrow5.block k (by omega) (fun e => h2 (by injection e)), B7.block k (by have := k4.lt; omega), ho1 k hk]
  clear ho1
  generalize (w5.setCell ⟨g, 4, none⟩ (.int .i64 (bytes + s.size))) = w6 at *
  clear k7 c7 f7 hown5 hgrow5 h7 B7
  obtain ⟨rb, hrb⟩ : ∃ rb, ((Maps.size (D.put (.int .i64 i) (.lit (.string s.data.toList))) : Int) == count) = rb := ⟨_, rfl⟩
  rw [hrb] at hr
  have HW := Lib.hid (split_IsWhole g b (n + 1) time count first (bytes + s.size) _ rb w6 h8 hrb)
  have H8 := Lib.hid h8
  have HK8 := Lib.hid hk8
  have HO8 := Lib.hid ho8
  clear h8 hk8 ho8 hrb
  go_wp2_with fail
  refine HW.out.mono ?_
  rintro e w7 ⟨rfl, hb7⟩
  cases rb
  all_goals
    simp at hr
    subst hr
    go_wp2_with fail
    go_ret
    exact ⟨rfl, H8.out.below hb7, fun B hg hbj hB => (HK8.out B hg hbj hB).trans (hb7.mono (Nat.le_trans hB (HK8.out B hg hbj hB).size)), fun k hk h1 h2 => (hb7.block k (Nat.lt_of_lt_of_le hk (HK8.out 0 (Nat.zero_le _) (Nat.zero_le _) (Nat.zero_le _)).size)).trans (HO8.out k hk h1 h2)⟩

theorem frame_New (time z first : Int) (n : Nat) (hn : clipI z 1 255 = (n : Int)) (w : World) :
    Calls Try.prog 11 #[.int .u32 time, .int .i64 z, .int .i64 first] w fun e w' => e = .returned (.pointer (some ⟨w.heap.size + 1, 0, none⟩)) ∧ FrameIs w' (w.heap.size + 1) w.heap.size time first n (fun _ => false) (fun _ => ByteArray.empty) ∧ Below w.heap.size w w' := by
  refine (split_New time z first n hn w).mono ?_
  rintro e w' ⟨he, hF, hb⟩
  refine ⟨he, ⟨by omega, fun _ => Nat.zero_le _, .map [], ?_, HasAs.empty n⟩, hb⟩
  rw [cntH_none, sumD_none]
  exact hF
def putRes (c : Nat) (h : Nat → Bool) : Int := if cntH c h + 1 = c then 2 else 1
theorem frame_Put (g b : Nat) (time first : Int) (c : Nat) (h : Nat → Bool) (d : Nat → ByteArray) (k : Nat) (s : ByteArray) (w : World) (H : FrameIs w g b time first c h d) (hk : k < c) (hc : c ≤ 255) (hh : h k = false) (hs : s.size ≤ 100000) :
    Calls Try.prog 12 #[.pointer (some ⟨g, 0, none⟩), .agg #[.int .i64 (k : Int), .int .i64 (c : Int)], .string s] w fun e w' => e = .returned (.int .i64 (putRes c h)) ∧
      FrameIs w' g b time first c (updN h k true) (updN d k s) ∧ (∀ B, B ≤ g → B ≤ b → B ≤ w.heap.size → Below B w w') ∧ (∀ k, k < w.heap.size → k ≠ g → k ≠ b → w'.heap[k]? = w.heap[k]?) := by
  obtain ⟨hbg, hd, D, hF, hD⟩ := H
  have hT := World.ownsMap.tidy hF.2 keyed_int
  have hM := World.ownsMap.isMap hF.2
  have hD2 := hD.put hT hM hk hc hh s
  have hcl := cntH_le c h
  have hsl := sumD_le c d hd
  have hsz := sumD_upd c k d s hk (hD.none_ hk hh)
  refine (split_PutOk2 g b (cntH c h) time c first (sumD c d) k D s (putRes c h) w hF hbg (by omega) (by omega) (by omega) (by omega) (by rw [(hD.1 k hk).1, hh]) hs (by omega) (by omega) ?_).mono ?_
  · rw [hD2.2, cntH_upd c k h hk hh]
    unfold putRes
    by_cases e : cntH c h + 1 = c
    · rw [if_pos e, if_pos (by simp; omega)]
    · rw [if_neg e, if_neg (by simp; omega)]
  · rintro e w' ⟨he, hF', hk1, hk2⟩
    refine ⟨he, ⟨hbg, fun i => ?_, _, ?_, hD2⟩, hk1, hk2⟩
    · unfold updN; split
      · exact hs
      · exact hd i
    · rw [cntH_upd c k h hk hh, hsz]
      have e : ((sumD c d + s.size : Nat) : Int) = (sumD c d : Int) + (s.size : Int) := by omega
      rw [e]
      exact hF'
theorem frame_PutTwice (g b : Nat) (time first : Int) (c : Nat) (h : Nat → Bool) (d : Nat → ByteArray) (k : Nat) (s : ByteArray) (w : World) (H : FrameIs w g b time first c h d) (hk : k < c) (hc : c ≤ 255) (hh : h k = true) :
    Calls Try.prog 12 #[.pointer (some ⟨g, 0, none⟩), .agg #[.int .i64 (k : Int), .int .i64 (c : Int)], .string s] w fun e w' => e = .returned (.int .i64 3) ∧ FrameIs w' g b time first c h d ∧ Below w.heap.size w w' := by
  have H0 := H
  obtain ⟨hbg, hd, D, hF, hD⟩ := H
  refine (split_PutTwice g b _ time c first _ k c D s w hF (WalkArith.wf_i64 (by omega)) rfl (by omega) (by omega) (by rw [(hD.1 k hk).1, hh])).mono ?_
  rintro e w' ⟨he, hb⟩
  exact ⟨he, H0.below hb, hb⟩
theorem frame_PutBad (g b : Nat) (time first : Int) (c : Nat) (h : Nat → Bool) (d : Nat → ByteArray) (i pc : Int) (hwf : (Lit.int .i64 i).wf = true) (s : ByteArray) (w : World) (H : FrameIs w g b time first c h d) (hbad : pc ≠ c ∨ i < 0 ∨ (c : Int) ≤ i) :
    Calls Try.prog 12 #[.pointer (some ⟨g, 0, none⟩), .agg #[.int .i64 i, .int .i64 pc], .string s] w fun e w' => e = .returned (.int .i64 4) ∧ FrameIs w' g b time first c h d ∧ Below w.heap.size w w' := by
  have H0 := H
  obtain ⟨hbg, hd, D, hF, hD⟩ := H
  have key : Calls Try.prog 12 #[.pointer (some ⟨g, 0, none⟩), .agg #[.int .i64 i, .int .i64 pc], .string s] w fun e w' => e = .returned (.int .i64 4) ∧ Below w.heap.size w w' := by
    by_cases h1 : pc = c
    · by_cases h2 : i < 0
      · exact split_PutBad2 g b _ time c first _ i pc D s w hF hwf h1 h2
      · exact split_PutBad3 g b _ time c first _ i pc D s w hF hwf h1 (by omega) (by omega)
    · exact split_PutBad1 g b _ time c first _ i pc D s w hF hwf h1
  refine key.mono ?_
  rintro e w' ⟨he, hb⟩
  exact ⟨he, H0.below hb, hb⟩
theorem frame_Lacks (g b : Nat) (time first : Int) (c : Nat) (h : Nat → Bool) (d : Nat → ByteArray) (w : World) (H : FrameIs w g b time first c h d) (hc : c ≤ 255) :
    Calls Try.prog 13 #[.pointer (some ⟨g, 0, none⟩)] w (OwnsRes w 3 (lacksL c h).length (natCells (lacksL c h))) := by
  obtain ⟨hbg, hd, D, hF, hD⟩ := H
  exact split_Lacks g b _ time first _ c D h d hc hD w hF
theorem frame_Data (g b : Nat) (time first : Int) (c : Nat) (h : Nat → Bool) (d : Nat → ByteArray) (w : World) (H : FrameIs w g b time first c h d) (hc : c ≤ 255) (hall : cntH c h = c) :
    Calls Try.prog 14 #[.pointer (some ⟨g, 0, none⟩)] w fun e w' => e = .returned (.tuple #[.string ⟨(catD c d).toArray⟩, .bool true]) ∧ Below w.heap.size w w' := by
  obtain ⟨hbg, hd, D, hF, hD⟩ := H
  exact split_Data g b _ time first _ c D h d hc hD hall hd w hF
theorem frame_DataNo (g b : Nat) (time first : Int) (c : Nat) (h : Nat → Bool) (d : Nat → ByteArray) (w : World) (H : FrameIs w g b time first c h d) (hall : cntH c h ≠ c) :
    Calls Try.prog 14 #[.pointer (some ⟨g, 0, none⟩)] w fun e w' => e = .returned (.tuple #[.string ⟨#[]⟩, .bool false]) ∧ Below w.heap.size w w' := by
  obtain ⟨hbg, hd, D, hF, hD⟩ := H
  exact split_DataNo g b _ time first _ c D h d hD hall w hF
end Go.Proofs.Ytagponhnkodjhaa
