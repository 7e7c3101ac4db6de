/- The queue's other methods: Push of any, Room, All, Clone, Filter, with the row told. No condition but that the queue stands and the numbers' bounds. -/
import Derived.Test.YtomhnegfemdcdaaQueueV
import Derived.Test.YtomhnegfemdcdaaApp
import Derived.Lib.SliceRun
namespace Go.Proofs.Ytomhnegfemdcdaa
open Go.RowKit BigFrame
attribute [local go_sem ↓] Go.wp_at_zero Go.wp_at_succ

theorem QV.bytes_ {W : World} {g : Nat} {a b y : Int} {l : List ByteArray} {v : Value} (h : QV W g a b l y v) : ∃ va vc, v = .slice va l.length vc ∧ SliceOf W va l.length vc 1 (fun i => [.string (l.getD i .empty)]) :=
  SliceOf.of_own h.own (fun i => .string (l.getD i .empty)) (fun i hi => by unfold textCells; simp [hi])
set_option maxHeartbeats 1000000 in
theorem queue_Room (g : Nat) (a b y : Int) (l : List ByteArray) (v : Value) (w : World) (h : QV w g a b l y v) (a0 : 0 ≤ a) (a1 : a ≤ 1073741824) (b0 : 0 ≤ b) (b1 : b ≤ 1073741824) (y0 : 0 ≤ y) (y1 : y ≤ 1073741824) (hl : l.length ≤ 100000) :
    Calls Try.prog 43 #[.pointer (some ⟨g, 0, none⟩)] w fun e w' => e = .returned (.tuple #[.int .i64 (a - l.length), .int .i64 (b - y)]) ∧ Below w.heap.size w w' := by
  obtain ⟨va, vc, rfl, S⟩ := h.bytes_
  have k := h.blk
  obtain ⟨ln, hln⟩ : ∃ ln, l.length = ln := ⟨_, rfl⟩
  rw [hln] at k hl S ⊢
  have hls := S.size_le
  have w1 : IntKind.i64.wrap (a - (ln : Int)) = a - ln := IntWalk.i64_in _ (by omega)
  have w2 : IntKind.i64.wrap (b - y) = b - y := IntWalk.i64_in _ (by omega)
  clear h hln S
  go_enter Try.func43, Try.ntmps43
  go_upto_region 1 with fail
  have E0 := fun (gx : Ext w) => gx.cell (k.cell 0) k.lt
  have E1 := fun (gx : Ext w) => gx.cell (k.cell 1) k.lt
  have E2 := fun (gx : Ext w) => gx.cell (k.cell 2) k.lt
  have E3 := fun (gx : Ext w) => gx.cell (k.cell 3) k.lt
  simp at E0 E1 E2 E3
  refine wp_region_ext (by kernel_rfl) (by kernel_rfl) ?_; (repeat (go_big_quiet_step (fail))); refine wpQuiet_nil ?_; rintro _ ⟨gq, rfl⟩
  go_wp2_with fail
  refine bodyPost_ret (v := .tuple #[.int .i64 (a - ln), .int .i64 (b - y)]) ?_ rfl ⟨rfl, gq.below⟩
  simp [results, Try.results43, go_sem]
theorem textCells_row (l : List ByteArray) : textCells l = rowL l.length (fun i => .string (l.getD i .empty)) := by
  apply List.ext_getElem?
  intro i
  by_cases h : i < l.length
  · rw [rowL_get _ _ _ h]; unfold textCells; simp [h]
  · rw [List.getElem?_eq_none (by unfold textCells; simp; omega), List.getElem?_eq_none (by rw [rowL_len]; omega)]
theorem texts_one (l : List ByteArray) : ∀ u ∈ textCells l, u.oneCell' = true := by
  intro u hu
  unfold textCells at hu
  obtain ⟨t, _, rfl⟩ := List.mem_map.1 hu
  rfl
set_option maxHeartbeats 1000000 in
theorem text_Clone (a : Option Addr) (c : Nat) (l : List ByteArray) (w : World) (hS : SliceOf w a l.length c 1 (fun i => [.string (l.getD i .empty)])) (hn : l.length ≤ 100000) :
    Calls Try.prog 45 #[.slice a l.length c] w fun e w' => ∃ v', e = .returned v' ∧ w'.ownsRow w.heap.size 49 1 v' l.length (textCells l) ∧ Below w.heap.size w w' := by
  obtain ⟨i0, hi0, hz0, hz1, hz2⟩ := info_parts (show (Try.prog.info? 49).map (fun i => (i.zero, i.size, i.bytes)) = some (some (.string ByteArray.empty), 1, 16) by kernel_rfl)
  obtain ⟨n, hln⟩ : ∃ n, l.length = n := ⟨_, rfl⟩
  have hlen : (textCells l).length = n * 1 := by unfold textCells; rw [List.length_map, hln, Nat.mul_one]
  have hrow := textCells_row l
  have hnews := (hS.below ((Below.refl _ w).alloc (Nat.le_refl _) (.cells #[] 49))).news1
  rw [← hrow] at hnews
  rw [hln] at hS hn hnews ⊢
  have hone := texts_one l
  have own1 := own_lit w 49 1
  have hq := fun W : World => Lib.run_eql_slice_nil (P := Try.prog) W 50 49 a n c 0 0 Try.underlying50
  cases a with
  | none =>
    have hn0 : n = 0 := by
      rcases Nat.eq_zero_or_pos n with h | h
      · exact h
      · obtain ⟨b, off, h1, _⟩ := hS.2.2 h
        cases h1
    have hnil : textCells l = [] := List.length_eq_zero_iff.1 (by rw [hlen, hn0])
    subst hn0
    go_enter Try.func45, Try.ntmps45
    go_wp2_with fail
    go_ret
    exact ⟨_, rfl, ⟨by rw [hnil]; rfl, .inl ⟨rfl, rfl⟩⟩, Below.refl _ _⟩
  | some ad =>
    go_enter Try.func45, Try.ntmps45
    go_wp2_with (at_builtin; refine wpList_append_sl rfl _ _ 50 rfl w.heap.size 49 i0 (.string ByteArray.empty) 1 16 Try.underlying50 hi0 hz0 hz1 hz2 rfl (by decide) _ _ _ rfl own1 _ n c (textCells l) rfl hlen hnews hone (by rw [maxLen_eq]; omega) (by omega) (by simp) ?_; intro v1 w1 own2 hgrow hat hsh)
    obtain ⟨sa, sc, rfl⟩ := hsh
    have hg2 : (w.alloc (.cells #[] 49)).grownBy w1 (some w.heap.size) := hgrow
    simp only [Nat.zero_add, List.nil_append] at own2
    have B1 : Below w.heap.size w w1 := ((Below.refl _ w).alloc (Nat.le_refl _) _).grown hg2 (by simp) (fun j hj => by injection hj with hj; omega)
    go_wp2_with fail
    go_ret
    exact ⟨_, rfl, by simpa using own2, B1⟩
theorem queue_All (g : Nat) (a b y : Int) (l : List ByteArray) (v : Value) (w : World) (h : QV w g a b l y v) (hl : l.length ≤ 100000) :
    Calls Try.prog 42 #[.pointer (some ⟨g, 0, none⟩)] w fun e w' => ∃ v', e = .returned v' ∧ w'.ownsRow w.heap.size 49 1 v' l.length (textCells l) ∧ Below w.heap.size w w' := by
  obtain ⟨va, vc, rfl, S⟩ := h.bytes_
  have k := h.blk
  have HC := Lib.hid (text_Clone va vc l w S hl)
  have c1 := k.cell
  simp at c1
  clear h S
  go_enter Try.func42, Try.ntmps42
  go_wp2_with fail
  refine HC.out.mono ?_
  rintro e w1 ⟨v1, rfl, own, hb⟩
  go_wp2_with fail
  go_ret
  exact ⟨_, rfl, own, hb⟩
end Go.Proofs.Ytomhnegfemdcdaa
