/- Queue.Pop, walked. No condition but that the queue stands and the numbers' bounds. -/
import Derived.Test.YtomhnegfemdcdaaQueue3
import Derived.Test.YtomhnegfemdcdaaFew
namespace Go.Proofs.Ytomhnegfemdcdaa
open Go.RowKit BigFrame
attribute [local go_sem ↓] Go.wp_at_zero Go.wp_at_succ

theorem Blk.top {w : World} {g : Nat} {t : TypeId} {cs : Array Value} (h : g = w.heap.size) : Blk (w.alloc (.cells cs t)) g t cs := by subst h; exact Blk.new _ _ _

set_option maxHeartbeats 1000000 in
theorem queue_Pop0 (B g : Nat) (a b y : Int) (w : World) (h : QAt w B g a b [] y) :
    Calls Try.prog 22 #[.pointer (some ⟨g, 0, none⟩)] w fun e w' => e = .returned (.tuple #[.string .empty, .bool false]) ∧ w = w' := by
  have HF := Lib.hid (show Calls Try.prog 29 #[.pointer (some ⟨g, 0, none⟩)] w fun e w' => e = .returned (.tuple #[.string .empty, .bool false]) ∧ w = w' from queue_Front B g a b y [] w h)
  clear h
  go_enter Try.func22, Try.ntmps22
  go_wp2_with fail
  refine HF.out.mono ?_
  rintro e w' ⟨rfl, rfl⟩
  go_wp2_with fail
  refine bodyPost_ret (v := .tuple #[.string .empty, .bool false]) ?_ rfl ⟨rfl, rfl⟩
  simp [results, Try.results22, go_sem]

set_option maxHeartbeats 4000000 in
theorem queue_Pop (B g : Nat) (a b y : Int) (x : ByteArray) (l : List ByteArray) (w : World) (h : QAt w B g a b (x :: l) y) (hl : l.length ≤ 100000) (y0 : 0 ≤ y) (y1 : y ≤ 1073741824) (hy : sumQ [x] ≤ y) :
    Calls Try.prog 22 #[.pointer (some ⟨g, 0, none⟩)] w fun e w' => e = .returned (.tuple #[.string x, .bool true]) ∧ QAt w' B g a b l (y - sumQ [x]) ∧ Below B w w' := by
  have HF := Lib.hid (show Calls Try.prog 29 #[.pointer (some ⟨g, 0, none⟩)] w fun e w' => e = .returned (.tuple #[.string x, .bool true]) ∧ w = w' from queue_Front B g a b y (x :: l) w h)
  obtain ⟨v, k, own, hne, hB⟩ := h
  have hgw := k.lt
  obtain ⟨n, hn⟩ : ∃ n, l.length = n := ⟨_, rfl⟩
  have hxn : (x :: l).length = n + 1 := by rw [List.length_cons, hn]
  rw [hxn] at own
  obtain ⟨g3, cap, rfl, hb3⟩ : ∃ g3 cap, v = .slice (some ⟨g3, 0, none⟩) (n + 1) cap ∧ B ≤ g3 := by
    rcases own.2 with ⟨_, h0⟩ | ⟨g', cap', cur, rfl, hb, _⟩
    · omega
    · exact ⟨g', cap', rfl, hb⟩
  have hg3 : g3 ≠ g := fun he => hne (by rw [he]; rfl)
  have hone : ∀ u ∈ textCells l, u.oneCell' = true := by
    intro u hu
    unfold textCells at hu
    obtain ⟨t, _, rfl⟩ := List.mem_map.1 hu
    rfl
  have HD := Lib.hid (text_Delete B g3 n cap (.string x) (textCells l) w own hone (by unfold textCells; rw [List.length_map, hn]))
  obtain ⟨m, hm⟩ : ∃ m, sumQ [x] = m := ⟨_, rfl⟩
  obtain ⟨m0, m1⟩ := sumQ_bd [x]
  have HZ := Lib.hid (fun (W : World) (gg : Nat) (t : TypeId) (hW : Blk W gg t #[.string x]) => queue_sizes (some ⟨gg, 0, none⟩) 1 1 [x] rfl (by omega) W (SliceOf.lit (n := 1) hW rfl (by decide) (fun i => .string ([x].getD i .empty)) (fun i hi => by
    obtain rfl : i = 0 := by omega
    rfl)))
  rw [hm] at m0 m1 hy HZ ⊢
  have HN := Lib.hid hn
  have ck := k.cell
  have fk := k.frozen
  simp at ck
  have wy : IntKind.i64.wrap (y - m) = y - m := IntWalk.i64_in _ (by omega)
  clear hm hn hxn hone
  go_enter Try.func22, Try.ntmps22
  go_wp2_with fail
  refine HF.out.mono ?_
  rintro e w' ⟨rfl, rfl⟩
  go_wp2_with fail
  refine HD.out.mono ?_
  rintro e w1 ⟨rfl, own1, hk1, hb1⟩
  have k1 : Blk w1 g 76 #[.int .i64 a, .int .i64 b, .slice (some ⟨g3, 0, none⟩) (n + 1) cap, .int .i64 y] := (hk1 g (Ne.symm hg3)).trans k
  have ck1 := k1.cell
  have fk1 := k1.frozen
  simp at ck1
  clear ck fk
  go_upto_region 4 with fail
  have k2 : Blk (w1.setCell ⟨g, 2, none⟩ (.slice (some ⟨g3, 0, none⟩) n cap)) g 76 #[.int .i64 a, .int .i64 b, .slice (some ⟨g3, 0, none⟩) n cap, .int .i64 y] := k1.set_ 2 _
  have own2 := own_at own1 (w' := w1.setCell ⟨g, 2, none⟩ (.slice (some ⟨g3, 0, none⟩) n cap)) (fun j hj => by
    have hj' : some g3 = some j := hj
    injection hj' with hj2
    subst hj2
    exact Below.heap_setCell _ ⟨g, 2, none⟩ _ g3 hg3)
  have hb2 := hb1.setCell (p := ⟨g, 2, none⟩) hB (.slice (some ⟨g3, 0, none⟩) n cap)
  generalize w1.setCell ⟨g, 2, none⟩ (.slice (some ⟨g3, 0, none⟩) n cap) = w2 at *
  clear ck1 fk1 k1 own1 hk1 hb1
  have ck2 := k2.cell
  have fk2 := k2.frozen
  simp at ck2
  have cko := fun o => ((k2.alloc o).drew).cell
  have fko := fun o => ((k2.alloc o).drew).frozen
  simp at cko
  have HFIN := Lib.hid (fun (o : Obj) => (show QAt ((w2.setCell ⟨g, 3, none⟩ (.int .i64 (y - m))).alloc o).drew B g a b l (y - m) ∧ Below B w ((w2.setCell ⟨g, 3, none⟩ (.int .i64 (y - m))).alloc o).drew by
    have hgl := k2.lt
    refine ⟨⟨_, ((k2.set_ 3 _).alloc o).drew, ?_, (by intro he; injection he with he2; exact hg3 he2), hB⟩, ((hb2.setCell (p := ⟨g, 3, none⟩) hB _).alloc (by simp; omega) o).drew⟩
    rw [HN.out]
    refine own_at own2 (fun j hj => ?_)
    have hj' : some g3 = some j := hj
    injection hj' with hj2
    subst hj2
    exact (Below.heap_alloc (w2.setCell ⟨g, 3, none⟩ (.int .i64 (y - m))) o g3 (by simp; exact (own2.lt g3 rfl).2)).trans (Below.heap_setCell _ ⟨g, 3, none⟩ _ g3 hg3)))
  have hgl := k2.lt
  have g1 : ¬ (g = w2.heap.size) := by omega
  have g2 : ¬ (w2.heap.size = g) := by omega
  go_region_with (first | (go_at_call 36; refine (HZ.out _ _ 49 ?_).mono ?_; (focus (first | with_reducible exact Blk.new _ _ _ | with_reducible exact Blk.drew (Blk.new _ _ _))); rintro e w' ⟨rfl, rfl⟩))
  all_goals
    go_wp2_with fail
    refine bodyPost_ret (v := .tuple #[.string x, .bool true]) ?_ rfl ⟨rfl, ?_⟩
    · simp [results, Try.results22, go_sem]
    · exact HFIN.out _
end Go.Proofs.Ytomhnegfemdcdaa
