/- Filter, by the closure that the statements hand it; Clone. No condition but that the queue stands and the numbers' bounds. -/
import Derived.Test.YtomhnegfemdcdaaQueue7
namespace Go.Proofs.Ytomhnegfemdcdaa
open Go.RowKit BigFrame
attribute [local go_sem ↓] Go.wp_at_zero Go.wp_at_succ

set_option maxHeartbeats 1000000 in
theorem law20_keep (s : ByteArray) (b5 : Nat) (kd N : Int) (sl : Value) (w : World) (hk : Blk w b5 63 #[.int .i64 kd, .int .i64 N, sl]) (r : Bool) (hr : decide (N ≤ (s.size : Int)) = r) :
    Calls Try.prog 41 #[.string s, .pointer (some ⟨b5, 0, none⟩)] w fun e w' => e = .returned (.bool r) ∧ Below w.heap.size w w' := by
  have HS := Lib.hid (fun (gx : Ext w) => text_Size s gx.world)
  have E1 := fun (gx : Ext w) => gx.cell (hk.cell 1) hk.lt
  simp at E1
  go_enter Try.func41, Try.ntmps41
  go_upto_region 1 with fail
  refine wp_region_ext (by kernel_rfl) (by kernel_rfl) ?_; (repeat (go_big_quiet_step ((first | (go_at_call 31; with_reducible exact calls_ext_same _ (HS.out _)))))); refine wpQuiet_nil ?_; rintro _ ⟨gq, rfl⟩
  go_wp2_with fail
  go_ret
  exact ⟨rfl, gq.below⟩
def keepQ (N : Int) (l : List ByteArray) : List ByteArray := l.filter fun s => decide (N ≤ (s.size : Int))
theorem keepQ_take (N : Int) (l : List ByteArray) (k : Nat) (h : k < l.length) (s : ByteArray) (hs : l.getD k .empty = s) : keepQ N (l.take (k + 1)) = keepQ N (l.take k) ++ (if decide (N ≤ (s.size : Int)) = true then [s] else []) := by
  unfold keepQ
  rw [List.take_add_one, List.filter_append]
  rw [List.getD_eq_getElem?_getD, List.getElem?_eq_getElem h] at hs
  rw [List.getElem?_eq_getElem h]
  simp only [Option.toList, Option.getD_some] at hs ⊢
  rw [hs]
  simp only [List.filter_cons, List.filter_nil]
theorem keepQ_sub (N : Int) (l : List ByteArray) : (keepQ N l).length ≤ l.length := List.length_filter_le _ _
set_option maxHeartbeats 4000000 in
theorem queue_Filter (g : Nat) (a b y : Int) (l : List ByteArray) (v : Value) (b5 : Nat) (kd N : Int) (sl : Value) (w : World) (h : QV w g a b l y v) (hl : l.length ≤ 100000) (hk : Blk w b5 63 #[.int .i64 kd, .int .i64 N, sl]) :
    Calls Try.prog 40 #[.pointer (some ⟨g, 0, none⟩), .func (.func 41) #[] #[.pointer (some ⟨b5, 0, none⟩)]] w fun e w' => e = .returned (.int .i64 ((l.length : Int) - (keepQ N l).length)) ∧ ∃ v', QV w' g a b (keepQ N l) (sumQ (keepQ N l)) v' ∧ Moved w w' g v v' := by
  obtain ⟨i0, hi0, hz0, hz1, hz2⟩ := info_parts (show (Try.prog.info? 49).map (fun i => (i.zero, i.size, i.bytes)) = some (some (.string ByteArray.empty), 1, 16) by kernel_rfl)
  obtain ⟨va, vc, rfl, S⟩ := h.bytes_
  have k := h.blk
  have hne := h.ne
  obtain ⟨n, hln⟩ : ∃ n, l.length = n := ⟨_, rfl⟩
  rw [hln] at k hl S hne ⊢
  have HLN := Lib.hid hln
  have hls := S.size_le
  have c1 := k.cell
  simp at c1
  clear h hln
  go_enter Try.func40, Try.ntmps40
  go_wp2_with fail
  go_loopw [6, 19] (fun x6 x19 wr => ∃ j : Nat, j ≤ n ∧ x19 = .int .i64 j ∧ wr.ownsRow w.heap.size 49 1 x6 (keepQ N (l.take j)).length (textCells (keepQ N (l.take j))) ∧ Below w.heap.size w wr) (fun _ x19 _ => n - (intOf x19).toNat)
  case atStart => exact ⟨0, by omega, rfl, ⟨rfl, .inl ⟨rfl, rfl⟩⟩, Below.refl _ _⟩
  case round =>
    obtain ⟨j, hj, rfl, own, B⟩ := hrel
    by_cases hlt : j < n
    · obtain ⟨bs, off, rfl, hbs, hcell⟩ := S.at1 (by omega)
      have d0 := (B.cell (p := ⟨bs, off + j, none⟩) hbs).trans (hcell j hlt)
      obtain ⟨s, hs⟩ : ∃ s, l.getD j .empty = s := ⟨_, rfl⟩
      have hkt := keepQ_take N l j (by rw [HLN.out]; exact hlt) s hs
      rw [hs] at d0
      obtain ⟨r, hr⟩ : ∃ r, decide (N ≤ (s.size : Int)) = r := ⟨_, rfl⟩
      rw [hr] at hkt
      have hkl := keepQ_sub N (l.take j)
      have hkl2 : (l.take j).length ≤ j := by rw [List.length_take]; omega
      have HK := Lib.hid (law20_keep s b5 kd N sl wr (hk.below B hk.lt) r hr)
      have i0' : (0 : Int) ≤ (j : Int) := by omega
      have i1' : (j : Int) < (n : Int) := by omega
      have wk : IntKind.i64.wrap ((j : Int) + 1) = ((j + 1 : Nat) : Int) := by rw [IntWalk.i64_in _ (by omega)]; omega
      clear hs hr hcell
      go_wp2_with fail
      refine HK.out.mono ?_
      rintro e w2 ⟨rfl, hb2⟩
      have B2 := below_then B hb2 (Nat.le_refl _)
      have own2 := own_at own (fun q hq => hb2.block q (own.lt q hq).2)
      clear HK own
      cases r
      · simp only [Bool.false_eq_true, if_false, List.append_nil] at hkt
        have HKT := Lib.hid hkt
        clear hkt
        go_wp2_with fail
        go_roundw
        case rel => exact ⟨j + 1, by omega, by go_num, by rw [HKT.out]; exact own2, B2⟩
        case measure => simp only [intOf]; omega
      · simp only [if_true] at hkt
        have HKT := Lib.hid hkt
        clear hkt
        go_wp2_with (at_builtin; refine wpList_append_lies _ rfl _ _ 50 rfl w.heap.size 49 i0 (.string ByteArray.empty) 1 16 Try.underlying50 hi0 hz0 hz1 hz2 rfl (by decide) _ _ _ rfl (own2.alloc _) ⟨w2.heap.size, 0, none⟩ 1 1 [.string s] rfl rfl (cell_one_new _ _ _) (by simp [Value.oneCell']) (by omega) (by rw [maxLen_eq]; omega) (by omega) (Nat.le_trans B2.size (by simp)) _ rfl ?_; intro g2 cap w6 own1 hgrow hat hlt1)
        have hB1 := (B2.alloc B2.size _).grown hgrow (by have := B2.size; simp; omega) (fun q hq => (own2.lt q hq).1)
        go_roundw
        case rel => exact ⟨j + 1, by omega, by go_num, by rw [HKT.out, textCells_append, List.length_append]; exact own1, hB1⟩
        case measure => simp only [intOf]; omega
    · obtain rfl : j = n := by omega
      have j1 : ¬ (j : Int) < (j : Int) := by omega
      have hall : l.take j = l := by rw [← HLN.out]; exact List.take_length
      rw [hall] at own
      obtain ⟨ra, rc, rfl, SR⟩ := SliceOf.of_own own (fun i => .string ((keepQ N l).getD i .empty)) (fun i hi => by unfold textCells; simp [hi])
      have hkl := keepQ_sub N l
      rw [HLN.out] at hkl
      have hkl2 := SR.size_le
      have HZ := Lib.hid (queue_sizes ra (keepQ N l).length rc (keepQ N l) rfl (by omega) wr SR)
      obtain ⟨m, hm⟩ : ∃ m, (keepQ N l).length = m := ⟨_, rfl⟩
      rw [hm] at own HZ hkl hkl2 ⊢
      have HM := Lib.hid hm
      have wd : IntKind.i64.wrap ((j : Int) - (m : Int)) = j - m := IntWalk.i64_in _ (by omega)
      obtain ⟨s, hs⟩ : ∃ s, sumQ (keepQ N l) = s := ⟨_, rfl⟩
      rw [hs] at HZ
      have HSQ := Lib.hid hs
      have k1 := k.below B k.lt
      have ck1 := k1.cell
      have fk1 := k1.frozen
      simp at ck1
      clear hm hs SR hall
      go_wp2_with fail
      refine HZ.out.mono ?_
      rintro e w' ⟨rfl, rfl⟩
      go_wp2_with fail
      go_ret
      have hne2 : (Value.slice ra m rc).ownBlock ≠ some g := fun e => by have := (own.lt g e).1; have := k.lt; omega
      have k2 := (k1.set_ 2 (.slice ra m rc)).set_ 3 (.int .i64 s)
      have own2 := own_at own (w' := (wr.setCell ⟨g, 2, none⟩ (.slice ra m rc)).setCell ⟨g, 3, none⟩ (.int .i64 s)) (fun q hq => by
        have hq2 : q ≠ g := fun e => hne2 (by rw [← e]; exact hq)
        exact (Below.heap_setCell _ ⟨g, 3, none⟩ _ q hq2).trans (Below.heap_setCell _ ⟨g, 2, none⟩ _ q hq2))
      rw [HSQ.out, HM.out]
      refine ⟨rfl, _, ⟨k2, ?_, hne2⟩, ((B.mono (Nat.zero_le _)).setCell (Nat.zero_le _) _).setCell (Nat.zero_le _) _, fun z hz h1 h2 => ?_, fun z hz => .inr (own.lt z hz).1⟩
      · rw [HM.out]; exact own_base own2
      · exact (Below.heap_setCell _ ⟨g, 3, none⟩ _ z h1).trans ((Below.heap_setCell _ ⟨g, 2, none⟩ _ z h1).trans (B.block z hz))
end Go.Proofs.Ytomhnegfemdcdaa
