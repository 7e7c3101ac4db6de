/- The statements' do of queues: Filter. No condition but that both stand. -/
import Derived.Test.YtomhnegfemdcdaaQueueDo0
namespace Go.Proofs.Ytomhnegfemdcdaa
open Go.RowKit BigFrame
attribute [local go_sem ↓] Go.wp_at_zero Go.wp_at_succ

theorem sumQ_keep (N : Int) (l : List ByteArray) : sumQ (keepQ N l) ≤ sumQ l := by
  induction l with
  | nil => exact Int.le_refl _
  | cons s l ih =>
    unfold keepQ at ih ⊢
    rw [List.filter_cons]
    split
    · simp only [sumQ]; omega
    · simp only [sumQ]; omega
theorem keepQ_mem (N : Int) (l : List ByteArray) (s : ByteArray) (h : s ∈ keepQ N l) : s ∈ l := (List.mem_filter.1 h).1

set_option maxHeartbeats 8000000 in
theorem law20_do2 (g : Nat) (x : Value) (a b kd N : Int) (l : List ByteArray) (v sv : Value) (la : Option Addr) (ll lc : Nat) (w : World) (h : QV w g a b l (sumQ l) v) (R : RQ w x a b l sv) (hsep : ∀ k, sv.ownBlock = some k → v.ownBlock ≠ some k ∧ k ≠ g)
    (hk0 : ¬ kd = 0) (hk1 : ¬ kd = 1) (hl : l.length ≤ 9000) :
    Calls Try.prog 25 #[.pointer (some ⟨g, 0, none⟩), x, .agg #[.int .i64 kd, .int .i64 N, .slice la ll lc]] w fun e w' => ∃ x', e = .returned (.tuple #[x', .bool true]) ∧ ∃ v' sv', DoPost w w' g a b l v sv x' (keepQ N l) v' sv' := by
  obtain ⟨i0, hi0, hz0, hz1, hz2⟩ := info_parts (show (Try.prog.info? 9).map (fun i => (i.zero, i.size, i.bytes)) = some (some (.string ByteArray.empty), 1, 16) by kernel_rfl)
  obtain ⟨ra, rc, rfl, SL⟩ := R.slice_
  have hx0 := R.eq
  obtain ⟨nl, hnl⟩ : ∃ n, l.length = n := ⟨_, rfl⟩
  have HNL := Lib.hid hnl
  have HSEP := Lib.hid hsep
  rw [hnl] at hx0 SL HSEP hl
  rw [hx0, hnl]
  obtain ⟨D, hD⟩ : ∃ D : Int, (nl : Int) - ((keepQ N l).length : Int) = D := ⟨_, rfl⟩
  have hkl := keepQ_sub N l
  have wD : IntKind.i64.wrap ((nl : Int) - ((keepQ N l).length : Int)) = D := by rw [← hD]; exact IntWalk.i64_in _ (by omega)
  have HF := Lib.hid (show ∀ (b5 : Nat) (W : World), QV W g a b l (sumQ l) v → Blk W b5 63 #[.int .i64 kd, .int .i64 N, .slice la ll lc] → Calls Try.prog 40 #[.pointer (some ⟨g, 0, none⟩), .func (.func 41) #[] #[.pointer (some ⟨b5, 0, none⟩)]] W fun e w' => e = .returned (.int .i64 D) ∧ ∃ v', QV w' g a b (keepQ N l) (sumQ (keepQ N l)) v' ∧ Moved W w' g v v' from fun b5 W q k => by
    have := queue_Filter g a b (sumQ l) l v b5 kd N (.slice la ll lc) W q (by omega) k
    rw [hnl, hD] at this
    exact this)
  obtain ⟨K1, K2, K3, B1, z1⟩ := three_new0 w #[.int .i64 a, .int .i64 b, .slice ra nl rc] #[.int .i64 kd, .int .i64 N, .slice la ll lc] #[.int .i64 0, .int .i64 0, .slice none 0 0] 58 63 58
  rw [hx0, hnl] at R
  have e0 : (kd == 0) = false := by simp [hk0]
  have e1 : (kd == 1) = false := by simp [hk1]
  clear hx0 hsep hD hkl hnl
  go_enter Try.func25, Try.ntmps25
  go_upto_region 1 with fail
  generalize ((w.alloc (.cells #[.int .i64 a, .int .i64 b, .slice ra nl rc] 58)).alloc (.cells #[.int .i64 kd, .int .i64 N, .slice la ll lc] 63)).alloc (.cells #[.int .i64 0, .int .i64 0, .slice none 0 0] 58) = w1 at *
  have c1 := K1.cell
  have c2 := K2.cell
  simp at c1 c2
  have hgw := h.blk.lt
  have S1 := SL.below B1
  go_upto_region 16 with fail
  go_wp2_with fail
  go_loopw [19, 79] (fun x9 xi wr => ∃ d : Nat, d ≤ nl ∧ xi = .int .i64 d ∧ wr.ownsRow w1.heap.size 9 1 x9 (keepQ N (l.take d)).length (textCells (keepQ N (l.take d))) ∧ Below w1.heap.size w1 wr) (fun _ i _ => nl - (intOf i).toNat)
  case atStart => exact ⟨0, by omega, rfl, ⟨rfl, .inl ⟨rfl, rfl⟩⟩, Below.refl _ _⟩
  case round =>
    obtain ⟨d, hd, rfl, o1, Bd⟩ := hrel
    have K2r := K2.below Bd K2.lt
    by_cases hdr : d < nl
    · obtain ⟨bb, off, rfl, hbb, hcell⟩ := S1.at1 (by omega)
      have dc := (Bd.cell (p := ⟨bb, off + d, none⟩) hbb).trans (hcell d hdr)
      have c2r := K2r.cell
      simp at c2r
      obtain ⟨t, ht⟩ : ∃ t, l.getD d .empty = t := ⟨_, rfl⟩
      rw [ht] at dc
      have HT := Lib.hid (keepQ_take N l d (by rw [HNL.out]; exact hdr) t ht)
      obtain ⟨kk, hkk⟩ : ∃ kk, (keepQ N (l.take d)).length = kk := ⟨_, rfl⟩
      have hkd : kk ≤ d := by
        have := keepQ_sub N (l.take d)
        rw [List.length_take] at this
        omega
      have HKK := Lib.hid hkk
      rw [hkk] at o1
      clear ht hcell c1 c2 hkk
      have d0 : (0 : Int) ≤ (d : Int) := by omega
      have d1 : (d : Int) < (nl : Int) := by omega
      by_cases hN : N ≤ (t.size : Int)
      · go_wp2_with (at_builtin; refine wpList_append_lies _ rfl _ _ 45 rfl w1.heap.size 9 i0 (.string ByteArray.empty) 1 16 Try.underlying45 hi0 hz0 hz1 hz2 rfl (by decide) _ _ _ rfl (o1.alloc _) ⟨wr.heap.size, 0, none⟩ 1 1 [.string t] rfl rfl (cell_one_new _ _ _) (by simp [Value.oneCell']) (by omega) (by rw [maxLen_eq]; omega) (by omega) (Nat.le_trans Bd.size (by simp)) _ rfl ?_; intro g2 cap w6 own1 hgrow hat hlt1)
        have hB1 := (Bd.alloc Bd.size _).grown hgrow (by have := Bd.size; simp; omega) (fun j hj => (o1.lt j hj).1)
        go_roundw
        case rel =>
          refine ⟨d + 1, by omega, by go_num, ?_, hB1⟩
          rw [HT.out, if_pos (decide_eq_true hN), List.length_append, HKK.out, textCells_one]
          exact own1
        case measure => simp only [intOf]; omega
      · go_wp2_with fail
        go_roundw
        case rel =>
          refine ⟨d + 1, by omega, by go_num, ?_, Bd⟩
          rw [HT.out, if_neg (by simp; omega), List.append_nil, HKK.out]
          exact o1
        case measure => simp only [intOf]; omega
    · obtain rfl : d = nl := by omega
      have j1 : ¬ (d : Int) < (d : Int) := by omega
      have hall : l.take d = l := by have := HNL.out; rw [← this]; exact List.take_length
      rw [hall] at o1
      obtain ⟨kk, hkk⟩ : ∃ kk, (keepQ N l).length = kk := ⟨_, rfl⟩
      have HKK := Lib.hid hkk
      rw [hkk] at o1 wD
      obtain ⟨ao, co, rfl, -⟩ := SliceOf.of_own o1 (fun i => .string ((keepQ N l).getD i .empty)) (fun i hi => by have := HKK.out; unfold textCells; simp [this, hi])
      have B1r : Below w.heap.size w wr := below_then B1 Bd (Nat.le_refl _)
      have K1r := K1.below Bd K1.lt
      have K3r := K3.below Bd K3.lt
      have sr := Bd.size
      have qr := h.below B1r
      clear c1 c2 hall hkk
      go_upto_region 23 with fail
      clear j1
      go_wp2_with fail
      refine (HF.out _ wr qr K2r).mono ?_
      rintro e w4 ⟨rfl, v', q4, M⟩
      have ne4 : ∀ z, w.heap.size ≤ z → z < wr.heap.size → w4.heap[z]? = wr.heap[z]? := fun z h1 h2 => M.keep z h2 (by omega) (fun e => by have := (h.own.lt z e).2; omega)
      have K14 : Blk w4 w.heap.size 58 #[.int .i64 a, .int .i64 b, .slice ra d rc] := (ne4 _ (by omega) (by omega)).trans K1r
      have K34 : Blk w4 (w.heap.size + 1 + 1) 58 #[.int .i64 0, .int .i64 0, .slice none 0 0] := (ne4 _ (by omega) (by omega)).trans K3r
      have c4 := K14.cell
      have f4 := K14.frozen
      simp at c4
      have K15 := K14.set_ 2 (.slice ao kk co)
      simp at K15
      have K35 := K34.far (p := ⟨w.heap.size, 2, none⟩) (by simp; omega) (.slice ao kk co)
      have hk5 : ∀ z, z ≠ w.heap.size → (w4.setCell ⟨w.heap.size, 2, none⟩ (.slice ao kk co)).heap[z]? = w4.heap[z]? := fun z hz => Below.heap_setCell _ ⟨w.heap.size, 2, none⟩ _ z hz
      have B5 : Below w.heap.size w4 (w4.setCell ⟨w.heap.size, 2, none⟩ (.slice ao kk co)) := (Below.refl _ w4).setCell (p := ⟨w.heap.size, 2, none⟩) (Nat.le_refl _) (.slice ao kk co)
      go_upto_region 26 with fail
      generalize w4.setCell ⟨w.heap.size, 2, none⟩ (.slice ao kk co) = w5 at *
      clear c4 f4
      have c5 := K15.cell
      simp at c5
      obtain ⟨w6, e6, K6, B6, hk6⟩ := three_set K35 rfl (.int .i64 a) (.int .i64 b) (.slice ao kk co) w.heap.size (by omega)
      have f6 := K35.frozen
      have d6 := K35.cell
      simp at d6
      have c6 := K6.cell
      simp at c6
      go_wp2_with fail
      refine bodyPost_ret (v := .tuple #[.agg #[.int .i64 a, .int .i64 b, .slice ao kk co], .bool true]) ?_ rfl ⟨_, rfl, v', .slice ao kk co, ?_⟩
      · simp [results, Try.results25, go_sem, c6]
      · have hq6 : ∀ z, z ≠ w.heap.size → z ≠ w.heap.size + 1 + 1 → w6.heap[z]? = w4.heap[z]? := fun z h1 h2 => (hk6 z h2).trans (hk5 z h1)
        have hvl := fun k (e : v.ownBlock = some k) => (h.own.lt k e).2
        have hv' : ∀ k, v'.ownBlock = some k → k < w.heap.size ∨ wr.heap.size ≤ k := fun k e => by
          rcases M.row k e with h1 | h1
          · exact .inl (hvl k h1)
          · exact .inr h1
        have q6 : QV w6 g a b (keepQ N l) (sumQ (keepQ N l)) v' := ⟨(hq6 g (by omega) (by omega)).trans q4.blk, own_at q4.own (fun j hj => hq6 j (by rcases hv' j hj with h1 | h1 <;> omega) (by rcases hv' j hj with h1 | h1 <;> omega)), q4.ne⟩
        have Rr : RQ wr (.agg #[.int .i64 a, .int .i64 b, .slice ao kk co]) a b (keepQ N l) (.slice ao kk co) := ⟨rfl, by rw [HKK.out]; exact own_base o1⟩
        refine do_end h R HSEP.out B1r Rr (fun k hk => .inr (by have := (o1.lt k hk).1; omega)) (M.below.trans ((B5.mono (Nat.zero_le _)).trans (B6.mono (Nat.zero_le _)))) (fun k hk h1 h2 h3 => (hq6 k ?_ ?_).trans (M.keep k hk h1 h2)) M.row q6
        · rcases h3 with h3 | h3
          · omega
          · have := (o1.lt k h3).1; omega
        · rcases h3 with h3 | h3
          · omega
          · have := (o1.lt k h3).1; omega
end Go.Proofs.Ytomhnegfemdcdaa
