/- The document's history: Forget, Again. No condition but that the row can be read. -/
import Derived.Test.YtonamlgipoannaaHistR2
namespace Go.Proofs.Ytonamlgipoannaa
open Go.RowKit BigFrame
attribute [local go_sem ↓] Go.wp_at_zero Go.wp_at_succ

theorem rowR_one1 (r : HR) : rowR [r] = r.cells := by simp [rowR]
theorem own_sl {W : World} {B T n : Nat} {v : Value} {xs : List Value} (h : W.ownsRow B T 4 v n xs) : ∃ a c, v = .slice a n c := by
  rcases h.2 with ⟨rfl, rfl⟩ | ⟨g, cap, cur, rfl, _⟩
  · exact ⟨_, _, rfl⟩
  · exact ⟨_, _, rfl⟩
set_option maxRecDepth 8000 in
set_option maxHeartbeats 8000000 in
theorem ref21_Forget (x : Value) (a b c : Int) (l : List HR) (sa : Option Addr) (sc : Nat) (u : Int) (k0 : Nat) (w : World) (R : RR w x a b c l sa sc) (hl : l.length ≤ 100000) (hu : UptoR l u k0) :
    Calls Try.prog 46 #[x, .int .i64 u] w fun e w' => ∃ x', e = .returned (.tuple #[x', .int .i64 (k0 : Int)]) ∧ RefPost w w' x' a b c (l.drop k0) sa := by
  obtain ⟨i0, hi0, hz0, hz1, hz2⟩ := info_ref
  obtain ⟨rfl, row⟩ := R
  obtain ⟨n, hn⟩ : ∃ n, l.length = n := ⟨_, rfl⟩
  rw [hn] at row hl ⊢
  have hk0 := hu.le
  rw [hn] at hk0
  have HN := Lib.hid hn
  have HROW := Lib.hid row
  have HU := Lib.hid hu
  have hsc := row.cap
  have hsm := row.most
  clear row hn hu
  obtain ⟨K1, K2, B1⟩ := two_new w #[.int .i64 a, .int .i64 b, .int .i64 c, .slice sa n sc] #[.int .i64 0, .int .i64 0, .int .i64 0, .slice none 0 0] 43 43
  go_enter Try.func46, Try.ntmps46
  go_upto_region 1 with fail
  generalize (w.alloc (.cells #[.int .i64 a, .int .i64 b, .int .i64 c, .slice sa n sc] 43)).alloc (.cells #[.int .i64 0, .int .i64 0, .int .i64 0, .slice none 0 0] 43) = w1 at *
  have hlt1 := K2.lt
  have s1 := B1.size
  have ownl := own_lit w1 99 4
  have Bl : Below w1.heap.size w1 (w1.alloc (.cells #[] 99)) := (Below.refl _ w1).alloc (Nat.le_refl _) _
  have K1l := K1.below Bl K1.lt
  go_upto_region 2 with fail
  generalize w1.alloc (.cells #[] 99) = w2 at *
  have c1 := K1l.cell
  simp at c1
  go_wp2_with fail
  go_loopw [6, 14] (fun x6 x14 wr => ∃ k : Nat, k ≤ n ∧ x14 = .int .i64 k ∧ wr.ownsRow w1.heap.size 99 4 x6 ((l.take k).drop k0).length (rowR ((l.take k).drop k0)) ∧ Below w1.heap.size w1 wr) (fun _ x14 _ => n - (intOf x14).toNat)
  case atStart => exact ⟨0, by omega, rfl, by simpa [rowR] using ownl, Bl⟩
  case round =>
    obtain ⟨k, hk, rfl, own, Bw⟩ := hrel
    have Bx := below_then B1 Bw (Nat.le_refl _)
    have K1r := K1.below Bw K1.lt
    have K2r := K2.below Bw K2.lt
    have hdl : ((l.take k).drop k0).length = k - k0 := by rw [List.length_drop, List.length_take, HN.out]; omega
    by_cases hlt : k < n
    · obtain ⟨g, off, rfl, hg, hcell⟩ := (HROW.out).rec_ (by omega)
      have hql : k < l.length := by have := HN.out; omega
      obtain ⟨r, hrr⟩ : ∃ r, l[k]? = some r := ⟨_, List.getElem?_eq_getElem hql⟩
      obtain ⟨e0, e1, e2, e3⟩ := hcell k r hrr
      have d0 := (Bx.cell (p := ⟨g, off + k * 4, none⟩) hg).trans e0
      have d1 := (Bx.cell (p := ⟨g, off + k * 4 + 1, none⟩) hg).trans e1
      have d2 := (Bx.cell (p := ⟨g, off + k * 4 + 2, none⟩) hg).trans e2
      have d3 := (Bx.cell (p := ⟨g, off + k * 4 + 3, none⟩) hg).trans e3
      have HRR := Lib.hid hrr
      have p0 : (0 : Int) ≤ (k : Int) := by omega
      have p1 : (k : Int) < (n : Int) := by omega
      have wk : IntKind.i64.wrap ((k : Int) + 1) = ((k + 1 : Nat) : Int) := by rw [IntWalk.i64_in _ (by omega)]; omega
      have Ka := Blk.new wr 99 #[.int .i64 r.seq, .int .i64 r.tries, .int .i64 r.path, .string r.data]
      have Ba : Below wr.heap.size wr (wr.alloc (.cells #[.int .i64 r.seq, .int .i64 r.tries, .int .i64 r.path, .string r.data] 99)) := (Below.refl _ wr).alloc (Nat.le_refl _) _
      have owna := own_at own (w' := wr.alloc (.cells #[.int .i64 r.seq, .int .i64 r.tries, .int .i64 r.path, .string r.data] 99)) (fun j hj => Ba.block j (own.lt j hj).2)
      have Bw2 := below_then Bw Ba (Nat.le_refl _)
      rw [hdl] at owna
      clear e0 e1 e2 e3 hrr hcell hql own
      go_upto_region 5 with fail
      clear d0 d1 d2 d3
      generalize wr.alloc (.cells #[.int .i64 r.seq, .int .i64 r.tries, .int .i64 r.path, .string r.data] 99) = wa at *
      have ca := Ka.cell
      simp at ca
      have htk : l.take (k + 1) = l.take k ++ [r] := by rw [List.take_add_one, HRR.out]; rfl
      by_cases hs : u < r.seq
      · have hkk : k0 ≤ k := by
          rcases Nat.lt_or_ge k k0 with h | h
          · have := HU.out.lo k r HRR.out h; omega
          · exact h
        have HD := Lib.hid (show (l.take (k + 1)).drop k0 = (l.take k).drop k0 ++ [r] by
          rw [htk, List.drop_append_of_le_length (by rw [List.length_take, HN.out]; omega)])
        have hnew := World.news_of_block (Blk.new wa 99 #[.int .i64 r.seq, .int .i64 r.tries, .int .i64 r.path, .string r.data])
        have sw2 := Bw2.size
        clear htk hdl
        go_wp2_with (at_builtin; refine wpList_append_lies _ rfl _ _ 41 rfl w1.heap.size 99 i0 (.agg zRec) 4 40 Try.underlying41 hi0 hz0 hz1 hz2 rfl (by decide) _ _ _ rfl (owna.alloc _) ⟨wa.heap.size, 0, none⟩ 1 1 [.int .i64 r.seq, .int .i64 r.tries, .int .i64 r.path, .string r.data] rfl rfl hnew (by simp [Value.oneCell']) (by omega) (by rw [maxLen_eq]; omega) (by omega) (by simp; omega) _ rfl ?_; intro g3 k3 w3 own3 hgrow3 hat3 hlt3)
        have B3 : Below w1.heap.size w1 w3 := (Bw2.alloc sw2 _).grown hgrow3 (by simp; omega) (fun j hj => (owna.lt j hj).1)
        go_roundw
        case rel =>
          refine ⟨k + 1, by omega, by go_num, ?_, B3⟩
          rw [HD.out, List.length_append, rowR_append, rowR_one1, List.length_drop, List.length_take, HN.out, Nat.min_eq_left hk]
          exact own3
        case measure => simp only [intOf]; omega
      · have hkk : k < k0 := by
          rcases Nat.lt_or_ge k k0 with h | h
          · exact h
          · have := HU.out.hi k r HRR.out h; omega
        have HD := Lib.hid (show (l.take (k + 1)).drop k0 = (l.take k).drop k0 by
          rw [List.drop_of_length_le (by rw [List.length_take]; omega), List.drop_of_length_le (by rw [List.length_take]; omega)])
        have HDL := Lib.hid hdl
        clear htk hdl
        go_wp2_with fail
        go_roundw
        case rel =>
          refine ⟨k + 1, by omega, by go_num, ?_, Bw2⟩
          rw [HD.out, HDL.out]
          exact owna
        case measure => simp only [intOf]; omega
    · obtain rfl : k = n := by omega
      have p1 : ¬ (k : Int) < (k : Int) := by omega
      have hall : l.take k = l := by have := HN.out; rw [← this]; exact List.take_length
      rw [hall] at own hdl
      obtain ⟨m, hm⟩ : ∃ m, k - k0 = m := ⟨_, rfl⟩
      rw [hdl, hm] at own
      have HLN := Lib.hid (show (l.drop k0).length = m by rw [hdl, hm])
      obtain ⟨ga, gc, rfl⟩ := own_sl own
      have R3 := RowAt.of_own own HLN.out
      have wd : IntKind.i64.wrap ((k : Int) - (m : Int)) = (k0 : Int) := by rw [IntWalk.i64_in _ (by omega)]; omega
      have c1r := K1r.cell
      have f1r := K1r.frozen
      simp at c1r
      have hrow := own.lt
      have K14 := K1r.set_ 3 (.slice ga m gc)
      have K24 := K2r.far (p := ⟨w.heap.size, 3, none⟩) (by simp) (.slice ga m gc)
      have B4 : Below w.heap.size w (wr.setCell ⟨w.heap.size, 3, none⟩ (.slice ga m gc)) := Bx.setCell (p := ⟨w.heap.size, 3, none⟩) (Nat.le_refl _) _
      have hsz := Bx.size
      have R4 := R3.at_ (W' := wr.setCell ⟨w.heap.size, 3, none⟩ (.slice ga m gc)) (by simp) (fun g off e _ => Below.heap_setCell _ ⟨w.heap.size, 3, none⟩ _ g (by
        have := (hrow g (by rw [e]; rfl)).1
        simp; omega))
      simp at K14
      clear hall hdl c1 p1 hm
      go_upto_region 10 with fail
      generalize wr.setCell ⟨w.heap.size, 3, none⟩ (.slice ga m gc) = w4 at *
      have c14 := K14.cell
      simp at c14
      have K24l := K24.lt
      obtain ⟨w5, e5, K5, B5, hk5⟩ := four_set K24 rfl (.int .i64 a) (.int .i64 b) (.int .i64 c) (.slice ga m gc) w.heap.size (by omega)
      have c2 := K24.cell
      have f2 := K24.frozen
      have c5 := K5.cell
      simp at c2 c5
      have BE := B4.trans B5
      have R5 := R4.at_ (W' := w5) B5.size (fun g off e _ => hk5 g (by
        have := (hrow g (by rw [e]; rfl)).1
        omega))
      clear c1r f1r
      go_wp2_with fail
      refine bodyPost_ret (v := .tuple #[.agg #[.int .i64 a, .int .i64 b, .int .i64 c, .slice ga m gc], .int .i64 (k0 : Int)]) ?_ rfl ⟨_, rfl, _, _, ⟨by rw [HLN.out], by rw [HLN.out]; exact R5⟩, fun g' o' e => .inr (by
        have := (hrow g' (by rw [e]; rfl)).1
        omega), BE⟩
      simp [results, Try.results46, go_sem, c5]
      try rfl
end Go.Proofs.Ytonamlgipoannaa
