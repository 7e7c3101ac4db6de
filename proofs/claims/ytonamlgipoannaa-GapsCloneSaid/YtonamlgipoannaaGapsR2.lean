/- The document's gaps: Forget. No condition but that the row can be read. -/
import Derived.Test.YtonamlgipoannaaGapsR1
namespace Go.Proofs.Ytonamlgipoannaa
open Go.RowKit BigFrame
attribute [local go_sem ↓] Go.wp_at_zero Go.wp_at_succ

def fgW (q : Int) (l : List WR) : List WR := l.filter fun r => decide (q < r.n)
theorem fgW_snoc (q : Int) (l : List WR) (k : Nat) (r : WR) (h : l[k]? = some r) : fgW q (l.take (k + 1)) = fgW q (l.take k) ++ if q < r.n then [r] else [] := by
  unfold fgW
  rw [List.take_add_one, h, List.filter_append]
  congr 1
  by_cases hq : q < r.n <;> simp [hq]
set_option maxRecDepth 20000 in
set_option maxHeartbeats 16000000 in
theorem ref22_Forget (a b c d : Int) (y : Bool) (e' u : Int) (l : List WR) (sa : Option Addr) (n sc : Nat) (q : Int) (w : World) (R : RowT w sa n sc l) (hl : n ≤ 100000) :
    Calls Try.prog 62 #[gval a b c d y e' u sa n sc, .int .i64 q] w fun e w' => ∃ sa' n' sc', e = .returned (.tuple #[gval a b c d y e' u sa' n' sc', .int .i64 ((n : Int) - (n' : Int))]) ∧ RowT w' sa' n' sc' (fgW q l) ∧ Below w.heap.size w w' := by
  obtain ⟨i0, hi0, hz0, hz1, hz2⟩ := info_wt
  have HROW := Lib.hid R
  have HN := Lib.hid R.len
  have hsc := R.cap
  have hsm := R.most
  clear R
  obtain ⟨K1, K2, B1⟩ := two_newW w #[.int .i64 a, .int .i64 b, .int .i64 c, .int .i64 d, .slice sa n sc, .bool y, .int .i64 e', .int .i64 u] #[.int .i64 0, .int .i64 0, .int .i64 0, .int .i64 0, .slice none 0 0, .bool false, .int .i64 0, .int .i64 0] 70 70
  unfold gval
  go_enter Try.func62, Try.ntmps62
  go_upto_region 1 with fail
  generalize ((w.alloc (.cells #[.int .i64 a, .int .i64 b, .int .i64 c, .int .i64 d, .slice sa n sc, .bool y, .int .i64 e', .int .i64 u] 70)).alloc (.cells #[.int .i64 0, .int .i64 0, .int .i64 0, .int .i64 0, .slice none 0 0, .bool false, .int .i64 0, .int .i64 0] 70)) = w1 at *
  have s1 := B1.size
  have hlt2 := K2.lt
  have own1 := own_lit w1 125 3
  have Ba : Below w1.heap.size w1 (w1.alloc (.cells #[] 125)) := (Below.refl _ w1).alloc (Nat.le_refl _) _
  have K1a := K1.below Ba K1.lt
  have c1 := K1a.cell
  simp at c1
  go_upto_region 2 with fail
  generalize hw2 : w1.alloc (.cells #[] 125) = w2 at *
  clear hw2 K1a
  go_wp2_with fail
  go_loopw [6, 14] (fun x6 x14 wr => ∃ k zl : Nat, k ≤ n ∧ zl ≤ k ∧ x14 = .int .i64 k ∧ wr.ownsRow w1.heap.size 125 3 x6 zl (rowT (fgW q (l.take k))) ∧ Below w1.heap.size w1 wr) (fun _ x14 _ => n - (intOf x14).toNat)
  case atStart => exact ⟨0, 0, by omega, by omega, rfl, own1, Ba⟩
  case round =>
    clear own1 Ba
    obtain ⟨k, zl, hk, hzl, rfl, own, Bw⟩ := hrel
    have sw := Bw.size
    by_cases hlt : k < n
    · obtain ⟨g, off, rfl, hg, hcell⟩ := (HROW.out).rec_ (by omega)
      have hql : k < l.length := by have := HN.out; omega
      obtain ⟨r, hrr⟩ : ∃ r, l[k]? = some r := ⟨_, List.getElem?_eq_getElem hql⟩
      obtain ⟨e0, e1, e2⟩ := hcell k r hrr
      have Bx := below_then B1 Bw (Nat.le_refl _)
      have d0 := (Bx.cell (p := ⟨g, off + k * 3, none⟩) hg).trans e0
      have d1 := (Bx.cell (p := ⟨g, off + k * 3 + 1, none⟩) hg).trans e1
      have d2 := (Bx.cell (p := ⟨g, off + k * 3 + 2, none⟩) hg).trans e2
      have HSN := Lib.hid (fgW_snoc q l k r hrr)
      have p0 : (0 : Int) ≤ (k : Int) := by omega
      have p1 : (k : Int) < (n : Int) := by omega
      have wk : IntKind.i64.wrap ((k : Int) + 1) = ((k + 1 : Nat) : Int) := by rw [IntWalk.i64_in _ (by omega)]; omega
      have Ka := Blk.new wr 125 #[.int .i64 r.n, .int .i64 r.at_, .int .i64 r.t]
      have Ba : Below wr.heap.size wr (wr.alloc (.cells #[.int .i64 r.n, .int .i64 r.at_, .int .i64 r.t] 125)) := (Below.refl _ wr).alloc (Nat.le_refl _) _
      have owna := own_at own (w' := wr.alloc (.cells #[.int .i64 r.n, .int .i64 r.at_, .int .i64 r.t] 125)) (fun j hj => Ba.block j (own.lt j hj).2)
      have Bw2 := Bw.trans (Ba.mono sw)
      clear e0 e1 e2 hrr hcell hql own
      go_upto_region 5 with fail
      clear d0 d1 d2
      generalize wr.alloc (.cells #[.int .i64 r.n, .int .i64 r.at_, .int .i64 r.t] 125) = wa at *
      have ca := Ka.cell
      simp at ca
      have sa2 := Bw2.size
      by_cases hs : q < r.n
      · have kb := Blk.new wa 125 #[.int .i64 r.n, .int .i64 r.at_, .int .i64 r.t]
        have hnew := World.news_of_block kb
        have Bb : Below wa.heap.size wa (wa.alloc (.cells #[.int .i64 r.n, .int .i64 r.at_, .int .i64 r.t] 125)) := (Below.refl _ wa).alloc (Nat.le_refl _) _
        have ownb := own_at owna (w' := wa.alloc (.cells #[.int .i64 r.n, .int .i64 r.at_, .int .i64 r.t] 125)) (fun j hj => Bb.block j (owna.lt j hj).2)
        have HE := Lib.hid (show (if q < r.n then [r] else []) = [r] from if_pos hs)
        go_wp2_with (at_builtin; refine wpList_append_lies _ rfl _ _ 68 rfl w1.heap.size 125 i0 (.agg zWT) 3 24 Try.underlying68 hi0 hz0 hz1 hz2 rfl (by decide) _ _ _ rfl ownb ⟨wa.heap.size, 0, none⟩ 1 1 [.int .i64 r.n, .int .i64 r.at_, .int .i64 r.t] rfl rfl hnew (by simp [Value.oneCell']) (by omega) (by rw [maxLen_eq]; omega) (by omega) (by simp; omega) _ rfl ?_; intro g2 cap w8 own8 hgrow hat hlt8)
        have B8 : Below w1.heap.size wa w8 := ((Below.refl w1.heap.size wa).alloc sa2 _).grown hgrow (by simp; omega) (fun j hj => (ownb.lt j hj).1)
        have BE := Bw2.trans B8
        go_roundw
        case rel => exact ⟨k + 1, zl + 1, by omega, by omega, by go_num, by rw [HSN.out, HE.out, rowT_append]; exact own8, BE⟩
        case measure => simp only [intOf]; omega
      · have HE := Lib.hid (show (if q < r.n then [r] else []) = [] from if_neg hs)
        go_wp2_with fail
        go_roundw
        case rel => exact ⟨k + 1, zl, by omega, by omega, by go_num, by rw [HSN.out, HE.out, List.append_nil]; exact owna, Bw2⟩
        case measure => simp only [intOf]; omega
    · obtain rfl : k = n := by omega
      have p1 : ¬ (k : Int) < (k : Int) := by omega
      have hall : l.take k = l := by have := HN.out; rw [← this]; exact List.take_length
      rw [hall] at own
      obtain ⟨xa, xn, xc, rfl, hx⟩ : ∃ a n c, u6 = Value.slice a n c ∧ n = zl := by
        rcases own.2 with ⟨rfl, h0⟩ | ⟨_, _, _, rfl, _⟩
        · exact ⟨_, _, _, rfl, h0.symm⟩
        · exact ⟨_, _, _, rfl, rfl⟩
      obtain rfl := hx
      have wz : IntKind.i64.wrap ((k : Int) - (xn : Int)) = (k : Int) - (xn : Int) := IntWalk.i64_in _ (by omega)
      have K1r := K1.below Bw K1.lt
      have K2r := K2.below Bw K2.lt
      have K3 := K1r.set_ 4 (.slice xa xn xc)
      simp at K3
      have K2s : Blk (wr.setCell ⟨w.heap.size, 4, none⟩ (.slice xa xn xc)) (w.heap.size + 1) 70 _ := (Below.heap_setCell _ ⟨w.heap.size, 4, none⟩ _ (w.heap.size + 1) (by simp)).trans K2r
      have own9 := own_at own (w' := wr.setCell ⟨w.heap.size, 4, none⟩ (.slice xa xn xc)) (fun j hj => Below.heap_setCell _ ⟨w.heap.size, 4, none⟩ _ j (by have := (own.lt j hj).1; simp; omega))
      have B9 : Below w.heap.size w (wr.setCell ⟨w.heap.size, 4, none⟩ (.slice xa xn xc)) := (below_then B1 Bw (Nat.le_refl _)).setCell (p := ⟨w.heap.size, 4, none⟩) (Nat.le_refl _) _
      have c1r := K1r.cell
      have f1r := K1r.frozen
      simp at c1r
      clear hall own K1r K2r K1 K2 c1
      go_upto_region 10 with fail
      generalize wr.setCell ⟨w.heap.size, 4, none⟩ (.slice xa xn xc) = w9 at *
      obtain ⟨w10, e10, K10, B10, hk10⟩ := eight_set K2s (.int .i64 a) (.int .i64 b) (.int .i64 c) (.int .i64 d) (.slice xa xn xc) (.bool y) (.int .i64 e') (.int .i64 u) w.heap.size (by omega)
      have own10 := own_at own9 (w' := w10) (fun j hj => hk10 j (by have := (own9.lt j hj).1; omega))
      have HR := Lib.hid (RowT.of_own own10)
      have c3 := K3.cell
      have c2 := K2s.cell
      have f2 := K2s.frozen
      have c10 := K10.cell
      simp at c3 c2 c10
      have BE := B9.trans B10
      clear c1r f1r own9 own10
      go_wp2_with fail
      refine bodyPost_ret (v := .tuple #[gval a b c d y e' u xa xn xc, .int .i64 ((k : Int) - (xn : Int))]) ?_ rfl ⟨xa, xn, xc, rfl, HR.out, BE⟩
      simp [results, Try.results62, go_sem, c10, gval]
      try rfl
end Go.Proofs.Ytonamlgipoannaa
