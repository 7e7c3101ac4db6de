/- The document's gaps: Came. No condition but that the row can be read. -/
import Derived.Test.YtonamlgipoannaaGapsR3
namespace Go.Proofs.Ytonamlgipoannaa
open Go.RowKit BigFrame
attribute [local go_sem ↓] Go.wp_at_zero Go.wp_at_succ

theorem rmW_snoc (q : Int) (l : List WR) (k : Nat) (r : WR) (h : l[k]? = some r) : rmW (l.take (k + 1)) q = rmW (l.take k) q ++ if r.n = q then [] else [r] := by
  unfold rmW
  rw [List.take_add_one, h, List.filter_append]
  congr 1
  by_cases hq : r.n = q <;> simp [hq]
theorem wrap_two (u x y z : Int) (h : x + y = z) : IntKind.i64.wrap (IntKind.i64.wrap (u + x) + y) = IntKind.i64.wrap (u + z) := by
  subst h
  rw [IntKind.wrap_i64, IntKind.wrap_i64, IntKind.wrap_i64]
  omega
set_option maxRecDepth 20000 in
set_option maxHeartbeats 16000000 in
theorem ref22_CameA (a b c d : Int) (e' u : Int) (l : List WR) (sa : Option Addr) (n0 sc : Nat) (n now N T : Int) (hN : clipI n (-1099511627776) 1099511627776 = N) (hT : clipI now 0 1099511627776 = T) (w : World) (R : RowT w sa n0 sc l) :
    Calls Try.prog 63 #[gval a b c d false e' u sa n0 sc, .int .i64 n, .int .i64 now] w fun e w' => e = .returned (.tuple #[gval a b c d true N u sa n0 sc, .int .i64 0]) ∧ RowT w' sa n0 sc l ∧ Below w.heap.size w w' := by
  have HN := Lib.hid (fun W => ref22_near n _ _ N (by decide) hN W)
  have HT := Lib.hid (fun W => ref22_near now _ _ T (by decide) hT W)
  have HROW := Lib.hid R
  clear R hN hT
  obtain ⟨K1, K2, B1⟩ := two_newW w #[.int .i64 a, .int .i64 b, .int .i64 c, .int .i64 d, .slice sa n0 sc, .bool false, .int .i64 e', .int .i64 u] #[.int .i64 0, .int .i64 0, .int .i64 0, .int .i64 0, .slice none 0 0, .bool false, .int .i64 0, .int .i64 0] 70 70
  unfold gval
  go_enter Try.func63, Try.ntmps63
  go_upto_region 1 with fail
  generalize ((w.alloc (.cells #[.int .i64 a, .int .i64 b, .int .i64 c, .int .i64 d, .slice sa n0 sc, .bool false, .int .i64 e', .int .i64 u] 70)).alloc (.cells #[.int .i64 0, .int .i64 0, .int .i64 0, .int .i64 0, .slice none 0 0, .bool false, .int .i64 0, .int .i64 0] 70)) = w1 at *
  have c1 := K1.cell
  have f1 := K1.frozen
  simp at c1
  have K3 := (K1.set_ 5 (.bool true)).set_ 6 (.int .i64 N)
  simp at K3
  have K2s : Blk ((w1.setCell ⟨w.heap.size, 5, none⟩ (.bool true)).setCell ⟨w.heap.size, 6, none⟩ (.int .i64 N)) (w.heap.size + 1) 70 _ := (Below.heap_setCell _ ⟨w.heap.size, 6, none⟩ _ (w.heap.size + 1) (by simp)).trans ((Below.heap_setCell _ ⟨w.heap.size, 5, none⟩ _ (w.heap.size + 1) (by simp)).trans K2)
  have B9 := (B1.setCell (p := ⟨w.heap.size, 5, none⟩) (Nat.le_refl _) (.bool true)).setCell (p := ⟨w.heap.size, 6, none⟩) (Nat.le_refl _) (.int .i64 N)
  have HK3 := Lib.hid K3
  have HK2 := Lib.hid K2s
  clear K3 K2s K1 K2
  go_upto_region 6 with (first | (go_at_call 60; ((with_reducible refine (HN.out _).mono ?_); rintro e w' ⟨rfl, rfl⟩)) | (go_at_call 60; ((with_reducible refine (HT.out _).mono ?_); rintro e w' ⟨rfl, rfl⟩)))
  have K3 := HK3.out
  have K2s := HK2.out
  generalize (w1.setCell ⟨w.heap.size, 5, none⟩ (.bool true)).setCell ⟨w.heap.size, 6, none⟩ (.int .i64 N) = w9 at *
  obtain ⟨w10, e10, K10, B10, hk10⟩ := eight_set K2s (.int .i64 a) (.int .i64 b) (.int .i64 c) (.int .i64 d) (.slice sa n0 sc) (.bool true) (.int .i64 N) (.int .i64 u) w.heap.size (by omega)
  have c3 := K3.cell
  have c2 := K2s.cell
  have f2 := K2s.frozen
  have c10 := K10.cell
  simp at c3 c2 c10
  have BE := B9.trans B10
  clear c1 f1 HK3 HK2
  go_wp2_with fail
  refine bodyPost_ret (v := .tuple #[gval a b c d true N u sa n0 sc, .int .i64 0]) ?_ rfl ⟨rfl, HROW.out.below BE, BE⟩
  simp [results, Try.results63, go_sem, c10, gval]
  try rfl
set_option maxRecDepth 20000 in
set_option maxHeartbeats 16000000 in
theorem ref22_CameB (a b c d : Int) (e' u : Int) (l : List WR) (sa : Option Addr) (n sc : Nat) (nn now q T : Int) (hq : clipI nn (-1099511627776) 1099511627776 = q) (hT : clipI now 0 1099511627776 = T) (w : World) (R : RowT w sa n sc l) (hl : n ≤ 100000) (hle : q ≤ e') :
    Calls Try.prog 63 #[gval a b c d true e' u sa n sc, .int .i64 nn, .int .i64 now] w fun e w' => ∃ sa' n' sc', e = .returned (.tuple #[gval a b c d true e' u sa' n' sc', .int .i64 0]) ∧ RowT w' sa' n' sc' (rmW l q) ∧ Below w.heap.size w w' := by
  have HNQ := Lib.hid (fun W => ref22_near nn _ _ q (by decide) hq W)
  have HT := Lib.hid (fun W => ref22_near now _ _ T (by decide) hT W)
  obtain ⟨i0, hi0, hz0, hz1, hz2⟩ := info_wt
  have HROW := Lib.hid R
  have HN := Lib.hid R.len
  have hsc := R.cap
  have hsm := R.most
  clear R hq hT
  obtain ⟨K1, K2, B1⟩ := two_newW w #[.int .i64 a, .int .i64 b, .int .i64 c, .int .i64 d, .slice sa n sc, .bool true, .int .i64 e', .int .i64 u] #[.int .i64 0, .int .i64 0, .int .i64 0, .int .i64 0, .slice none 0 0, .bool false, .int .i64 0, .int .i64 0] 70 70
  unfold gval
  go_enter Try.func63, Try.ntmps63
  go_upto_region 1 with fail
  generalize ((w.alloc (.cells #[.int .i64 a, .int .i64 b, .int .i64 c, .int .i64 d, .slice sa n sc, .bool true, .int .i64 e', .int .i64 u] 70)).alloc (.cells #[.int .i64 0, .int .i64 0, .int .i64 0, .int .i64 0, .slice none 0 0, .bool false, .int .i64 0, .int .i64 0] 70)) = w1 at *
  have s1 := B1.size
  have hlt2 := K2.lt
  have own1 := own_lit w1 125 3
  have Ba : Below w1.heap.size w1 (w1.alloc (.cells #[] 125)) := (Below.refl _ w1).alloc (Nat.le_refl _) _
  have K1a := K1.below Ba K1.lt
  have c1 := K1a.cell
  have c0 := K1.cell
  simp at c1 c0
  go_upto_region 8 with (first | (go_at_call 60; ((with_reducible refine (HNQ.out _).mono ?_); rintro e w' ⟨rfl, rfl⟩)) | (go_at_call 60; ((with_reducible refine (HT.out _).mono ?_); rintro e w' ⟨rfl, rfl⟩)))
  clear c0
  generalize hw2 : w1.alloc (.cells #[] 125) = w2 at *
  clear hw2 K1a
  go_wp2_with fail
  go_loopw [8, 35] (fun x6 x14 wr => ∃ k zl : Nat, k ≤ n ∧ zl ≤ k ∧ x14 = .int .i64 k ∧ wr.ownsRow w1.heap.size 125 3 x6 zl (rowT (rmW (l.take k) q)) ∧ Below w1.heap.size w1 wr) (fun _ x14 _ => n - (intOf x14).toNat)
  case atStart => exact ⟨0, 0, by omega, by omega, rfl, own1, Ba⟩
  case round =>
    clear own1 Ba
    obtain ⟨k, zl, hk, hzl, rfl, own, Bw⟩ := hrel
    have sw := Bw.size
    by_cases hlt : k < n
    · obtain ⟨g, off, rfl, hg, hcell⟩ := (HROW.out).rec_ (by omega)
      have hql : k < l.length := by have := HN.out; omega
      obtain ⟨r, hrr⟩ : ∃ r, l[k]? = some r := ⟨_, List.getElem?_eq_getElem hql⟩
      obtain ⟨e0, e1, e2⟩ := hcell k r hrr
      have Bx := below_then B1 Bw (Nat.le_refl _)
      have d0 := (Bx.cell (p := ⟨g, off + k * 3, none⟩) hg).trans e0
      have d1 := (Bx.cell (p := ⟨g, off + k * 3 + 1, none⟩) hg).trans e1
      have d2 := (Bx.cell (p := ⟨g, off + k * 3 + 2, none⟩) hg).trans e2
      have HSN := Lib.hid (rmW_snoc q l k r hrr)
      have p0 : (0 : Int) ≤ (k : Int) := by omega
      have p1 : (k : Int) < (n : Int) := by omega
      have wk : IntKind.i64.wrap ((k : Int) + 1) = ((k + 1 : Nat) : Int) := by rw [IntWalk.i64_in _ (by omega)]; omega
      have Ka := Blk.new wr 125 #[.int .i64 r.n, .int .i64 r.at_, .int .i64 r.t]
      have Ba : Below wr.heap.size wr (wr.alloc (.cells #[.int .i64 r.n, .int .i64 r.at_, .int .i64 r.t] 125)) := (Below.refl _ wr).alloc (Nat.le_refl _) _
      have owna := own_at own (w' := wr.alloc (.cells #[.int .i64 r.n, .int .i64 r.at_, .int .i64 r.t] 125)) (fun j hj => Ba.block j (own.lt j hj).2)
      have Bw2 := Bw.trans (Ba.mono sw)
      clear e0 e1 e2 hrr hcell hql own
      go_upto_region 12 with fail
      clear d0 d1 d2
      generalize wr.alloc (.cells #[.int .i64 r.n, .int .i64 r.at_, .int .i64 r.t] 125) = wa at *
      have ca := Ka.cell
      simp at ca
      have sa2 := Bw2.size
      by_cases hs : ¬ r.n = q
      · have hs2 : (r.n != q) = true := by simp [hs]
        have kb := Blk.new wa 125 #[.int .i64 r.n, .int .i64 r.at_, .int .i64 r.t]
        have hnew := World.news_of_block kb
        have Bb : Below wa.heap.size wa (wa.alloc (.cells #[.int .i64 r.n, .int .i64 r.at_, .int .i64 r.t] 125)) := (Below.refl _ wa).alloc (Nat.le_refl _) _
        have ownb := own_at owna (w' := wa.alloc (.cells #[.int .i64 r.n, .int .i64 r.at_, .int .i64 r.t] 125)) (fun j hj => Bb.block j (owna.lt j hj).2)
        have HE := Lib.hid (show (if r.n = q then [] else [r]) = [r] from if_neg hs)
        clear hs
        go_wp2_with (at_builtin; refine wpList_append_lies _ rfl _ _ 68 rfl w1.heap.size 125 i0 (.agg zWT) 3 24 Try.underlying68 hi0 hz0 hz1 hz2 rfl (by decide) _ _ _ rfl ownb ⟨wa.heap.size, 0, none⟩ 1 1 [.int .i64 r.n, .int .i64 r.at_, .int .i64 r.t] rfl rfl hnew (by simp [Value.oneCell']) (by omega) (by rw [maxLen_eq]; omega) (by omega) (by simp; omega) _ rfl ?_; intro g2 cap w8 own8 hgrow hat hlt8)
        have B8 : Below w1.heap.size wa w8 := ((Below.refl w1.heap.size wa).alloc sa2 _).grown hgrow (by simp; omega) (fun j hj => (ownb.lt j hj).1)
        have BE := Bw2.trans B8
        go_roundw
        case rel => exact ⟨k + 1, zl + 1, by omega, by omega, by go_num, by rw [HSN.out, HE.out, rowT_append]; exact own8, BE⟩
        case measure => simp only [intOf]; omega
      · have hs2 : (r.n != q) = false := by simpa using hs
        have HE := Lib.hid (show (if r.n = q then [] else [r]) = [] from if_pos (by simpa using hs))
        clear hs
        go_wp2_with fail
        go_roundw
        case rel => exact ⟨k + 1, zl, by omega, by omega, by go_num, by rw [HSN.out, HE.out, List.append_nil]; exact owna, Bw2⟩
        case measure => simp only [intOf]; omega
    · obtain rfl : k = n := by omega
      have p1 : ¬ (k : Int) < (k : Int) := by omega
      have hall : l.take k = l := by have := HN.out; rw [← this]; exact List.take_length
      rw [hall] at own
      obtain ⟨xa, xn, xc, rfl, hx⟩ : ∃ a n c, u8 = Value.slice a n c ∧ n = zl := by
        rcases own.2 with ⟨rfl, h0⟩ | ⟨_, _, _, rfl, _⟩
        · exact ⟨_, _, _, rfl, h0.symm⟩
        · exact ⟨_, _, _, rfl, rfl⟩
      obtain rfl := hx
      have K1r := K1.below Bw K1.lt
      have K2r := K2.below Bw K2.lt
      have K3 := K1r.set_ 4 (.slice xa xn xc)
      simp at K3
      have K2s : Blk (wr.setCell ⟨w.heap.size, 4, none⟩ (.slice xa xn xc)) (w.heap.size + 1) 70 _ := (Below.heap_setCell _ ⟨w.heap.size, 4, none⟩ _ (w.heap.size + 1) (by simp)).trans K2r
      have own9 := own_at own (w' := wr.setCell ⟨w.heap.size, 4, none⟩ (.slice xa xn xc)) (fun j hj => Below.heap_setCell _ ⟨w.heap.size, 4, none⟩ _ j (by have := (own.lt j hj).1; simp; omega))
      have B9 : Below w.heap.size w (wr.setCell ⟨w.heap.size, 4, none⟩ (.slice xa xn xc)) := (below_then B1 Bw (Nat.le_refl _)).setCell (p := ⟨w.heap.size, 4, none⟩) (Nat.le_refl _) _
      have c1r := K1r.cell
      have f1r := K1r.frozen
      simp at c1r
      clear hall own K1r K2r K1 K2 c1
      go_upto_region 16 with fail
      generalize wr.setCell ⟨w.heap.size, 4, none⟩ (.slice xa xn xc) = w9 at *
      obtain ⟨w10, e10, K10, B10, hk10⟩ := eight_set K2s (.int .i64 a) (.int .i64 b) (.int .i64 c) (.int .i64 d) (.slice xa xn xc) (.bool true) (.int .i64 e') (.int .i64 u) w.heap.size (by omega)
      have own10 := own_at own9 (w' := w10) (fun j hj => hk10 j (by have := (own9.lt j hj).1; omega))
      have HR := Lib.hid (RowT.of_own own10)
      have c3 := K3.cell
      have c2 := K2s.cell
      have f2 := K2s.frozen
      have c10 := K10.cell
      simp at c3 c2 c10
      have BE := B9.trans B10
      clear c1r f1r own9 own10
      go_wp2_with fail
      refine bodyPost_ret (v := .tuple #[gval a b c d true e' u xa xn xc, .int .i64 0]) ?_ rfl ⟨xa, xn, xc, rfl, HR.out, BE⟩
      simp [results, Try.results63, go_sem, c10, gval]
      try rfl
end Go.Proofs.Ytonamlgipoannaa
