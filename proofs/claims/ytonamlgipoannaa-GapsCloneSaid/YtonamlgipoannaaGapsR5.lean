/- The document's gaps: Came, a new greatest one. No condition but that the row can be read. -/
import Derived.Test.YtonamlgipoannaaGapsR4
namespace Go.Proofs.Ytonamlgipoannaa
open Go.RowKit BigFrame
attribute [local go_sem ↓] Go.wp_at_zero Go.wp_at_succ

theorem drop_snoc (up : Nat) (l : List WR) (k : Nat) (r : WR) (h : l[k]? = some r) : (l.take (k + 1)).drop up = (l.take k).drop up ++ if up ≤ k then [r] else [] := by
  have hk := (List.getElem?_eq_some_iff.1 h).1
  rw [List.take_add_one, h, List.drop_append, List.length_take, Nat.min_eq_left (by omega)]
  congr 1
  by_cases hq : up ≤ k
  · rw [if_pos hq, Nat.sub_eq_zero_of_le hq]; rfl
  · rw [if_neg hq]
    exact List.drop_of_length_le (by simp; omega)
set_option maxRecDepth 20000 in
set_option maxHeartbeats 16000000 in
theorem ref22_CameC (a b c d : Int) (e' u : Int) (l : List WR) (sa : Option Addr) (n sc : Nat) (nn now N T : Int) (hN : clipI nn (-1099511627776) 1099511627776 = N) (hT : clipI now 0 1099511627776 = T) (w : World) (R : RowT w sa n sc l) (hla : (n : Int) ≤ a) (ha : a ≤ 1024) (hgt : e' < N) (he : -1099511627776 ≤ e') (hc0 : 0 ≤ c) (hc1 : c ≤ 1048576)
    (up cnt : Nat) (lo : Int) (ho : (up : Int) = max 0 ((n : Int) + (N - e' - 1) - a)) (hlo : lo = max (e' + 1) (N - a)) (hcnt : (cnt : Int) = N - lo) (u2 : Int) (hu2 : IntKind.i64.wrap (u + (up : Int)) = u2) :
    Calls Try.prog 63 #[gval a b c d true e' u sa n sc, .int .i64 nn, .int .i64 now] w fun e w' => ∃ sa' n' sc', e = .returned (.tuple #[gval a b c d true N u2 sa' n' sc', .int .i64 (up : Int)]) ∧ RowT w' sa' n' sc' (l.drop up ++ numsW lo c d T cnt) ∧ Below w.heap.size w w' := by
  obtain ⟨i0, hi0, hz0, hzA, hz2⟩ := info_wt
  have HNQ := Lib.hid (fun W => ref22_near nn _ _ N (by decide) hN W)
  have HT := Lib.hid (fun W => ref22_near now _ _ T (by decide) hT W)
  have nb := clip_bd nn (-1099511627776) 1099511627776 (by decide)
  have tb := clip_bd now 0 1099511627776 (by decide)
  rw [hN] at nb
  rw [hT] at tb
  obtain ⟨nb0, nb1⟩ := nb
  obtain ⟨tb0, tb1⟩ := tb
  have HROW := Lib.hid R
  have HN := Lib.hid R.len
  have hsc := R.cap
  have hsm := R.most
  have hn1024 : n ≤ 1024 := by omega
  obtain ⟨s1, hs1⟩ : ∃ x, (n : Int) + N = x := ⟨_, rfl⟩
  obtain ⟨s2, hs2⟩ : ∃ x, s1 - e' = x := ⟨_, rfl⟩
  obtain ⟨s3, hs3⟩ : ∃ x, s2 - 1 = x := ⟨_, rfl⟩
  obtain ⟨s4, hs4⟩ : ∃ x, s3 - a = x := ⟨_, rfl⟩
  have m1 : (if 0 < s4 then s4 else 0) = (up : Int) := by split <;> omega
  obtain ⟨s5, hs5⟩ : ∃ x, e' + 1 = x := ⟨_, rfl⟩
  obtain ⟨s6, hs6⟩ : ∃ x, N - a = x := ⟨_, rfl⟩
  have m2 : (if s5 < s6 then s6 else s5) = lo := by split <;> omega
  obtain ⟨tc, htc⟩ : ∃ x, T + c = x := ⟨_, rfl⟩
  have x1 : IntKind.i64.wrap ((n : Int) + N) = s1 := by rw [IntWalk.i64_in _ (by omega), hs1]
  have x2 : IntKind.i64.wrap (s1 - e') = s2 := by rw [IntWalk.i64_in _ (by omega), hs2]
  have x3 : IntKind.i64.wrap (s2 - 1) = s3 := by rw [IntWalk.i64_in _ (by omega), hs3]
  have x4 : IntKind.i64.wrap (s3 - a) = s4 := by rw [IntWalk.i64_in _ (by omega), hs4]
  have x5 : IntKind.i64.wrap (e' + 1) = s5 := by rw [IntWalk.i64_in _ (by omega), hs5]
  have x6 : IntKind.i64.wrap (N - a) = s6 := by rw [IntWalk.i64_in _ (by omega), hs6]
  have x7 : IntKind.i64.wrap (T + c) = tc := by rw [IntWalk.i64_in _ (by omega), htc]
  have HTC := Lib.hid htc
  have HUP := Lib.hid ho
  have HLO := Lib.hid hlo
  have hcb : (cnt : Int) ≤ 1024 := by omega
  have hupb : (up : Int) ≤ 4398046511104 := by omega
  have hlob : -1099511627776 ≤ lo := by omega
  have HLC := Lib.hid (show N = lo + (cnt : Int) by omega)
  have hne' : ¬ N ≤ e' := by omega
  clear R hN hT hs1 hs2 hs3 hs4 hs5 hs6 htc ho hlo hcnt
  obtain ⟨K1, K2, B1⟩ := two_newW w #[.int .i64 a, .int .i64 b, .int .i64 c, .int .i64 d, .slice sa n sc, .bool true, .int .i64 e', .int .i64 u] #[.int .i64 0, .int .i64 0, .int .i64 0, .int .i64 0, .slice none 0 0, .bool false, .int .i64 0, .int .i64 0] 70 70
  unfold gval
  go_enter Try.func63, Try.ntmps63
  go_upto_region 1 with fail
  generalize ((w.alloc (.cells #[.int .i64 a, .int .i64 b, .int .i64 c, .int .i64 d, .slice sa n sc, .bool true, .int .i64 e', .int .i64 u] 70)).alloc (.cells #[.int .i64 0, .int .i64 0, .int .i64 0, .int .i64 0, .slice none 0 0, .bool false, .int .i64 0, .int .i64 0] 70)) = w1 at *
  have s1' := B1.size
  have hlt2 := K2.lt
  have own1 := own_lit w1 125 3
  have Ba : Below w1.heap.size w1 (w1.alloc (.cells #[] 125)) := (Below.refl _ w1).alloc (Nat.le_refl _) _
  have K1a := K1.below Ba K1.lt
  have c1 := K1a.cell
  have c0 := K1.cell
  simp at c1 c0
  go_upto_region 8 with (first | (go_at_call 60; ((with_reducible refine (HNQ.out _).mono ?_); rintro e w' ⟨rfl, rfl⟩)) | (go_at_call 60; ((with_reducible refine (HT.out _).mono ?_); rintro e w' ⟨rfl, rfl⟩)))
  clear c0
  generalize hw2 : w1.alloc (.cells #[] 125) = w2 at *
  clear hw2 K1a
  go_wp2_with fail
  go_loopw [8, 69] (fun x8 x69 wr => ∃ k zl : Nat, k ≤ n ∧ zl ≤ k ∧ x69 = .int .i64 k ∧ wr.ownsRow w1.heap.size 125 3 x8 zl (rowT ((l.take k).drop up)) ∧ Below w1.heap.size w1 wr) (fun _ x69 _ => n - (intOf x69).toNat)
  case atStart => exact ⟨0, 0, by omega, by omega, rfl, by rw [List.take_zero, List.drop_nil]; exact own1, Ba⟩
  case round =>
    clear own1 Ba c1
    obtain ⟨k, zl, hk, hzl, rfl, own, Bw⟩ := hrel
    have sw := Bw.size
    by_cases hlt : k < n
    · obtain ⟨g, off, rfl, hg, hcell⟩ := (HROW.out).rec_ (by omega)
      have hql : k < l.length := by have := HN.out; omega
      obtain ⟨r, hrr⟩ : ∃ r, l[k]? = some r := ⟨_, List.getElem?_eq_getElem hql⟩
      obtain ⟨e0, e1, e2⟩ := hcell k r hrr
      have Bx := below_then B1 Bw (Nat.le_refl _)
      have d0 := (Bx.cell (p := ⟨g, off + k * 3, none⟩) hg).trans e0
      have d1 := (Bx.cell (p := ⟨g, off + k * 3 + 1, none⟩) hg).trans e1
      have d2 := (Bx.cell (p := ⟨g, off + k * 3 + 2, none⟩) hg).trans e2
      have HSN := Lib.hid (drop_snoc up l k r hrr)
      have p0 : (0 : Int) ≤ (k : Int) := by omega
      have p1 : (k : Int) < (n : Int) := by omega
      have wk : IntKind.i64.wrap ((k : Int) + 1) = ((k + 1 : Nat) : Int) := by rw [IntWalk.i64_in _ (by omega)]; omega
      have Ka := Blk.new wr 125 #[.int .i64 r.n, .int .i64 r.at_, .int .i64 r.t]
      have Ba : Below wr.heap.size wr (wr.alloc (.cells #[.int .i64 r.n, .int .i64 r.at_, .int .i64 r.t] 125)) := (Below.refl _ wr).alloc (Nat.le_refl _) _
      have owna := own_at own (w' := wr.alloc (.cells #[.int .i64 r.n, .int .i64 r.at_, .int .i64 r.t] 125)) (fun j hj => Ba.block j (own.lt j hj).2)
      have Bw2 := Bw.trans (Ba.mono sw)
      clear e0 e1 e2 hrr hcell hql own
      go_upto_region 22 with fail
      clear d0 d1 d2
      generalize wr.alloc (.cells #[.int .i64 r.n, .int .i64 r.at_, .int .i64 r.t] 125) = wa at *
      have ca := Ka.cell
      simp at ca
      have sa2 := Bw2.size
      by_cases hs : up ≤ k
      · have hsi : (up : Int) ≤ (k : Int) := by omega
        have kb := Blk.new wa 125 #[.int .i64 r.n, .int .i64 r.at_, .int .i64 r.t]
        have hnew := World.news_of_block kb
        have Bb : Below wa.heap.size wa (wa.alloc (.cells #[.int .i64 r.n, .int .i64 r.at_, .int .i64 r.t] 125)) := (Below.refl _ wa).alloc (Nat.le_refl _) _
        have ownb := own_at owna (w' := wa.alloc (.cells #[.int .i64 r.n, .int .i64 r.at_, .int .i64 r.t] 125)) (fun j hj => Bb.block j (owna.lt j hj).2)
        have HE := Lib.hid (show (if up ≤ k then [r] else []) = [r] from if_pos hs)
        go_wp2_with (at_builtin; refine wpList_append_lies _ rfl _ _ 68 rfl w1.heap.size 125 i0 (.agg zWT) 3 24 Try.underlying68 hi0 hz0 hzA hz2 rfl (by decide) _ _ _ rfl ownb ⟨wa.heap.size, 0, none⟩ 1 1 [.int .i64 r.n, .int .i64 r.at_, .int .i64 r.t] rfl rfl hnew (by simp [Value.oneCell']) (by omega) (by rw [maxLen_eq]; omega) (by omega) (by simp; omega) _ rfl ?_; intro g2 cap w8 own8 hgrow hat hlt8)
        have B8 : Below w1.heap.size wa w8 := ((Below.refl w1.heap.size wa).alloc sa2 _).grown hgrow (by simp; omega) (fun j hj => (ownb.lt j hj).1)
        have BE := Bw2.trans B8
        go_roundw
        case rel => exact ⟨k + 1, zl + 1, by omega, by omega, by go_num, by rw [HSN.out, HE.out, rowT_append]; exact own8, BE⟩
        case measure => simp only [intOf]; omega
      · have hsi : ¬ (up : Int) ≤ (k : Int) := by omega
        have HE := Lib.hid (show (if up ≤ k then [r] else []) = [] from if_neg hs)
        go_wp2_with fail
        go_roundw
        case rel => exact ⟨k + 1, zl, by omega, by omega, by go_num, by rw [HSN.out, HE.out, List.append_nil]; exact owna, Bw2⟩
        case measure => simp only [intOf]; omega
    · obtain rfl : k = n := by omega
      have p1 : ¬ (k : Int) < (k : Int) := by omega
      have hall : l.take k = l := by have := HN.out; rw [← this]; exact List.take_length
      rw [hall] at own
      have K1r := K1.below Bw K1.lt
      have c1r := K1r.cell
      simp at c1r
      obtain ⟨wz, hwz⟩ : ∃ wl, wl = wr := ⟨_, rfl⟩
      subst hwz
      clear hall
      go_wp2_with fail
      go_loopw [8, 15] (fun x8 x15 wr => ∃ (i zl2 : Nat) (z : Int), i ≤ cnt ∧ zl2 ≤ k + i ∧ x15 = .int .i64 z ∧ Hid (z = lo + (i : Int)) ∧ wr.ownsRow w1.heap.size 125 3 x8 zl2 (rowT (l.drop up ++ numsW lo c d T i)) ∧ Below w1.heap.size w1 wr) (fun _ x15 _ => cnt - (intOf x15 - lo).toNat)
      case atStart => exact ⟨0, zl, lo, by omega, by omega, rfl, Lib.hid (by omega), by rw [show numsW lo c d T 0 = [] from rfl, List.append_nil]; exact own, Bw⟩
      case round =>
        clear own Bw c1r K1r sw
        obtain ⟨i, zl2, z, hi, hzl2, rfl, HZ, own, Bw⟩ := hrel
        have sw := Bw.size
        have hz1' := HZ.out
        have hz2' := HLC.out
        have K1r := K1.below Bw K1.lt
        have c1r := K1r.cell
        simp at c1r
        by_cases hlt2 : i < cnt
        · have q1 : z < N := by omega
          obtain ⟨y1, hy1'⟩ : ∃ x, (k : Int) + z = x := ⟨_, rfl⟩
          obtain ⟨y2, hy2'⟩ : ∃ x, y1 - e' = x := ⟨_, rfl⟩
          obtain ⟨y3, hy3'⟩ : ∃ x, y2 - 1 = x := ⟨_, rfl⟩
          have v1 : IntKind.i64.wrap ((k : Int) + z) = y1 := by rw [IntWalk.i64_in _ (by omega), hy1']
          have v2 : IntKind.i64.wrap (y1 - e') = y2 := by rw [IntWalk.i64_in _ (by omega), hy2']
          have v3 : IntKind.i64.wrap (y2 - 1) = y3 := by rw [IntWalk.i64_in _ (by omega), hy3']
          have v4 : (up : Int) ≤ y3 := by have := HUP.out; have := HLO.out; omega
          obtain ⟨z1, hz1⟩ : ∃ x, z + 1 = x := ⟨_, rfl⟩
          have v5 : IntKind.i64.wrap (z + 1) = z1 := by rw [IntWalk.i64_in _ (by omega), hz1]
          have HZ1 := Lib.hid (show z1 = lo + ((i + 1 : Nat) : Int) by omega)
          have HME := Lib.hid (show cnt - (z1 - lo).toNat < cnt - (z - lo).toNat by omega)
          have HSN := Lib.hid (show rowT (l.drop up ++ numsW lo c d T (i + 1)) = rowT (l.drop up ++ numsW lo c d T i) ++ [.int .i64 z, .int .i64 tc, .int .i64 0] by
            rw [numsW_succ, ← List.append_assoc, rowT_append _ [_], ← hz1', HTC.out]; rfl)
          have kb := Blk.new wr 125 #[.int .i64 z, .int .i64 tc, .int .i64 0]
          have hnew := World.news_of_block kb
          have Bb : Below wr.heap.size wr (wr.alloc (.cells #[.int .i64 z, .int .i64 tc, .int .i64 0] 125)) := (Below.refl _ wr).alloc (Nat.le_refl _) _
          have ownb := own_at own (w' := wr.alloc (.cells #[.int .i64 z, .int .i64 tc, .int .i64 0] 125)) (fun j hj => Bb.block j (own.lt j hj).2)
          clear hy1' hy2' hy3' hz1 hz1' hz2' own
          go_wp2_with (at_builtin; refine wpList_append_lies _ rfl _ _ 68 rfl w1.heap.size 125 i0 (.agg zWT) 3 24 Try.underlying68 hi0 hz0 hzA hz2 rfl (by decide) _ _ _ rfl ownb ⟨wr.heap.size, 0, none⟩ 1 1 [.int .i64 z, .int .i64 tc, .int .i64 0] rfl rfl hnew (by simp [Value.oneCell']) (by omega) (by rw [maxLen_eq]; omega) (by omega) (by simp; omega) _ rfl ?_; intro g2 cap w8 own8 hgrow hat hlt8)
          have B8 : Below w1.heap.size wr w8 := ((Below.refl w1.heap.size wr).alloc sw _).grown hgrow (by simp; omega) (fun j hj => (ownb.lt j hj).1)
          have BE := Bw.trans B8
          go_roundw
          case rel => exact ⟨i + 1, zl2 + 1, z1, by omega, by omega, rfl, HZ1, by rw [HSN.out]; exact own8, BE⟩
          case measure => simp only [intOf]; exact HME.out
        · obtain rfl : i = cnt := by omega
          obtain rfl : z = N := by omega
          have q1 : ¬ z < z := by omega
          obtain ⟨xa, xn, xc, rfl, hx⟩ : ∃ a n c, u8 = Value.slice a n c ∧ n = zl2 := by
            rcases own.2 with ⟨rfl, h0⟩ | ⟨_, _, _, rfl, _⟩
            · exact ⟨_, _, _, rfl, h0.symm⟩
            · exact ⟨_, _, _, rfl, rfl⟩
          obtain rfl := hx
          obtain ⟨lr, hlr⟩ : ∃ x, l.drop up ++ numsW lo c d T i = x := ⟨_, rfl⟩
          rw [hlr] at own
          have HLR := Lib.hid hlr
          have K2r := K2.below Bw K2.lt
          have hsz1 := B1.size
          have KA := K1r.set_ 4 (.slice xa xn xc)
          have KB := KA.set_ 6 (.int .i64 z)
          have KC := KB.set_ 7 (.int .i64 u2)
          have f1r := K1r.frozen
          have cA := KA.cell
          have fA := KA.frozen
          have cB := KB.cell
          have fB := KB.frozen
          simp at KC cA cB
          have B9 := (((below_then B1 Bw (Nat.le_refl _)).setCell (p := ⟨w.heap.size, 4, none⟩) (Nat.le_refl _) (.slice xa xn xc)).setCell (p := ⟨w.heap.size, 6, none⟩) (Nat.le_refl _) (.int .i64 z)).setCell (p := ⟨w.heap.size, 7, none⟩) (Nat.le_refl _) (.int .i64 u2)
          have far : ∀ j, j ≠ w.heap.size → (((wr.setCell ⟨w.heap.size, 4, none⟩ (.slice xa xn xc)).setCell ⟨w.heap.size, 6, none⟩ (.int .i64 z)).setCell ⟨w.heap.size, 7, none⟩ (.int .i64 u2)).heap[j]? = wr.heap[j]? := fun j hj => by
            rw [Below.heap_setCell _ ⟨w.heap.size, 7, none⟩ _ j hj, Below.heap_setCell _ ⟨w.heap.size, 6, none⟩ _ j hj, Below.heap_setCell _ ⟨w.heap.size, 4, none⟩ _ j hj]
          have HK2 := Lib.hid (show Blk (((wr.setCell ⟨w.heap.size, 4, none⟩ (.slice xa xn xc)).setCell ⟨w.heap.size, 6, none⟩ (.int .i64 z)).setCell ⟨w.heap.size, 7, none⟩ (.int .i64 u2)) (w.heap.size + 1) 70 _ from (far _ (by simp)).trans K2r)
          have HO9 := Lib.hid (own_at own (w' := ((wr.setCell ⟨w.heap.size, 4, none⟩ (.slice xa xn xc)).setCell ⟨w.heap.size, 6, none⟩ (.int .i64 z)).setCell ⟨w.heap.size, 7, none⟩ (.int .i64 u2)) (fun j hj => far j (by have := (own.lt j hj).1; omega)))
          have HK3 := Lib.hid KC
          have HB9 := Lib.hid B9
          clear KA KB KC K1r K2r own far B9 hz1' hz2' hlr
          go_upto_region 31 with fail
          generalize wr.setCell ⟨w.heap.size, 4, none⟩ (.slice xa xn xc) = wA at *
          clear c1r f1r
          go_upto_region 32 with fail
          generalize wA.setCell ⟨w.heap.size, 6, none⟩ (.int .i64 z) = wB at *
          clear cA fA
          go_upto_region 33 with fail
          have K2s := HK2.out
          have own9 := HO9.out
          have K3 := HK3.out
          have B9 := HB9.out
          generalize wB.setCell ⟨w.heap.size, 7, none⟩ (.int .i64 u2) = w9 at *
          obtain ⟨w10, e10, K10, B10, hk10⟩ := eight_set K2s (.int .i64 a) (.int .i64 b) (.int .i64 c) (.int .i64 d) (.slice xa xn xc) (.bool true) (.int .i64 z) (.int .i64 u2) w.heap.size (by omega)
          have own10 := own_at own9 (w' := w10) (fun j hj => hk10 j (by have := (own9.lt j hj).1; omega))
          have HR := Lib.hid (RowT.of_own own10)
          have c3 := K3.cell
          have c2 := K2s.cell
          have f2 := K2s.frozen
          have c10 := K10.cell
          simp at c3 c2 c10
          have BE := B9.trans B10
          clear cB fB own9 own10 HK2 HO9 HK3 HB9
          go_wp2_with fail
          refine bodyPost_ret (v := .tuple #[gval a b c d true z u2 xa xn xc, .int .i64 (up : Int)]) ?_ rfl ⟨xa, xn, xc, rfl, by rw [HLR.out]; exact HR.out, BE⟩
          simp [results, Try.results63, go_sem, c10, gval]
          try rfl
end Go.Proofs.Ytonamlgipoannaa
