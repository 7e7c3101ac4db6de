/- Package gaps: Came, whatever comes; the statements' awake. No condition but that the gaps stand. -/
import Derived.Test.YtonamlgipoannaaGapsP
import Derived.Test.YtonamlgipoannaaHistIs
namespace Go.Proofs.Ytonamlgipoannaa
open Go.RowKit BigFrame
attribute [local go_sem ↓] Go.wp_at_zero Go.wp_at_succ

theorem gaps_Came (g : Nat) (a b c d : Int) (y : Bool) (e' u : Int) (l : List WR) (v : Value) (n now N T : Int) (hN : clipI n (-1099511627776) 1099511627776 = N) (hT : clipI now 0 1099511627776 = T) (w : World) (h : GV w g a b c d y e' u l v) (G : Good a b c d y e' l) :
    Calls Try.prog 26 #[.pointer (some ⟨g, 0, none⟩), .int .i64 n, .int .i64 now] w fun e w' => e = .returned (.int .i64 (camR a y e' l.length N)) ∧ ∃ v', GV w' g a b c d true (camE y e' N) (camU a y e' u l.length N) (camL a c d y e' l N T) v' ∧ Moved w w' g v v' := by
  cases y with
  | false =>
    refine (gaps_CameA g a b c d e' u l v n now N T hN hT w h).mono ?_
    rintro e w' ⟨rfl, h', K⟩
    exact ⟨rfl, v, h', K.moved⟩
  | true =>
    by_cases hle : N ≤ e'
    · refine (gaps_CameB g a b c d e' u l v n now N T hN hT w h G.rise (by have := G.small; omega) hle).mono ?_
      rintro e w' ⟨rfl, v', h', M⟩
      unfold camR camE camU camL
      simp only [if_true, if_pos hle]
      exact ⟨trivial, v', h', M⟩
    · have hn := cam_nums (a := a) (e := e') (n0 := l.length) (N := N) G.len (by omega) (by have := G.a1; omega)
      refine (gaps_CameC g a b c d e' u l v n now N T hN hT w h G.len G.a2 (by omega) G.e0 G.c0 G.c1 (cameUp a e' l.length N) (cameSk a e' l.length N) (cameLo a e' l.length N) (cameCnt a e' l.length N) (cameK a e' l.length N) rfl rfl rfl hn.1 hn.2.1 _ _ rfl rfl).mono ?_
      rintro e w' ⟨rfl, v', h', M⟩
      unfold camR camE camU camL
      simp only [if_true, if_neg hle]
      exact ⟨trivial, v', h', M⟩
/-- A row of a call's own, as a slice. -/
theorem own_slice {w : World} {B E n : Nat} {v : Value} {xs : List Value} (h : w.ownsRow B E 1 v n xs) : ∃ a c, v = .slice a n c ∧ n = xs.length := by
  have h1 := h.1
  rcases h.2 with ⟨rfl, h0⟩ | ⟨g, cap, cur, rfl, _⟩
  · exact ⟨none, 0, by rw [h0], by omega⟩
  · exact ⟨_, cap, rfl, by omega⟩
theorem numC_get (l : List WR) (i : Nat) (h : i < l.length) : (numC l)[i]? = some (.int .i64 ((l.map WR.n).getD i 0)) := by
  unfold numC
  rw [List.getElem?_map, List.getElem?_eq_getElem h]
  simp [List.getD, h]
theorem GV.row_keep {w w' : World} {g : Nat} {a b c d : Int} {y : Bool} {e u : Int} {l : List WR} {v : Value} (h : GV w g a b c d y e u l v) (hb : Below w.heap.size w w') : ∀ j, v.ownBlock = some j → w'.heap[j]? = w.heap[j]? := fun j hj => hb.block j (h.own.lt j hj).2
set_option maxRecDepth 8000 in
set_option maxHeartbeats 8000000 in
theorem law22_awake (w : World) :
    Calls Try.prog 23 #[] w fun e w' => e = .returned (.bool true) ∧ Below w.heap.size w w' := by
  go_enter Try.func23, Try.ntmps23
  go_wp2_with fail
  refine (gaps_New 5 2 3 4 5 2 3 4 (by decide) (by decide) (by decide) (by decide) w).mono ?_
  rintro e w1 ⟨g, rfl, h1, hg, B1⟩
  have G1 : Good 5 2 3 4 false 0 [] := Good.start (a := 5) (b := 2) (c := 3) (d := 4) (by decide) (by decide) (by decide) (by decide)
  have s1 := B1.size
  have gl := h1.blk.lt
  go_wp2_with fail
  refine (gaps_Came g 5 2 3 4 false 0 0 [] _ 1 0 1 0 (by decide) (by decide) w1 h1 G1).mono ?_
  rintro e w2 ⟨rfl, v2, h2, M2⟩
  have B2 : Below w.heap.size w1 w2 := M2.down s1 hg (fun k e => by cases e)
  have hv2 : ∀ k, v2.ownBlock = some k → w.heap.size ≤ k := M2.base s1 (fun k e => by cases e)
  have G2 : Good 5 2 3 4 true 1 [] := G1.came (n := 1) (N := 1) (T := 0) (by decide)
  have h2' : GV w2 g 5 2 3 4 true 1 0 [] v2 := h2
  have s2 := B2.size
  clear h2 M2 h1 G1
  go_wp2_with fail
  refine (gaps_Came g 5 2 3 4 true 1 0 [] v2 4 1 4 1 (by decide) (by decide) w2 h2' G2).mono ?_
  rintro e w3 ⟨rfl, v3, h3, M3⟩
  have B3 : Below w.heap.size w2 w3 := M3.down (by omega) hg hv2
  have hv3 : ∀ k, v3.ownBlock = some k → w.heap.size ≤ k := M3.base (by omega) hv2
  have G3 : Good 5 2 3 4 true 4 [⟨2, 4, 0, 4⟩, ⟨3, 4, 0, 4⟩] := G2.came (n := 4) (N := 4) (T := 1) (by decide)
  obtain ⟨u3, hu3⟩ : ∃ x, camU 5 true 1 0 0 4 = x := ⟨_, rfl⟩
  have h3' : GV w3 g 5 2 3 4 true 4 u3 [⟨2, 4, 0, 4⟩, ⟨3, 4, 0, 4⟩] v3 := by rw [← hu3]; exact h3
  have hr3 : camR 5 true 1 ([] : List WR).length 4 = 0 := rfl
  have s3 := B3.size
  rw [hr3]
  clear h3 M3 h2' G2 hu3 hr3
  have HNX := Lib.hid (gaps_NextYes g 5 2 3 4 true 4 u3 _ v3 w3 h3' (by decide) (by decide))
  go_wp2_with fail
  refine HNX.out.mono ?_
  rintro e w4 ⟨m, rfl, ⟨r, hr, hrm⟩, hm, B4⟩
  have hm4 : m = 4 := by
    simp at hr
    rcases hr with rfl | rfl
    · exact hrm.symm
    · exact hrm.symm
  subst hm4
  have h4 := h3'.below B4
  have s4 := B4.size
  have B4' : Below w.heap.size w3 w4 := B4.mono (by omega)
  clear hr hrm hm h3'
  have HWA := Lib.hid (gaps_Wanting g 5 2 3 4 true 4 u3 _ v3 w4 h4 (by decide))
  go_wp2_with fail
  refine HWA.out.mono ?_
  rintro e w5 ⟨v5, rfl, own5, B5⟩
  have h5 := h4.below B5
  have s5 := B5.size
  have B5' : Below w.heap.size w4 w5 := B5.mono (by omega)
  obtain ⟨sa, sc, rfl, -⟩ := own_slice own5
  have K6 := Blk.new w5 3 #[.int .i64 2, .int .i64 3]
  have B6 : Below w5.heap.size w5 (w5.alloc (.cells #[.int .i64 2, .int .i64 3] 3)) := (Below.refl _ w5).alloc (Nat.le_refl _) _
  have SA : SliceOf w5 sa 2 sc 1 (fun i => [.int .i64 (([2, 3] : List Int).getD i 0)]) := by
    obtain ⟨a', c', e, S⟩ := SliceOf.of_own own5 (fun i => .int .i64 (([2, 3] : List Int).getD i 0)) (fun i hi => numC_get [⟨2, 4, 0, 4⟩, ⟨3, 4, 0, 4⟩] i hi)
    injection e with e1 e2 e3
    subst e1 e3
    exact S
  have SA6 := SA.below B6
  have SB6 : SliceOf (w5.alloc (.cells #[.int .i64 2, .int .i64 3] 3)) (some ⟨w5.heap.size, 0, none⟩) 2 2 1 (fun i => [.int .i64 (([2, 3] : List Int).getD i 0)]) := by
    refine ⟨Nat.le_refl _, by rw [maxLen_eq]; omega, fun _ => ⟨w5.heap.size, 0, rfl, K6.lt, fun i hi j u hu => ?_⟩⟩
    match i, hi with
    | 0, _ => match j, hu with
      | 0, hu => simp at hu; subst hu; simp
    | 1, _ => match j, hu with
      | 0, hu => simp at hu; subst hu; simp
  have HSM := Lib.hid (law01_SameYes sa (some ⟨w5.heap.size, 0, none⟩) 2 sc 2 _ _ SA6 SB6 (by decide))
  have h6 := h5.below B6
  have B6' : Below w.heap.size w5 (w5.alloc (.cells #[.int .i64 2, .int .i64 3] 3)) := B6.mono (by omega)
  clear SA SA6 SB6 own5 h4 h5
  go_wp2_with fail
  refine HSM.out.mono ?_
  rintro e w7 ⟨rfl, B7⟩
  have h7 := h6.below B7
  have s6 := B6'.size
  have B7' : Below w.heap.size (w5.alloc (.cells #[.int .i64 2, .int .i64 3] 3)) w7 := B7.mono (by omega)
  have B17 := B1.trans (B2.trans (B3.trans (B4'.trans (B5'.trans (B6'.trans B7')))))
  have s7 := B17.size
  have HD1 := Lib.hid (gaps_Due g 5 2 3 4 true 4 u3 _ v3 3 3 (by decide) w7 h7 (by decide) (by decide) G3.ok)
  clear h6 h7 B7 B6 K6
  go_wp2_with fail
  refine HD1.out.mono ?_
  rintro e w8 ⟨vo, rfl, ⟨zo, own8⟩, v8, h8, hv8, K8⟩
  obtain ⟨oa, oc, rfl, hz⟩ := own_slice own8
  obtain rfl : zo = 0 := by rw [hz]; rfl
  have h8' : GV w8 g 5 2 3 4 true 4 (dueU 2 3 u3 [⟨2, 4, 0, 4⟩, ⟨3, 4, 0, 4⟩]) [⟨2, 4, 0, 4⟩, ⟨3, 4, 0, 4⟩] v8 := h8
  have B8 : Below w.heap.size w7 w8 := K8.down (by omega) hg
  have s8 := B8.size
  have HD2 := Lib.hid (gaps_Due g 5 2 3 4 true 4 _ _ v8 4 4 (by decide) w8 h8' (by decide) (by decide) G3.ok)
  clear h8 h8' own8 hz
  go_wp2_with fail
  refine HD2.out.mono ?_
  rintro e w9 ⟨vo, rfl, ⟨zo, own9⟩, v9, h9, hv9, K9⟩
  obtain ⟨oa, oc, rfl, hz⟩ := own_slice own9
  obtain rfl : zo = 2 := by rw [hz]; rfl
  have B9 : Below w.heap.size w8 w9 := K9.down (by omega) hg
  clear h9 own9 hz
  go_wp2_with fail
  go_ret
  exact ⟨rfl, B17.trans (B8.trans B9)⟩
end Go.Proofs.Ytonamlgipoannaa
