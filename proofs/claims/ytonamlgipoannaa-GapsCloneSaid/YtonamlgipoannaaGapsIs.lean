/- The statements' Is of gaps. No condition but that both stand, of the same rows. -/
import Derived.Test.YtonamlgipoannaaGapsDo2
namespace Go.Proofs.Ytonamlgipoannaa
open Go.RowKit BigFrame
attribute [local go_sem ↓] Go.wp_at_zero Go.wp_at_succ

/-- When the first of a row is asked for; 0: there is none. -/
structure FirstAt (l : List WR) (m : Int) : Prop where
  none_ : l = [] → m = 0
  is_ : l ≠ [] → ∃ r ∈ l, r.at_ = m
  le : ∀ s ∈ l, m ≤ s.at_
theorem FirstAt.nil : FirstAt [] 0 := ⟨fun _ => rfl, fun h => absurd rfl h, fun s h => by cases h⟩
theorem FirstAt.one (r : WR) (l : List WR) (h : l = []) : FirstAt (l ++ [r]) r.at_ := by
  subst h
  exact FirstAt.mk (fun h => by simp at h) (fun _ => ⟨r, by simp, rfl⟩) (fun s hs => by simp at hs; subst hs; exact Int.le_refl _)
theorem FirstAt.low {l : List WR} {m : Int} (h : FirstAt l m) (r : WR) (hr : r.at_ < m) : FirstAt (l ++ [r]) r.at_ :=
  ⟨fun e => by simp at e, fun _ => ⟨r, by simp, rfl⟩, fun s hs => by
    rw [List.mem_append, List.mem_singleton] at hs
    rcases hs with hs | rfl
    · have := h.le s hs; omega
    · exact Int.le_refl _⟩
theorem FirstAt.high {l : List WR} {m : Int} (h : FirstAt l m) (r : WR) (hr : ¬ r.at_ < m) (hl : l ≠ []) : FirstAt (l ++ [r]) m :=
  ⟨fun e => by simp at e, fun _ => by obtain ⟨s, hs, e⟩ := h.is_ hl; exact ⟨s, by simp [hs], e⟩, fun s hs => by
    rw [List.mem_append, List.mem_singleton] at hs
    rcases hs with hs | rfl
    · exact h.le s hs
    · omega⟩
theorem gaps_Next (g : Nat) (a b c d : Int) (y : Bool) (e' u : Int) (l : List WR) (v : Value) (m : Int) (hm : FirstAt l m) (w : World) (h : GV w g a b c d y e' u l v) (hl : l.length ≤ 100000) :
    Calls Try.prog 28 #[.pointer (some ⟨g, 0, none⟩)] w fun e w' => e = .returned (.tuple #[.int .i64 m, .bool (decide ((l.length : Int) > 0))]) ∧ Below w.heap.size w w' := by
  cases hl0 : l with
  | nil =>
    subst hl0
    refine (gaps_NextNo g a b c d y e' u v w h).mono ?_
    rintro e w' ⟨rfl, rfl⟩
    exact ⟨by rw [hm.none_ rfl]; rfl, Below.refl _ _⟩
  | cons r0 l0 =>
    have hne : l ≠ [] := by rw [hl0]; simp
    have hp : 0 < l.length := List.length_pos_iff.2 hne
    rw [← hl0]
    refine (gaps_NextYes g a b c d y e' u l v w h hl hp).mono ?_
    rintro e w' ⟨m', rfl, ⟨r, hr, hrm⟩, hle, hb⟩
    obtain ⟨s, hs, hsm⟩ := hm.is_ hne
    have h1 := hle s hs
    have h2 := hm.le r hr
    have h3 : m' = m := by omega
    have h4 : decide ((l.length : Int) > 0) = true := by simp; omega
    exact ⟨by rw [h3, h4], hb⟩
/-- While Is's last line is drawn. -/
structure CIsG (w0 : World) (n : Nat) (l : List WR) (L : Nat → Bool) (G : Nat → Value) (W : World) : Prop where
  below : Below w0.heap.size w0 W
  row : L 1 = true → W.ownsRow w0.heap.size 3 1 (G 1) n (numC l)
structure GIsG (n : Nat) (u : Int) (q : Nat) (v : Value) : Prop where
  row : q = 1 → ∃ a k, v = .slice a n k
  same : q = 3 → v = .bool true
  given : q = 6 → v = .int .i64 u
theorem CIsG.on {w0 W W' : World} {n : Nat} {l : List WR} {L : Nat → Bool} {G : Nat → Value} (h : CIsG w0 n l L G W) (hb : Below W.heap.size W W') {z : Nat} (hz : z ≠ 1) (u : Value) : CIsG w0 n l (upd L z) (upF G z u) W' :=
  ⟨below_then h.below hb (Nat.le_refl _), fun e => by
    rw [upd_ne L (Ne.symm hz)] at e
    rw [upF_ne _ _ (Ne.symm hz)]
    exact own_at (h.row e) (fun j hj => hb.block j ((h.row e).lt j hj).2)⟩
theorem CIsG.quiet {w0 W : World} {n : Nat} {l : List WR} {L : Nat → Bool} {G : Nat → Value} (h : CIsG w0 n l L G W) {z : Nat} (hz : z ≠ 1) : CIsG w0 n l (upd L z) G W :=
  ⟨h.below, fun e => by rw [upd_ne L (Ne.symm hz)] at e; exact h.row e⟩
theorem numC_take (l : List WR) (k : Nat) (r : WR) (h : l[k]? = some r) : numC (l.take (k + 1)) = numC (l.take k) ++ [.int .i64 r.n] := by
  unfold numC; rw [List.take_add_one, h, List.map_append]; rfl
set_option maxRecDepth 8000 in
set_option maxHeartbeats 8000000 in
theorem law22_Is (g : Nat) (a b c d : Int) (y : Bool) (e' u : Int) (l : List WR) (v : Value) (sa : Option Addr) (n sc : Nat) (w : World) (h : GV w g a b c d y e' u l v) (R : RowT w sa n sc l) (hl : n ≤ 10000) :
    Calls Try.prog 34 #[.pointer (some ⟨g, 0, none⟩), gval a b c d y e' u sa n sc] w fun e w' => e = .returned (.bool true) ∧ Below w.heap.size w w' := by
  obtain ⟨i0, hi0, hz0, hz1, hz2⟩ := info_parts (show (Try.prog.info? 3).map (fun i => (i.zero, i.size, i.bytes)) = some (some (.int .i64 0), 1, 8) by kernel_rfl)
  have hn := R.len
  have HN := Lib.hid hn
  have HROW := Lib.hid R
  have hsc := R.cap
  have hsm := R.most
  clear R
  have HSQ := Lib.hid (fun (W : World) (q : GV W g a b c d y e' u l v) => gaps_Wanting g a b c d y e' u l v W q (by omega))
  have HNx := Lib.hid (fun (m : Int) (hm : FirstAt l m) (W : World) (q : GV W g a b c d y e' u l v) => gaps_Next g a b c d y e' u l v m hm W q (by omega))
  have HGi := Lib.hid (fun (W : World) (q : GV W g a b c d y e' u l v) => gaps_Given g a b c d y e' u l v W q)
  rw [hn] at HSQ HNx
  clear hn
  have K1 := Blk.new w 70 #[.int .i64 a, .int .i64 b, .int .i64 c, .int .i64 d, .slice sa n sc, .bool y, .int .i64 e', .int .i64 u]
  have B1 : Below w.heap.size w (w.alloc (.cells #[.int .i64 a, .int .i64 b, .int .i64 c, .int .i64 d, .slice sa n sc, .bool y, .int .i64 e', .int .i64 u] 70)) := (Below.refl _ w).alloc (Nat.le_refl _) _
  unfold gval
  go_enter Try.func34, Try.ntmps34
  go_upto_region 1 with fail
  generalize w.alloc (.cells #[.int .i64 a, .int .i64 b, .int .i64 c, .int .i64 d, .slice sa n sc, .bool y, .int .i64 e', .int .i64 u] 70) = w1 at *
  have c1 := K1.cell
  simp at c1
  have s1 := B1.size
  have hlt1 := K1.lt
  go_wp2_with fail
  go_loopw [5, 6, 14] (fun x5 x6 x14 wr => ∃ (k : Nat) (m : Int), k ≤ n ∧ x14 = .int .i64 k ∧ x6 = .int .i64 m ∧ FirstAt (l.take k) m ∧ wr.ownsRow w1.heap.size 3 1 x5 k (numC (l.take k)) ∧ Below w1.heap.size w1 wr) (fun _ _ x14 _ => n - (intOf x14).toNat)
  case atStart => exact ⟨0, 0, by omega, rfl, rfl, FirstAt.nil, ⟨rfl, .inl ⟨rfl, rfl⟩⟩, Below.refl _ _⟩
  case round =>
    obtain ⟨k, m, hk, rfl, rfl, hF, own, Bw⟩ := hrel
    have HF := Lib.hid hF
    clear hF
    have Bx := below_then B1 Bw (Nat.le_refl _)
    by_cases hlt : k < n
    · obtain ⟨g', off, rfl, hg, hcell⟩ := (HROW.out).rec_ (by omega)
      have hql : k < l.length := by have := HN.out; omega
      obtain ⟨r, hrr⟩ : ∃ r, l[k]? = some r := ⟨_, List.getElem?_eq_getElem hql⟩
      obtain ⟨e0, e1, e2⟩ := hcell k r hrr
      have d0 := (Bx.cell (p := ⟨g', off + k * 3, none⟩) hg).trans e0
      have d1 := (Bx.cell (p := ⟨g', off + k * 3 + 1, none⟩) hg).trans e1
      have d2 := (Bx.cell (p := ⟨g', off + k * 3 + 2, none⟩) hg).trans e2
      have HS := Lib.hid (numC_take l k r hrr)
      have HT := Lib.hid (show l.take (k + 1) = l.take k ++ [r] by rw [List.take_add_one, hrr]; rfl)
      have p0 : (0 : Int) ≤ (k : Int) := by omega
      have p1 : (k : Int) < (n : Int) := by omega
      have wk : IntKind.i64.wrap ((k : Int) + 1) = ((k + 1 : Nat) : Int) := by rw [IntWalk.i64_in _ (by omega)]; omega
      obtain ⟨rn, hrn⟩ : ∃ x, r.n = x := ⟨_, rfl⟩
      obtain ⟨ra, hra⟩ : ∃ x, r.at_ = x := ⟨_, rfl⟩
      obtain ⟨rt, hrt⟩ : ∃ x, r.t = x := ⟨_, rfl⟩
      have HRA := Lib.hid hra
      rw [hrn] at d0 HS
      rw [hra] at d1
      rw [hrt] at d2
      have Ka := Blk.new wr 125 #[.int .i64 rn, .int .i64 ra, .int .i64 rt]
      have Ba : Below wr.heap.size wr (wr.alloc (.cells #[.int .i64 rn, .int .i64 ra, .int .i64 rt] 125)) := (Below.refl _ wr).alloc (Nat.le_refl _) _
      have own' := own_at own (w' := wr.alloc (.cells #[.int .i64 rn, .int .i64 ra, .int .i64 rt] 125)) (fun j hj => Ba.block j (own.lt j hj).2)
      have BW := below_then Bw Ba (Nat.le_refl _)
      have hbs := BW.size
      have hlen : (l.take k).length = k := by rw [List.length_take]; omega
      have HL := Lib.hid hlen
      clear e0 e1 e2 hrr hcell hql own hrn hra hrt hlen
      go_upto_region 6 with fail
      clear d0 d1 d2
      generalize wr.alloc (.cells #[.int .i64 rn, .int .i64 ra, .int .i64 rt] 125) = wa at *
      have ca := Ka.cell
      simp at ca
      have hltA := Ka.lt
      go_upto_region 7 with (at_builtin; refine wpList_append_lies _ rfl _ _ 38 rfl w1.heap.size 3 i0 (.int .i64 0) 1 8 Try.underlying38 hi0 hz0 hz1 hz2 rfl (by decide) _ _ _ rfl (own'.alloc _) ⟨wa.heap.size, 0, none⟩ 1 1 [.int .i64 rn] rfl rfl (cell_one_new _ _ _) (by simp [Value.oneCell']) (by omega) (by rw [maxLen_eq]; omega) (by omega) (by simp; omega) _ rfl ?_; intro g2 cap w6 own6 hgrow hat hlt6)
      have hB6 : Below w1.heap.size w1 w6 := (BW.alloc hbs _).grown hgrow (by simp; omega) (fun j hj => (own'.lt j hj).1)
      have Bab : Below wa.heap.size wa (wa.alloc (.cells #[.int .i64 rn] 3)) := (Below.refl _ wa).alloc (Nat.le_refl _) _
      have kab := Ka.below Bab Ka.lt
      have owb := own_at own' (w' := wa.alloc (.cells #[.int .i64 rn] 3)) (fun j hj => Bab.block j (own'.lt j hj).2)
      have k6 : Blk w6 wr.heap.size 125 _ := (hgrow.block _ kab.lt (own_ne_blk owb kab (by decide)).symm).trans kab
      have c6 := k6.cell
      simp at c6
      have own7 : w6.ownsRow w1.heap.size 3 1 (.slice (some ⟨g2, 0, none⟩) (k + 1) cap) (k + 1) (numC (l.take (k + 1))) := by rw [HS.out]; exact own6
      have HO := Lib.hid own7
      clear own6 own7 own' owb ca Ka Ba kab Bab hgrow hat BW Bw
      by_cases hk0 : k = 0
      · have j0 : ((k : Int) == 0) = true := by subst hk0; rfl
        have HE := Lib.hid (show l.take k = [] from by subst hk0; rfl)
        clear hk0
        go_wp2_with fail
        go_roundw
        case rel => exact ⟨k + 1, ra, by omega, by go_num, rfl, by rw [HT.out, ← HRA.out]; exact FirstAt.one r _ HE.out, HO.out, hB6⟩
        case measure => simp only [intOf]; omega
      · have j0 : ((k : Int) == 0) = false := by simp; omega
        have HE := Lib.hid (show l.take k ≠ [] from fun e => by have h1 := HL.out; rw [e] at h1; simp at h1; omega)
        clear hk0
        by_cases hlow : ra < m
        · go_wp2_with fail
          go_roundw
          case rel => exact ⟨k + 1, ra, by omega, by go_num, rfl, by rw [HT.out, ← HRA.out]; exact HF.out.low r (by have := HRA.out; omega), HO.out, hB6⟩
          case measure => simp only [intOf]; omega
        · go_wp2_with fail
          go_roundw
          case rel => exact ⟨k + 1, m, by omega, by go_num, rfl, by rw [HT.out]; exact HF.out.high r (by have := HRA.out; omega) HE.out, HO.out, hB6⟩
          case measure => simp only [intOf]; omega
    · obtain rfl : k = n := by omega
      have p1 : ¬ (k : Int) < (k : Int) := by omega
      have hall : l.take k = l := by have := HN.out; rw [← this]; exact List.take_length
      have hF2 := HF.out
      rw [hall] at own hF2
      obtain ⟨bb, hbb⟩ : ∃ bb, decide ((k : Int) > 0) = bb := ⟨_, rfl⟩
      have HNm := Lib.hid (HNx.out m hF2)
      rw [hbb] at HNm
      obtain ⟨f, hf⟩ : ∃ f : Nat → Int, (fun i => (l.map WR.n).getD i 0) = f := ⟨_, rfl⟩
      have HG := Lib.hid (show ∀ i, i < k → (numC l)[i]? = some (.int .i64 (f i)) from fun i hi => by rw [← hf]; exact numC_get l i (by have := HN.out; omega))
      obtain ⟨ba, bc, rfl, SB⟩ := SliceOf.of_own own (fun i => .int .i64 (f i)) (fun i hi => HG.out i hi)
      have hr := h.below Bx
      have K1r := K1.below Bw K1.lt
      have SBL := Lib.hid SB
      have HB := Lib.hid hbb
      clear hf hall own p1 c1 SB hF2 hbb HF
      go_upto_region 10 with fail
      go_wp2_with fail
      refine (HNm.out wr hr).mono ?_
      rintro e w2 ⟨rfl, B2⟩
      go_upto_region 11 with fail
      have hr2 := hr.below B2
      have B12 := below_then Bx B2 (Nat.le_refl _)
      have K12 := K1r.below B2 K1r.lt
      have SB2 := Lib.hid (SBL.out.below B2)
      have hbb2 : decide (0 < (k : Int)) = bb := HB.out
      have hbb3 : decide (0 < k) = bb := by rw [← HB.out]; simp
      have jb2 : (bb == decide (0 < k)) = true := by rw [hbb3]; simp
      clear B2 K1r hr Bx SBL HNm HB
      have E7 := fun (gx : UWF (CIsG w2 k l)) => (gx.holds.below.cell (p := ⟨w.heap.size, 7, none⟩) K12.lt).trans (K12.cell 7)
      simp at E7
      have jb : (bb == bb) = true := by simp
      have jm : (m == m) = true := by simp
      have hne : Nonempty (UWF (CIsG w2 k l)) := ⟨⟨fun _ => false, fun _ => undef, w2.drew, ⟨(Below.refl _ _).drew, (fun e => by cases e)⟩⟩⟩
      refine wp_region_free [(0, 1, some 1), (2, 1, some 3), (4, 2, some 6), (7, 17, none)] (CIsG w2 k l) (GIsG k u) (fun q => if q = 1 then .slice none k 0 else if q = 3 then .bool true else .int .i64 u) (by kernel_rfl) (by kernel_rfl) ?_ ?_ ?_ ?_
      · intro z hz LL G W hC
        simp [moversI] at hz
        exact hC.quiet (by omega)
      · exact ⟨(Below.refl _ _).drew, (fun e => by cases e)⟩
      · intro z
        exact ⟨fun e => by subst e; exact ⟨_, _, rfl⟩, fun e => by subst e; rfl, fun e => by subst e; rfl⟩
      · intro G hG
        obtain ⟨ra, rk, g1⟩ := (hG 1).row rfl
        have g3 := (hG 3).same rfl
        have g6 := (hG 6).given rfl
        simp only [walkF, List.drop_zero, List.drop_succ_cons, List.take_succ_cons, List.take_zero, List.toList_toArray]; (repeat (go_big_quiet_step (fail))); refine wpQuiet_nil ?_
        refine ⟨_, _, _, _, _, _, rfl, .inl ⟨rfl, ?_, ?_⟩⟩
        · intro LL W hL hA hC
          refine ⟨?_⟩; go_simp; simp only [movesToUpon]
          refine (HSQ.out W (hr2.below hC.below)).mono ?_
          rintro e w' ⟨v', rfl, own', hb'⟩
          obtain ⟨va, vc, rfl, -⟩ := SliceOf.of_own own' (fun i => .int .i64 (f i)) (fun i hi => HG.out i hi)
          refine ⟨_, rfl, ⟨fun _ => ⟨_, _, rfl⟩, (fun e => by cases e), (fun e => by cases e)⟩, below_then hC.below hb' (Nat.le_refl _), fun _ => ?_⟩
          rw [upF_same]
          exact own_low own' hC.below.size
        · intro K' hK'; dsimp only at hK'; rw [g1]; go_big_quiet_op; go_big_quiet_on; (repeat (go_big_quiet_step (fail))); refine wpQuiet_nil ?_
          refine ⟨_, _, _, _, _, _, rfl, .inl ⟨rfl, ?_, ?_⟩⟩
          · intro LL W hL hA hC
            have ro := hC.row (hA 1 (by kernel_rfl))
            rw [g1] at ro
            obtain ⟨va, vc, e, SA⟩ := SliceOf.of_own ro (fun i => .int .i64 (f i)) (fun i hi => HG.out i hi)
            injection e with e1 e2 e3
            subst e1 e3
            refine ⟨?_⟩; go_simp; simp only [movesToUpon]
            refine (law01_SameYes _ _ k _ bc f W SA (SB2.out.below hC.below) (by omega)).mono ?_
            rintro e w' ⟨rfl, hb'⟩
            exact ⟨_, rfl, ⟨(fun e => by cases e), fun _ => rfl, (fun e => by cases e)⟩, hC.on hb' (by decide) _⟩
          · intro K' hK'; dsimp only at hK'; rw [g3]; go_big_quiet_op; go_big_quiet_on; (repeat (go_big_quiet_step (fail))); refine wpQuiet_nil ?_
            refine ⟨_, _, _, _, _, _, rfl, .inl ⟨rfl, ?_, ?_⟩⟩
            · intro LL W hL hA hC
              refine ⟨?_⟩; go_simp; simp only [movesToUpon]
              refine (HGi.out W (hr2.below hC.below)).mono ?_
              rintro e w' ⟨rfl, rfl⟩
              exact ⟨_, rfl, ⟨(fun e => by cases e), (fun e => by cases e), fun _ => rfl⟩, hC.on (Below.refl _ _) (by decide) _⟩
            · intro K' hK'; dsimp only at hK'; rw [g6]; go_big_quiet_op; go_big_quiet_on; (repeat (go_big_quiet_step (fail))); refine wpQuiet_nil ?_
              intro LL w9 hL hC
              have BE := below_then B12 hC.below (Nat.le_refl _)
              clear hC hL hG g1 g3 g6 E7 hne
              go_wp2_with fail
              go_ret
              exact ⟨rfl, BE⟩
end Go.Proofs.Ytonamlgipoannaa
