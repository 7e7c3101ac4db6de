/- The statements' Cut, Same and Is of histories. No condition but that both stand, of the same records. -/
import Derived.Test.YtonamlgipoannaaHistR4
namespace Go.Proofs.Ytonamlgipoannaa
open Go.RowKit BigFrame
attribute [local go_sem ↓] Go.wp_at_zero Go.wp_at_succ

def cutB (s : ByteArray) (n : Nat) : ByteArray := if n < s.size then s.extract 0 n else s
theorem cutB_size (s : ByteArray) (n : Nat) : (cutB s n).size ≤ n ∧ (cutB s n).size ≤ s.size := by
  unfold cutB
  split
  · simp; omega
  · omega
set_option maxHeartbeats 400000 in
theorem law02_Cut (s c : ByteArray) (n : Nat) (hs : s.size ≤ maxLen) (hn : n ≤ 100000) (h : cutB s n = c) (w : World) :
    Calls Try.prog 14 #[.string s, .int .i64 (n : Int)] w fun e w' => e = .returned (.string c) ∧ w = w' := by
  subst h
  rw [maxLen_eq] at hs
  by_cases hlt : n < s.size
  · have hc : cutB s n = s.extract 0 n := if_pos hlt
    have HC := Lib.hid hc
    clear hc
    go_enter Try.func14, Try.ntmps14
    go_wp2
    go_ret
    exact ⟨by rw [HC.out]; rfl, rfl⟩
  · have hc : cutB s n = s := if_neg hlt
    have HC := Lib.hid hc
    clear hc
    go_enter Try.func14, Try.ntmps14
    go_wp2
    go_ret
    exact ⟨by rw [HC.out]; rfl, rfl⟩

set_option maxHeartbeats 2000000 in
theorem law01_SameYes (a b : Option Addr) (n ca cb : Nat) (f : Nat → Int) (w : World) (SA : SliceOf w a n ca 1 (fun i => [.int .i64 (f i)])) (SB : SliceOf w b n cb 1 (fun i => [.int .i64 (f i)])) (hn : n ≤ 100000) :
    Calls Try.prog 48 #[.slice a n ca, .slice b n cb] w fun e w' => e = .returned (.bool true) ∧ Below w.heap.size w w' := by
  have j0 : ((n : Int) != (n : Int)) = false := by simp
  go_enter Try.func48, Try.ntmps48
  go_wp2_with fail
  go_loopw [13] (fun x13 wr => ∃ k : Nat, k ≤ n ∧ x13 = .int .i64 k ∧ Below w.heap.size w wr) (fun x13 _ => n - (intOf x13).toNat)
  case atStart => exact ⟨0, by omega, rfl, Below.refl _ _⟩
  case round =>
    obtain ⟨k, hk, rfl, B⟩ := hrel
    by_cases hlt : k < n
    · obtain ⟨b1, o1, rfl, l1, hc1⟩ := SA.at1 (by omega)
      obtain ⟨b2, o2, rfl, l2, hc2⟩ := SB.at1 (by omega)
      have p0 : (0 : Int) ≤ (k : Int) := by omega
      have p1 : (k : Int) < (n : Int) := by omega
      have wk : IntKind.i64.wrap ((k : Int) + 1) = ((k + 1 : Nat) : Int) := by rw [IntWalk.i64_in _ (by omega)]; omega
      have d1 := fun (gx : Ext wr) => gx.cell ((B.cell (p := ⟨b1, o1 + k, none⟩) l1).trans (hc1 k hlt)) (Nat.lt_of_lt_of_le l1 B.size)
      have d2 := fun (gx : Ext wr) => gx.cell ((B.cell (p := ⟨b2, o2 + k, none⟩) l2).trans (hc2 k hlt)) (Nat.lt_of_lt_of_le l2 B.size)
      obtain ⟨x, hx⟩ : ∃ x, f k = x := ⟨_, rfl⟩
      rw [hx] at d1 d2
      have j1 : (x != x) = false := by simp
      clear hc1 hc2 hx
      go_upto_region 6 with fail
      refine wp_region_ext (by kernel_rfl) (by kernel_rfl) ?_; (repeat (go_big_quiet_step (fail))); refine wpQuiet_nil ?_; rintro _ ⟨gq, rfl⟩
      clear d1 d2
      have B2 := below_then B gq.below (Nat.le_refl _)
      generalize gq.world = w2 at B2 ⊢
      go_wp2_with fail
      go_roundw
      case rel => exact ⟨k + 1, by omega, by go_num, B2⟩
      case measure => simp only [intOf]; omega
    · obtain rfl : k = n := by omega
      have j1 : ¬ (k : Int) < (k : Int) := by omega
      go_wp2_with fail
      go_ret
      exact ⟨rfl, B⟩
theorem seqC_get (l : List HR) (n : Nat) (hn : l.length = n) (i : Nat) (hi : i < n) : (seqC l)[i]? = some (.int .i64 ((l.map HR.seq).getD i 0)) := by
  subst hn
  unfold seqC
  rw [List.getElem?_map, List.getElem?_eq_getElem hi, List.getD_eq_getElem?_getD, List.getElem?_map, List.getElem?_eq_getElem hi]
  rfl
theorem upd_at (L : Nat → Bool) (q : Nat) : upd L q q = true := by simp [upd]
theorem upd_ne (L : Nat → Bool) {q j : Nat} (h : j ≠ q) : upd L q j = L j := by simp [upd, h]
/-- While Is's last line is drawn. -/
structure CIs (w0 : World) (n : Nat) (l : List HR) (L : Nat → Bool) (G : Nat → Value) (W : World) : Prop where
  below : Below w0.heap.size w0 W
  row : L 8 = true → W.ownsRow w0.heap.size 3 1 (G 8) n (seqC l)
structure GIs (n : Nat) (c : Int) (q : Nat) (v : Value) : Prop where
  len : q = 1 → v = .int .i64 n
  row : q = 8 → ∃ a k, v = .slice a n k
  same : q = 10 → v = .bool true
  again : q = 14 → v = .int .i64 c
theorem CIs.on {w0 W W' : World} {n : Nat} {l : List HR} {L : Nat → Bool} {G : Nat → Value} (h : CIs w0 n l L G W) (hb : Below W.heap.size W W') {z : Nat} (hz : z ≠ 8) (u : Value) : CIs w0 n l (upd L z) (upF G z u) W' :=
  ⟨below_then h.below hb (Nat.le_refl _), fun e => by
    rw [upd_ne L (Ne.symm hz)] at e
    rw [upF_ne _ _ (Ne.symm hz)]
    exact own_at (h.row e) (fun j hj => hb.block j ((h.row e).lt j hj).2)⟩
theorem CIs.quiet {w0 W : World} {n : Nat} {l : List HR} {L : Nat → Bool} {G : Nat → Value} (h : CIs w0 n l L G W) {z : Nat} (hz : z ≠ 8) : CIs w0 n l (upd L z) G W :=
  ⟨h.below, fun e => by rw [upd_ne L (Ne.symm hz)] at e; exact h.row e⟩
set_option maxRecDepth 8000 in
set_option maxHeartbeats 8000000 in
theorem law21_Is (g : Nat) (x : Value) (a b c : Int) (l : List HR) (v : Value) (sa : Option Addr) (sc : Nat) (w : World) (h : HV w g a b c l v) (R : RR w x a b c l sa sc) (hl : l.length ≤ 10000) :
    Calls Try.prog 20 #[.pointer (some ⟨g, 0, none⟩), x] w fun e w' => e = .returned (.bool true) ∧ Below w.heap.size w w' := by
  obtain ⟨i0, hi0, hz0, hz1, hz2⟩ := info_parts (show (Try.prog.info? 3).map (fun i => (i.zero, i.size, i.bytes)) = some (some (.int .i64 0), 1, 8) by kernel_rfl)
  obtain ⟨rfl, row⟩ := R
  obtain ⟨n, hn⟩ : ∃ n, l.length = n := ⟨_, rfl⟩
  rw [hn] at row hl ⊢
  have HN := Lib.hid hn
  have HROW := Lib.hid row
  have hsc := row.cap
  have hsm := row.most
  clear row
  have HSQ := Lib.hid (fun (W : World) (q : HV W g a b c l v) => hist_Seqs g a b c l v W q (by omega))
  have HLn := Lib.hid (fun (W : World) (q : HV W g a b c l v) => hist_Len g a b c l v W q)
  have HAg := Lib.hid (fun (W : World) (q : HV W g a b c l v) => hist_Again2 g a b c l v W q)
  rw [hn] at HSQ HLn
  clear hn
  have K1 := Blk.new w 43 #[.int .i64 a, .int .i64 b, .int .i64 c, .slice sa n sc]
  have B1 : Below w.heap.size w (w.alloc (.cells #[.int .i64 a, .int .i64 b, .int .i64 c, .slice sa n sc] 43)) := (Below.refl _ w).alloc (Nat.le_refl _) _
  go_enter Try.func20, Try.ntmps20
  go_upto_region 1 with fail
  generalize w.alloc (.cells #[.int .i64 a, .int .i64 b, .int .i64 c, .slice sa n sc] 43) = w1 at *
  have c1 := K1.cell
  simp at c1
  have s1 := B1.size
  have hlt1 := K1.lt
  go_wp2_with fail
  go_loopw [5, 11] (fun x5 x11 wr => ∃ k : Nat, k ≤ n ∧ x11 = .int .i64 k ∧ wr.ownsRow w1.heap.size 3 1 x5 k (seqC (l.take k)) ∧ Below w1.heap.size w1 wr) (fun _ x11 _ => n - (intOf x11).toNat)
  case atStart => exact ⟨0, by omega, rfl, ⟨rfl, .inl ⟨rfl, rfl⟩⟩, Below.refl _ _⟩
  case round =>
    obtain ⟨k, hk, rfl, own, Bw⟩ := hrel
    have Bx := below_then B1 Bw (Nat.le_refl _)
    by_cases hlt : k < n
    · obtain ⟨g', off, rfl, hg, hcell⟩ := (HROW.out).rec_ (by omega)
      have hql : k < l.length := by have := HN.out; omega
      obtain ⟨r, hrr⟩ : ∃ r, l[k]? = some r := ⟨_, List.getElem?_eq_getElem hql⟩
      obtain ⟨e0, e1, e2, e3⟩ := hcell k r hrr
      have d0 := (Bx.cell (p := ⟨g', off + k * 4, none⟩) hg).trans e0
      have d1 := (Bx.cell (p := ⟨g', off + k * 4 + 1, none⟩) hg).trans e1
      have d2 := (Bx.cell (p := ⟨g', off + k * 4 + 2, none⟩) hg).trans e2
      have d3 := (Bx.cell (p := ⟨g', off + k * 4 + 3, none⟩) hg).trans e3
      have HS := Lib.hid (show seqC (l.take (k + 1)) = seqC (l.take k) ++ [.int .i64 r.seq] by
        unfold seqC; rw [List.take_add_one, hrr, List.map_append]; rfl)
      have p0 : (0 : Int) ≤ (k : Int) := by omega
      have p1 : (k : Int) < (n : Int) := by omega
      have wk : IntKind.i64.wrap ((k : Int) + 1) = ((k + 1 : Nat) : Int) := by rw [IntWalk.i64_in _ (by omega)]; omega
      have Ka := Blk.new wr 99 #[.int .i64 r.seq, .int .i64 r.tries, .int .i64 r.path, .string r.data]
      have Ba : Below wr.heap.size wr (wr.alloc (.cells #[.int .i64 r.seq, .int .i64 r.tries, .int .i64 r.path, .string r.data] 99)) := (Below.refl _ wr).alloc (Nat.le_refl _) _
      have own' := own_at own (w' := wr.alloc (.cells #[.int .i64 r.seq, .int .i64 r.tries, .int .i64 r.path, .string r.data] 99)) (fun j hj => Ba.block j (own.lt j hj).2)
      have BW := below_then Bw Ba (Nat.le_refl _)
      have hbs := BW.size
      clear e0 e1 e2 e3 hrr hcell hql own
      go_upto_region 5 with fail
      clear d0 d1 d2 d3
      generalize wr.alloc (.cells #[.int .i64 r.seq, .int .i64 r.tries, .int .i64 r.path, .string r.data] 99) = wa at *
      have ca := Ka.cell
      simp at ca
      go_wp2_with (at_builtin; refine wpList_append_lies _ rfl _ _ 38 rfl w1.heap.size 3 i0 (.int .i64 0) 1 8 Try.underlying38 hi0 hz0 hz1 hz2 rfl (by decide) _ _ _ rfl (own'.alloc _) ⟨wa.heap.size, 0, none⟩ 1 1 [.int .i64 r.seq] rfl rfl (cell_one_new _ _ _) (by simp [Value.oneCell']) (by omega) (by rw [maxLen_eq]; omega) (by omega) (by simp; omega) _ rfl ?_; intro g2 cap w6 own6 hgrow hat hlt6)
      have hB6 : Below w1.heap.size w1 w6 := (BW.alloc hbs _).grown hgrow (by simp; omega) (fun j hj => (own'.lt j hj).1)
      go_roundw
      case rel => exact ⟨k + 1, by omega, by go_num, by rw [HS.out]; exact own6, hB6⟩
      case measure => simp only [intOf]; omega
    · obtain rfl : k = n := by omega
      have p1 : ¬ (k : Int) < (k : Int) := by omega
      have hall : l.take k = l := by have := HN.out; rw [← this]; exact List.take_length
      rw [hall] at own
      obtain ⟨f, hf⟩ : ∃ f : Nat → Int, (fun i => (l.map HR.seq).getD i 0) = f := ⟨_, rfl⟩
      have HG := Lib.hid (show ∀ i, i < k → (seqC l)[i]? = some (.int .i64 (f i)) from fun i hi => by rw [← hf]; exact seqC_get l k HN.out i hi)
      obtain ⟨ba, bc, rfl, SB⟩ := SliceOf.of_own own (fun i => .int .i64 (f i)) (fun i hi => HG.out i hi)
      have K1r := K1.below Bw K1.lt
      have hr := h.below Bx
      have E2 := fun (gx : UWF (CIs wr k l)) => (gx.holds.below.cell (p := ⟨w.heap.size, 2, none⟩) K1r.lt).trans (K1r.cell 2)
      have E3 := fun (gx : UWF (CIs wr k l)) => (gx.holds.below.cell (p := ⟨w.heap.size, 3, none⟩) K1r.lt).trans (K1r.cell 3)
      simp at E2 E3
      have SBL := Lib.hid SB
      clear hf hall own p1 c1 SB
      go_upto_region 7 with fail
      have hne : Nonempty (UWF (CIs wr k l)) := ⟨⟨fun _ => false, fun _ => undef, wr.drew, ⟨(Below.refl _ _).drew, (fun e => by cases e)⟩⟩⟩
      refine wp_region_free [(0, 1, some 1), (2, 6, some 8), (9, 1, some 10), (11, 3, some 14), (15, 5, none)] (CIs wr k l) (GIs k c) (fun q => if q = 1 then .int .i64 k else if q = 8 then .slice none k 0 else if q = 10 then .bool true else .int .i64 c) (by kernel_rfl) (by kernel_rfl) ?_ ?_ ?_ ?_
      · intro z hz LL G W hC
        simp [moversI] at hz
        exact hC.quiet (by omega)
      · exact ⟨(Below.refl _ _).drew, (fun e => by cases e)⟩
      · intro z
        exact ⟨fun e => by subst e; rfl, fun e => by subst e; exact ⟨_, _, rfl⟩, fun e => by subst e; rfl, fun e => by subst e; rfl⟩
      · intro G hG
        have g1 := (hG 1).len rfl
        obtain ⟨ra, rk, g8⟩ := (hG 8).row rfl
        have g10 := (hG 10).same rfl
        have g14 := (hG 14).again rfl
        simp only [walkF, List.drop_zero, List.drop_succ_cons, List.take_succ_cons, List.take_zero, List.toList_toArray]; (repeat (go_big_quiet_step (fail))); refine wpQuiet_nil ?_
        refine ⟨_, _, _, _, _, _, rfl, .inl ⟨rfl, ?_, ?_⟩⟩
        · intro LL W hL hA hC
          refine ⟨?_⟩; go_simp; simp only [movesToUpon]
          refine (HLn.out W (hr.below hC.below)).mono ?_
          rintro e w' ⟨rfl, rfl⟩
          exact ⟨_, rfl, ⟨fun _ => rfl, (fun e => by cases e), (fun e => by cases e), (fun e => by cases e)⟩, hC.on (Below.refl _ _) (by decide) _⟩
        · intro K' hK'; dsimp only at hK'; rw [g1]; go_big_quiet_op; go_big_quiet_on; (repeat (go_big_quiet_step (fail))); refine wpQuiet_nil ?_
          refine ⟨_, _, _, _, _, _, rfl, .inl ⟨rfl, ?_, ?_⟩⟩
          · intro LL W hL hA hC
            refine ⟨?_⟩; go_simp; simp only [movesToUpon]
            refine (HSQ.out W (hr.below hC.below)).mono ?_
            rintro e w' ⟨v', rfl, own', hb'⟩
            obtain ⟨va, vc, rfl, -⟩ := SliceOf.of_own own' (fun i => .int .i64 (f i)) (fun i hi => HG.out i hi)
            refine ⟨_, rfl, ⟨(fun e => by cases e), fun _ => ⟨_, _, rfl⟩, (fun e => by cases e), (fun e => by cases e)⟩, below_then hC.below hb' (Nat.le_refl _), fun _ => ?_⟩
            rw [upF_same]
            refine ⟨own'.1, ?_⟩
            rcases own'.2 with h1 | ⟨g1', cap, cur, h1, h2, h3⟩
            · exact .inl h1
            · exact .inr ⟨g1', cap, cur, h1, Nat.le_trans hC.below.size h2, h3⟩
          · intro K' hK'; dsimp only at hK'; rw [g8]; go_big_quiet_op; go_big_quiet_on; (repeat (go_big_quiet_step (fail))); refine wpQuiet_nil ?_
            refine ⟨_, _, _, _, _, _, rfl, .inl ⟨rfl, ?_, ?_⟩⟩
            · intro LL W hL hA hC
              have ro := hC.row (hA 8 (by kernel_rfl))
              rw [g8] at ro
              obtain ⟨va, vc, e, SA⟩ := SliceOf.of_own ro (fun i => .int .i64 (f i)) (fun i hi => HG.out i hi)
              injection e with e1 e2 e3
              subst e1 e3
              refine ⟨?_⟩; go_simp; simp only [movesToUpon]
              refine (law01_SameYes _ _ k _ bc f W SA (SBL.out.below hC.below) (by omega)).mono ?_
              rintro e w' ⟨rfl, hb'⟩
              exact ⟨_, rfl, ⟨(fun e => by cases e), (fun e => by cases e), fun _ => rfl, (fun e => by cases e)⟩, hC.on hb' (by decide) _⟩
            · intro K' hK'; dsimp only at hK'; rw [g10]; go_big_quiet_op; go_big_quiet_on; (repeat (go_big_quiet_step (fail))); refine wpQuiet_nil ?_
              refine ⟨_, _, _, _, _, _, rfl, .inl ⟨rfl, ?_, ?_⟩⟩
              · intro LL W hL hA hC
                refine ⟨?_⟩; go_simp; simp only [movesToUpon]
                refine (HAg.out W (hr.below hC.below)).mono ?_
                rintro e w' ⟨rfl, rfl⟩
                exact ⟨_, rfl, ⟨(fun e => by cases e), (fun e => by cases e), (fun e => by cases e), fun _ => rfl⟩, hC.on (Below.refl _ _) (by decide) _⟩
              · intro K' hK'; dsimp only at hK'; rw [g14]; go_big_quiet_op; go_big_quiet_on; (repeat (go_big_quiet_step (fail))); refine wpQuiet_nil ?_
                intro LL w9 hL hC
                have BE := below_then Bx hC.below (Nat.le_refl _)
                clear hC hL hG g1 g8 g10 g14 E2 E3 hne
                go_wp2_with fail
                go_ret
                exact ⟨rfl, BE⟩
end Go.Proofs.Ytonamlgipoannaa
