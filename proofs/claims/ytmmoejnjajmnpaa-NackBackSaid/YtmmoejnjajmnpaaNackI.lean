/- The document's Of. No condition but the text's size. -/
import Derived.Test.YtmmoejnjajmnpaaNackH
namespace Go.Proofs.Ytmmoejnjajmnpaa
open Go.RowKit BigFrame
attribute [local go_sem ↓] Go.wp_at_zero Go.wp_at_succ

set_option maxRecDepth 8000 in
set_option maxHeartbeats 4000000 in
theorem ref10_OfErr (cnt kd : Int) (s : ByteArray) (er : Int) (w : World) (h : errOf cnt kd s.size = er) (hne : er ≠ 0) (hs : s.size ≤ maxLen) :
    Calls Try.prog 24 #[.agg #[.int .i64 cnt, .int .i64 kd, .string s]] w fun e w' => e = .returned (.tuple #[.int .i64 0, .int .i64 0, .slice none 0 0, .int .i64 er]) ∧ Below w.heap.size w w' := by
  rw [maxLen_eq] at hs
  have K1 := Blk.new w 50 #[.int .i64 cnt, .int .i64 kd, .string s]
  have B1 : Below w.heap.size w (w.alloc (.cells #[.int .i64 cnt, .int .i64 kd, .string s] 50)) := (Below.refl _ w).alloc (Nat.le_refl _) _
  obtain ⟨z, hz⟩ : ∃ z, s.size = z := ⟨_, rfl⟩
  rw [hz] at h hs
  have hc : (kd ≠ 205 ∧ er = 5) ∨ (kd = 205 ∧ cnt ≠ 1 ∧ er = 5) ∨ (kd = 205 ∧ cnt = 1 ∧ z < 12 ∧ er = 2) ∨ (kd = 205 ∧ cnt = 1 ∧ 12 ≤ z ∧ z % 4 ≠ 0 ∧ er = 1) ∨ (kd = 205 ∧ cnt = 1 ∧ 12 ≤ z ∧ z % 4 = 0 ∧ 1208 < z ∧ er = 1) := by
    unfold errOf at h
    split at h
    · rename_i h1
      by_cases hk : kd = 205
      · exact .inr (.inl ⟨hk, by rcases h1 with h1 | h1; exact absurd hk h1; exact h1, h.symm⟩)
      · exact .inl ⟨hk, h.symm⟩
    · rename_i h1
      have h2 : kd = 205 ∧ cnt = 1 := by omega
      split at h
      · exact .inr (.inr (.inl ⟨h2.1, h2.2, by omega, h.symm⟩))
      · split at h
        · by_cases h4 : z % 4 = 0
          · exact .inr (.inr (.inr (.inr ⟨h2.1, h2.2, by omega, h4, by omega, h.symm⟩)))
          · exact .inr (.inr (.inr (.inl ⟨h2.1, h2.2, by omega, h4, h.symm⟩)))
        · exact absurd h.symm hne
  have wz : (z : Int).tmod 4 = ((z % 4 : Nat) : Int) := by rw [Int.tmod_eq_emod_of_nonneg (by omega)]; omega
  obtain ⟨z4, hz4⟩ : ∃ z4, z % 4 = z4 := ⟨_, rfl⟩
  rw [hz4] at wz hc
  have hz' : (s.size : Int) = (z : Int) := by rw [hz]
  clear h hne hz hz4
  rcases hc with ⟨h1, rfl⟩ | ⟨rfl, h1, rfl⟩ | ⟨rfl, rfl, h1, rfl⟩ | ⟨rfl, rfl, h1, h2, rfl⟩ | ⟨rfl, rfl, h1, h2, h3, rfl⟩
  all_goals
    try have e1 : (kd != 205) = true := by simp [h1]
    try have e1 : (cnt != 1) = true := by simp [h1]
    try have e1 : (z : Int) < 12 := by omega
    try have e1 : ¬ (z : Int) < 12 := by omega
    try have e2 : ((z4 : Int) != 0) = true := by simp; omega
    try have e2 : ((z4 : Int) != 0) = false := by simp; omega
    try have e3 : (1208 : Int) < (z : Int) := by omega
    go_enter Try.func24, Try.ntmps24
    go_upto_region 1 with fail
    generalize w.alloc (.cells #[.int .i64 _, .int .i64 _, .string s] 50) = w1 at *
    have k1 := K1.cell
    simp at k1
    go_wp2_with fail
    refine bodyPost_ret ?_ rfl ⟨rfl, B1⟩
    simp [results, Try.results24, go_sem]
    try rfl
/-- While one pair is drawn. -/
def StRO (w0 : World) (B g1 m : Nat) (xs : List Value) (q1 q2 : Nat) (k : Nat) (G : Nat → Value) (W : World) : Prop :=
  match k with
  | 0 => W = w0.drew
  | 1 => W = w0.drew
  | 2 => W = w0.drew
  | 3 => W = w0.drew.alloc (.cells #[.int .i64 q1, .int .i64 q2] 40) ∧ G 17 = .slice (some ⟨w0.heap.size, 0, none⟩) 1 1
  | 4 => ∃ g4 cap, G 18 = .slice (some ⟨g4, 0, none⟩) (m + 1) cap ∧ W.ownsRow B 40 2 (.slice (some ⟨g4, 0, none⟩) (m + 1) cap) (m + 1) (xs ++ [Value.int .i64 (q1 : Int), Value.int .i64 (q2 : Int)]) ∧ Below B w0 W ∧ W.heap[g1]? = w0.heap[g1]?
  | _ => False
structure GRO (m : Nat) (q1 q2 : Nat) (q : Nat) (v : Value) : Prop where
  a7 : q = 7 → v = .int .i64 q1
  a15 : q = 15 → v = .int .i64 q2
  a17 : q = 17 → ∃ g, v = .slice (some ⟨g, 0, none⟩) 1 1
  a18 : q = 18 → ∃ g cap, v = .slice (some ⟨g, 0, none⟩) (m + 1) cap
theorem StRO.box {w0 W : World} {B g1 m q1 q2 k : Nat} {xs : List Value} {G : Nat → Value} (h : StRO w0 B g1 m xs q1 q2 k G W) (hl : g1 < w0.heap.size) : W.heap[g1]? = w0.heap[g1]? := by
  match k, h with
  | 0, h => rw [show W = w0.drew from h]; rfl
  | 1, h => rw [show W = w0.drew from h]; rfl
  | 2, h => rw [show W = w0.drew from h]; rfl
  | 3, h => rw [h.1]; exact Below.heap_alloc w0.drew _ _ hl
  | 4, ⟨g4, cap, _, _, _, h⟩ => exact h
set_option maxRecDepth 8000 in
set_option maxHeartbeats 16000000 in
theorem ref10_OfOk (s : ByteArray) (w : World) (hs0 : 12 ≤ s.size) (hs1 : s.size ≤ 1208) (hs4 : s.size % 4 = 0) :
    Calls Try.prog 24 #[.agg #[.int .i64 1, .int .i64 205, .string s]] w fun e w' => ∃ v, e = .returned (.tuple #[.int .i64 (n4 (bytesI s)), .int .i64 (n4 ((bytesI s).drop 4)), v, .int .i64 0]) ∧
      (∃ a c, v = .slice a (parP ((bytesI s).drop 8)).length c) ∧ w'.ownsRow w.heap.size 40 2 v (parP ((bytesI s).drop 8)).length (rowQ (parP ((bytesI s).drop 8))) ∧ Below w.heap.size w w' := by
  obtain ⟨iq, hq0, hq1, hq2, hq3⟩ := info_rpair
  have K1 := Blk.new w 50 #[.int .i64 1, .int .i64 205, .string s]
  have B1 : Below w.heap.size w (w.alloc (.cells #[.int .i64 1, .int .i64 205, .string s] 50)) := (Below.refl _ w).alloc (Nat.le_refl _) _
  obtain ⟨z, hz⟩ : ∃ z, s.size = z := ⟨_, rfl⟩
  obtain ⟨L, hL⟩ : ∃ L, bytesI s = L := ⟨_, rfl⟩
  have hLl : L.length = z := by rw [← hL, bytesI_len, hz]
  have hLb : Bytes L := by rw [← hL]; exact bytesI_ok s
  obtain ⟨f, hf⟩ : ∃ f, n4 L = f := ⟨_, rfl⟩
  obtain ⟨a, ha⟩ : ∃ a, n4 (L.drop 4) = a := ⟨_, rfl⟩
  have wz : (z : Int).tmod 4 = 0 := by rw [Int.tmod_eq_emod_of_nonneg (by omega)]; omega
  have e1 : ¬ (z : Int) < 12 := by omega
  have e3 : ¬ (1208 : Int) < (z : Int) := by omega
  have hz' : (s.size : Int) = (z : Int) := by rw [hz]
  have HX1 := Lib.hid (show ∀ W, Calls Try.prog 37 #[.string (s.extract 0 4)] W fun e w' => e = .returned (.int .i64 f) ∧ W = w' from fun W => by
    obtain ⟨x0, x1, x2, x3, r, hr⟩ := split4 (l := L) (by omega)
    have hb : bytesI (s.extract 0 4) = [x0, x1, x2, x3] := by rw [bytesI_extract, hL, hr]; rfl
    have hsz : (s.extract 0 4).size = 4 := by rw [← bytesI_len, hb]; rfl
    have := ref03_Get (s.extract 0 4) W (by omega)
    rw [hsz, numS_four hb] at this
    rw [hr] at hf
    rw [← hf]
    exact this)
  have HX2 := Lib.hid (show ∀ W, Calls Try.prog 37 #[.string (s.extract 4 8)] W fun e w' => e = .returned (.int .i64 a) ∧ W = w' from fun W => by
    obtain ⟨x0, x1, x2, x3, r, hr⟩ := split4 (l := L) (by omega)
    obtain ⟨y0, y1, y2, y3, r2, hr2⟩ := split4 (l := r) (by
      have := congrArg List.length hr
      simp at this; omega)
    have hb : bytesI (s.extract 4 8) = [y0, y1, y2, y3] := by rw [bytesI_extract, hL, hr, hr2]; rfl
    have hsz : (s.extract 4 8).size = 4 := by rw [← bytesI_len, hb]; rfl
    have := ref03_Get (s.extract 4 8) W (by omega)
    rw [hsz, numS_four hb] at this
    rw [hr, hr2] at ha
    rw [← ha]
    exact this)
  rw [hL, hf, ha]
  have HL := Lib.hid hL
  have HLL := Lib.hid hLl
  have HLB := Lib.hid hLb
  have hzm : z % 4 = 0 := by omega
  have hzb : z ≤ 1208 := by omega
  have hz12 : 12 ≤ z := by omega
  have HZM := Lib.hid hzm
  clear hf ha hL hLl hLb hs0 hs1 hs4 hz hzm
  go_enter Try.func24, Try.ntmps24
  go_upto_region 1 with fail
  generalize w.alloc (.cells #[.int .i64 1, .int .i64 205, .string s] 50) = w1 at *
  have k1 := K1.cell
  simp at k1
  have s1 := B1.size
  have ownl := own_down (own_lit w1 40 2) s1
  have Bl : Below w1.heap.size w1 (w1.alloc (.cells #[] 40)) := (Below.refl _ w1).alloc (Nat.le_refl _) _
  have B2 := below_then B1 Bl (Nat.le_refl _)
  have K2 := K1.below Bl K1.lt
  go_upto_region 8 with fail
  clear k1
  generalize w1.alloc (.cells #[] 40) = w2 at *
  clear K1 B1 Bl
  go_wp2_with fail
  go_loopw [6, 7] (fun x6 x7 wr => ∃ (at' : Nat) (out : List (Int × Nat)) (m : Nat), x7 = .int .i64 at' ∧ 8 ≤ at' ∧ at' ≤ z ∧ at' % 4 = 0 ∧ parP (L.drop 8) = out ++ parP (L.drop at') ∧ out.length = m ∧ m ≤ at' ∧ (∃ av cv, x6 = .slice av m cv) ∧ wr.ownsRow w.heap.size 40 2 x6 m (rowQ out) ∧ Blk wr w.heap.size 50 #[.int .i64 1, .int .i64 205, .string s] ∧ Below w.heap.size w wr) (fun _ x7 _ => z - (intOf x7).toNat)
  case atStart => exact ⟨8, [], 0, rfl, by omega, by omega, by omega, rfl, rfl, by omega, ⟨_, _, rfl⟩, by simpa [rowQ] using ownl, K2, B2⟩
  case round =>
    clear ownl K2 B2
    obtain ⟨at', out, m, rfl, ha8, haz, ha4, hpar, hom, hma, ⟨av, cv, rfl⟩, own, K, B⟩ := hrel
    have HPAR := Lib.hid hpar
    have HOM := Lib.hid hom
    have HA4 := Lib.hid ha4
    clear hpar hom ha4
    by_cases hlt : at' < z
    · have p1 : (at' : Int) < (z : Int) := by omega
      have ha12 : at' + 4 ≤ z := by have := HA4.out; have := HZM.out; omega
      obtain ⟨x0, x1, x2, x3, R, hR⟩ := split4 (l := L.drop at') (by rw [List.length_drop, HLL.out]; omega)
      have hbt : Bytes (x0 :: x1 :: x2 :: x3 :: R) := fun y hy => HLB.out y (by rw [← hR] at hy; exact List.drop_subset _ _ hy)
      obtain ⟨x00, x01⟩ := hbt x0 (by simp)
      obtain ⟨x10, x11⟩ := hbt x1 (by simp)
      obtain ⟨x20, x21⟩ := hbt x2 (by simp)
      obtain ⟨x30, x31⟩ := hbt x3 (by simp)
      obtain ⟨u1, hu1⟩ : ∃ u, s.extract at' (at' + 2) = u := ⟨_, rfl⟩
      obtain ⟨u2, hu2⟩ : ∃ u, s.extract (at' + 2) (at' + 4) = u := ⟨_, rfl⟩
      have hb1 : bytesI u1 = [x0, x1] := by
        rw [← hu1, bytesI_extract, HL.out, List.drop_take, hR]
        have : at' + 2 - at' = 2 := by omega
        rw [this]; rfl
      have hb2 : bytesI u2 = [x2, x3] := by
        rw [← hu2, bytesI_extract, HL.out, List.drop_take]
        have h2 : L.drop (at' + 2) = x2 :: x3 :: R := by rw [← List.drop_drop, hR]; rfl
        rw [h2]
        have : at' + 4 - (at' + 2) = 2 := by omega
        rw [this]; rfl
      have hz1 : u1.size = 2 := by rw [← bytesI_len, hb1]; rfl
      have hz2 : u2.size = 2 := by rw [← bytesI_len, hb2]; rfl
      have hn1 := numS_two hb1
      have hn2 := numS_two hb2
      have HV1 := Lib.hid (fun W => ref03_Get u1 W (by omega))
      have HV2 := Lib.hid (fun W => ref03_Get u2 W (by omega))
      rw [hz1] at HV1
      rw [hz2] at HV2
      obtain ⟨q1, hq1'⟩ : ∃ q, numS u1 2 = q := ⟨_, rfl⟩
      obtain ⟨q2, hq2'⟩ : ∃ q, numS u2 2 = q := ⟨_, rfl⟩
      rw [hq1'] at HV1 hn1
      rw [hq2'] at HV2 hn2
      rw [← hu1] at HV1
      rw [← hu2] at HV2
      have HPR := Lib.hid (show parP (L.drop 8) = (out ++ [((q1 : Int), q2)]) ++ parP (L.drop (at' + 4)) by
        have h4 : L.drop (at' + 4) = R := by rw [← List.drop_drop, hR]; rfl
        rw [HPAR.out, hR, h4, List.append_assoc]
        show out ++ ((256 * x0 + x1, (256 * x2 + x3).toNat) :: parP R) = _
        rw [← hn1, ← hn2]
        rfl)
      have hrow2 := Lib.hid (show rowQ out ++ [Value.int .i64 (q1 : Int), Value.int .i64 (q2 : Int)] = rowQ (out ++ [((q1 : Int), q2)]) by rw [rowQ_append]; rfl)
      have w2' : IntKind.i64.wrap ((at' : Int) + 2) = ((at' + 2 : Nat) : Int) := by rw [IntWalk.i64_in _ (by omega)]; omega
      have w4' : IntKind.i64.wrap ((at' : Int) + 4) = ((at' + 4 : Nat) : Int) := by rw [IntWalk.i64_in _ (by omega)]; omega
      have sB := B.size
      have hgl := K.lt
      have no_1 := own_ne_blk own K (by decide)
      have k1 := K.cell
      simp at k1
      clear hR hbt hb1 hb2 hz1 hz2 hn1 hn2 hq1' hq2' hu1 hu2 x00 x01 x10 x11 x20 x21 x30 x31
      go_upto_region 11 with fail
      clear k1
      have hne : Nonempty (UWF (Phase [7, 15, 17, 18] (StRO wr w.heap.size w.heap.size m (rowQ out) q1 q2))) := Phase.ne (G := fun _ => undef) (W := wr.drew) rfl
      have E1 := fun (gx : UWF (Phase [7, 15, 17, 18] (StRO wr w.heap.size w.heap.size m (rowQ out) q1 q2))) => (show Blk gx.world w.heap.size 50 _ from by
        obtain ⟨k, _, h⟩ := gx.holds
        exact (h.box hgl).trans K).cell
      simp at E1
      have c1 : (0 : Int) ≤ (at' : Int) := by omega
      have c2 : (at' : Int) ≤ ((at' + 2 : Nat) : Int) := by omega
      have c3 : ((at' + 2 : Nat) : Int) ≤ ((at' + 4 : Nat) : Int) := by omega
      have c4 : ((at' + 4 : Nat) : Int) ≤ (s.size : Int) := by omega
      have c5 : ((at' + 2 : Nat) : Int) ≤ (s.size : Int) := by omega
      refine wp_region_free [(0, 7, some 7), (8, 7, some 15), (16, 1, some 17), (18, 0, some 18), (19, 1, none)] (Phase [7, 15, 17, 18] (StRO wr w.heap.size w.heap.size m (rowQ out) q1 q2)) (GRO m q1 q2) (fun y => if y = 7 then .int .i64 q1 else if y = 15 then .int .i64 q2 else if y = 17 then .slice (some ⟨0, 0, none⟩) 1 1 else .slice (some ⟨0, 0, none⟩) (m + 1) 0) (by kernel_rfl) (by kernel_rfl) ?_ ?_ ?_ ?_
      · intro y hy LL G W hC
        simp [moversI] at hy
        exact hC.quiet (fun i e => by have := List.mem_of_getElem? e; simp at this; omega)
      · exact Phase.start rfl
      · intro y
        exact ⟨fun e => by subst e; rfl, fun e => by subst e; rfl, fun e => by subst e; exact ⟨_, rfl⟩, fun e => by subst e; exact ⟨_, _, rfl⟩⟩
      · intro G hG
        have g7 := (hG 7).a7 rfl
        have g15 := (hG 15).a15 rfl
        obtain ⟨gl, g17⟩ := (hG 17).a17 rfl
        obtain ⟨gr, gc, g18⟩ := (hG 18).a18 rfl
        simp only [walkF, List.drop_zero, List.drop_succ_cons, List.take_succ_cons, List.take_zero, List.toList_toArray]; (repeat (go_big_quiet_step (fail))); refine wpQuiet_nil ?_
        refine ⟨_, _, _, _, _, _, rfl, .inl ⟨rfl, ?_, ?_⟩⟩
        · intro LL W hL hA hC
          have hst : W = wr.drew := hC.at 0 7 rfl hL (fun m' h0 _ => absurd h0 (by omega))
          subst hst
          refine ⟨?_⟩; go_simp; simp only [movesToUpon]
          refine (HV1.out wr.drew).mono ?_
          rintro e w' ⟨rfl, rfl⟩
          exact ⟨_, rfl, ⟨fun _ => rfl, (fun e => by cases e), (fun e => by cases e), (fun e => by cases e)⟩, hC.next (by decide) 0 7 rfl hL (fun m' h0 _ => absurd h0 (by omega)) rfl⟩
        · intro K' hK'; dsimp only at hK'; rw [g7]; go_big_quiet_op; go_big_quiet_on; (repeat (go_big_quiet_step (fail))); refine wpQuiet_nil ?_
          refine ⟨_, _, _, _, _, _, rfl, .inl ⟨rfl, ?_, ?_⟩⟩
          · intro LL W hL hA hC
            have hp : ∀ m', 0 < 1 → [7, 15, 17, 18][1 - 1]? = some m' → LL m' = true := fun m' _ h => by
              simp at h; subst h; exact hA 7 (by kernel_rfl)
            have hst : W = wr.drew := hC.at 1 15 rfl hL hp
            subst hst
            refine ⟨?_⟩; go_simp; simp only [movesToUpon]
            refine (HV2.out wr.drew).mono ?_
            rintro e w' ⟨rfl, rfl⟩
            exact ⟨_, rfl, ⟨(fun e => by cases e), fun _ => rfl, (fun e => by cases e), (fun e => by cases e)⟩, hC.next (by decide) 1 15 rfl hL hp rfl⟩
          · intro K' hK'; dsimp only at hK'; rw [g15]; go_big_quiet_op; go_big_quiet_on; (repeat (go_big_quiet_step (fail))); refine wpQuiet_nil ?_
            refine ⟨_, _, _, _, _, _, rfl, .inl ⟨rfl, ?_, ?_⟩⟩
            · intro LL W hL hA hC
              have hp : ∀ m', 0 < 2 → [7, 15, 17, 18][2 - 1]? = some m' → LL m' = true := fun m' _ h => by
                simp at h; subst h; exact hA 15 (by kernel_rfl)
              have hst : W = wr.drew := hC.at 2 17 rfl hL hp
              subst hst
              refine ⟨?_⟩; go_simp; simp only [movesToUpon]
              exact ⟨⟨(fun e => by cases e), (fun e => by cases e), fun _ => ⟨_, rfl⟩, (fun e => by cases e)⟩, hC.next (by decide) 2 17 rfl hL hp ⟨rfl, upF_same _ _ _⟩⟩
            · intro K' hK'; dsimp only at hK'; rw [g17]; go_big_quiet_op; go_big_quiet_on; (repeat (go_big_quiet_step (fail))); refine wpQuiet_nil ?_
              refine ⟨_, _, _, _, _, _, rfl, .inl ⟨rfl, ?_, ?_⟩⟩
              · intro LL W hL hA hC
                have hp : ∀ m', 0 < 3 → [7, 15, 17, 18][3 - 1]? = some m' → LL m' = true := fun m' _ h => by
                  simp at h; subst h; exact hA 17 (by kernel_rfl)
                obtain ⟨rfl, hg17⟩ : W = wr.drew.alloc (.cells #[.int .i64 q1, .int .i64 q2] 40) ∧ G 17 = .slice (some ⟨wr.heap.size, 0, none⟩) 1 1 := hC.at 3 18 rfl hL hp
                rw [g17] at hg17
                injection hg17 with f1 f2 f3
                injection f1 with f1
                injection f1 with f1
                subst f1
                have own2 : wr.drew.ownsRow w.heap.size 40 2 (.slice av m cv) m (rowQ out) := own
                have own3 := ownsRow_alloc own2 (.cells #[.int .i64 (q1 : Int), .int .i64 (q2 : Int)] 40)
                have hnew := World.news_of_block (Blk.new wr.drew 40 #[.int .i64 (q1 : Int), .int .i64 (q2 : Int)])
                obtain ⟨g4, cap4, w4, hrun, own4, hgrow4, _, hlt4⟩ := run_append_lies (P := Try.prog) _ 41 41 w.heap.size 40 iq (.agg #[.int .i64 0, .int .i64 0]) 2 16 Try.underlying41 hq0 hq1 hq2 hq3 rfl (by decide) _ _ _ own3 ⟨wr.heap.size, 0, none⟩ 1 1 [.int .i64 (q1 : Int), .int .i64 (q2 : Int)] rfl hnew (by simp [Value.oneCell']) (by omega) (by rw [maxLen_eq]; omega) (by omega) (by simp; omega) _ rfl
                have far : w4.heap[w.heap.size]? = wr.heap[w.heap.size]? := (hgrow4.block w.heap.size (by simp; omega) (fun e => no_1 e.symm)).trans (Below.heap_alloc wr.drew _ _ hgl)
                have B4 : Below w.heap.size wr w4 := (((Below.refl _ wr).drew).alloc (by simpa using sB) _).grown hgrow4 (by simp; omega) (fun j hj => (own3.lt j hj).1)
                refine MovesTo.append_ rfl rfl rfl hrun ?_
                exact ⟨⟨(fun e => by cases e), (fun e => by cases e), (fun e => by cases e), fun _ => ⟨_, _, rfl⟩⟩, hC.next (by decide) 3 18 rfl hL hp ⟨g4, cap4, upF_same _ _ _, own4, B4, far⟩⟩
              · intro K' hK'; dsimp only at hK'; rw [g18]; go_big_quiet_op; go_big_quiet_on; (repeat (go_big_quiet_step (fail))); refine wpQuiet_nil ?_
                intro LL w9 hL hC
                obtain ⟨g4, cap4, hg18, own4, B4, far⟩ : ∃ g4 cap, G 18 = .slice (some ⟨g4, 0, none⟩) (m + 1) cap ∧ w9.ownsRow w.heap.size 40 2 (.slice (some ⟨g4, 0, none⟩) (m + 1) cap) (m + 1) (rowQ out ++ [Value.int .i64 (q1 : Int), Value.int .i64 (q2 : Int)]) ∧ Below w.heap.size wr w9 ∧ w9.heap[w.heap.size]? = wr.heap[w.heap.size]? :=
                  hC.all (fun y hy => hL y (by
                    simp at hy
                    rcases hy with rfl | rfl | rfl | rfl <;> decide)) (fun k G W h => by
                    unfold StRO at h
                    split at h
                    all_goals first | exact h.elim | simp)
                rw [g18] at hg18
                injection hg18 with f1 f2 f3
                injection f1 with f1
                injection f1 with f1
                subst f1 f3
                have K9 : Blk w9 w.heap.size 50 _ := far.trans K
                have BE := B.trans B4
                clear hC hL hG g7 g15 g17 g18 hne E1
                go_wp2_with fail
                go_roundw
                case rel => exact ⟨at' + 4, out ++ [((q1 : Int), q2)], m + 1, by go_num, by omega, by omega, by have := HA4.out; omega, HPR.out, by rw [List.length_append, HOM.out]; rfl, by omega, ⟨_, _, rfl⟩, by rw [← hrow2.out]; exact own4, K9, BE⟩
                case measure => simp only [intOf]; omega
    · obtain rfl : at' = z := by omega
      have p1 : ¬ (at' : Int) < (at' : Int) := by omega
      have hpe : parP (L.drop 8) = out := by
        rw [HPAR.out, List.drop_of_length_le (by rw [HLL.out]; exact Nat.le_refl _)]
        simp [parP]
      have hom := HOM.out
      have k1 := K.cell
      simp at k1
      have HPE := Lib.hid hpe
      have HOM2 := Lib.hid hom
      have E0 := fun (gx : Ext wr) => gx.cell (K.cell 2) K.lt
      simp at E0
      have c1 : ((8 : Nat) : Int) ≤ (s.size : Int) := by omega
      have c2 : (4 : Int) ≤ (s.size : Int) := by omega
      have c3 : (8 : Int) ≤ (s.size : Int) := by omega
      have Bw := B
      clear hpe hom
      go_upto_region 12 with fail
      clear p1 k1
      refine wp_region_ext (by kernel_rfl) (by kernel_rfl) ?_; (repeat (go_big_quiet_step ((first | (go_at_call 37; with_reducible exact calls_ext_same _ (HX1.out _)) | (go_at_call 37; with_reducible exact calls_ext_same _ (HX2.out _)))))); refine wpQuiet_nil ?_; rintro _ ⟨gq, rfl⟩
      have BX := gq.below
      generalize gq.world = w5 at *
      have own5 := own_lasts own BX
      have BE := below_then Bw BX (Nat.le_refl _)
      clear E0
      go_wp2_with fail
      refine bodyPost_ret (v := .tuple #[.int .i64 f, .int .i64 a, .slice av m cv, .int .i64 0]) ?_ rfl ⟨_, rfl, ⟨_, _, by rw [HPE.out, HOM2.out]⟩, by rw [HPE.out, HOM2.out]; exact own5, BE⟩
      simp [results, Try.results24, go_sem]
      try rfl
end Go.Proofs.Ytmmoejnjajmnpaa
