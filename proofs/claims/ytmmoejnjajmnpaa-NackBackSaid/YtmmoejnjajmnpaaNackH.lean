/- Package nack: Of, a piece that is right. No condition but the text's size. -/
import Derived.Test.YtmmoejnjajmnpaaNackG
namespace Go.Proofs.Ytmmoejnjajmnpaa
open Go.RowKit BigFrame
attribute [local go_sem ↓] Go.wp_at_zero Go.wp_at_succ

/-- How many bytes are left. -/
def leftAt (g : Nat) (W : World) : Nat := match W.cell? ⟨g, 0, none⟩ with
  | some (.string s) => s.size
  | _ => 0
theorem leftAt_of {W : World} {g : Nat} {s : ByteArray} {e : Int} (h : InAt W g s e) : leftAt g W = s.size := by
  have := h.blk.cell 0
  unfold leftAt
  rw [this]
  rfl
theorem OnlyAt.drew (w : World) (g : Nat) : OnlyAt w w.drew g := ⟨(Below.refl _ _).drew, fun _ _ => rfl⟩
set_option maxRecDepth 8000 in
set_option maxHeartbeats 16000000 in
theorem nack_OfOk (s : ByteArray) (w : World) (hs0 : 12 ≤ s.size) (hs1 : s.size ≤ 1208) (hs4 : s.size % 4 = 0) :
    Calls Try.prog 22 #[.agg #[.int .i64 1, .int .i64 205, .string s]] w fun e w' => ∃ v, e = .returned (.tuple #[.agg #[.int .u32 (n4 (bytesI s)), .int .u32 (n4 ((bytesI s).drop 4)), v], .int .i64 0]) ∧
      (∃ a c, v = .slice a (parP ((bytesI s).drop 8)).length c) ∧ w'.ownsRow w.heap.size 30 2 v (parP ((bytesI s).drop 8)).length (rowP (parP ((bytesI s).drop 8))) ∧ Below w.heap.size w w' := by
  obtain ⟨ip, hp0, hp1, hp2, hp3⟩ := info_pair
  obtain ⟨K1, K2, B1⟩ := two_newD w #[.int .i64 1, .int .i64 205, .string s] #[.int .u32 0, .int .u32 0, .slice none 0 0] 48 36
  obtain ⟨z, hz⟩ : ∃ z, s.size = z := ⟨_, rfl⟩
  have hLl := bytesI_len s
  obtain ⟨L, hL⟩ : ∃ L, bytesI s = L := ⟨_, rfl⟩
  have hLb := bytesI_ok s
  obtain ⟨f, hf⟩ : ∃ f, n4 L = f := ⟨_, rfl⟩
  obtain ⟨a, ha⟩ : ∃ a, n4 (L.drop 4) = a := ⟨_, rfl⟩
  have hms : s.size ≤ maxLen := by rw [maxLen_eq]; omega
  -- the two numbers
  obtain ⟨s2, hs2⟩ : ∃ t, s.extract 4 s.size = t := ⟨_, rfl⟩
  obtain ⟨s3, hs3⟩ : ∃ t, s2.extract 4 s2.size = t := ⟨_, rfl⟩
  have hb2 : bytesI s2 = L.drop 4 := by rw [← hs2, bytesI_drop, hL]
  have hb3 : bytesI s3 = L.drop 8 := by rw [← hs3, bytesI_drop, hb2, List.drop_drop]
  have hl2 : s2.size = z - 4 := by rw [← bytesI_len, hb2, List.length_drop, ← hL, hLl, hz]
  have hl3 : s3.size = z - 8 := by rw [← bytesI_len, hb3, List.length_drop, ← hL, hLl, hz]
  have hq1 : (numS s 4 : Int) = f := by
    obtain ⟨x0, x1, x2, x3, r, hr⟩ := split4 (l := L) (by rw [← hL, hLl]; omega)
    rw [numS_four (hL.trans hr), ← hf, hr]; rfl
  have hq2 : (numS s2 4 : Int) = a := by
    obtain ⟨x0, x1, x2, x3, r, hr⟩ := split4 (l := L.drop 4) (by rw [List.length_drop, ← hL, hLl]; omega)
    rw [numS_four (hb2.trans hr), ← ha, hr]; rfl
  have HU1 := Lib.hid (fun g W (I : InAt W g s 0) => pen_InU32 g s 0 W I (by omega) hms)
  have HU2 := Lib.hid (fun g W (I : InAt W g s2 0) => pen_InU32 g s2 0 W I (by omega) (by rw [maxLen_eq]; omega))
  rw [hq1, hs2] at HU1
  rw [hq2, hs3] at HU2
  rw [hL, hf, ha]
  have HB3 := Lib.hid hb3
  have hmod : (bytesI s3).length % 4 = 0 := by rw [bytesI_len, hl3]; omega
  have hl3' : s3.size ≤ 1200 := by omega
  have wz : (z : Int).tmod 4 = 0 := by rw [Int.tmod_eq_emod_of_nonneg (by omega)]; omega
  have e1 : ¬ (z : Int) < 12 := by omega
  have e3 : ¬ (1208 : Int) < (z : Int) := by omega
  have hz' : (s.size : Int) = (z : Int) := by rw [hz]
  have HMS := Lib.hid hms
  clear hLl hL hLb hf ha hms hs2 hs3 hb2 hl2 hl3 hq1 hq2 hs0 hs1 hs4
  go_enter Try.func22, Try.ntmps22
  go_upto_region 1 with fail
  generalize (w.alloc (.cells #[.int .i64 1, .int .i64 205, .string s] 48)).alloc (.cells #[.int .u32 0, .int .u32 0, .slice none 0 0] 36) = w1 at *
  have k1 := K1.cell
  simp at k1
  have s1 := B1.size
  have hl2 := K2.lt
  go_wp2_with fail
  refine (pen_Of s w1).mono ?_
  rintro e w2 ⟨rfl, I2, B2⟩
  have K12 := K1.below B2 K1.lt
  have K22 := K2.below B2 K2.lt
  obtain ⟨gi, hgi⟩ : ∃ gi, w1.heap.size = gi := ⟨_, rfl⟩
  have B02 := below_then B1 B2 (Nat.le_refl _)
  rw [hgi] at I2 B2 hl2 ⊢
  clear K1 K2 B1 B2 k1 hz hz'
  go_wp2_with fail
  refine (HU1.out gi w2 I2).mono ?_
  rintro e w3 ⟨rfl, I3, O3⟩
  go_wp2_with fail
  refine (HU2.out gi w3 I3).mono ?_
  rintro e w4 ⟨rfl, I4, O4⟩
  have O24 := O3.trans O4
  have B4 : Below w.heap.size w w4 := B02.trans (O24.down (by omega))
  have K24 : Blk w4 (w.heap.size + 1) 36 _ := (O24.2 _ (by omega)).trans K22
  have Kn := Blk.new w4 36 #[.int .u32 f, .int .u32 a, .slice none 0 0]
  have Bn : Below w4.heap.size w4 (w4.alloc (.cells #[.int .u32 f, .int .u32 a, .slice none 0 0] 36)) := (Below.refl _ w4).alloc (Nat.le_refl _) _
  have I5 := I4.below Bn
  have K25 := K24.below Bn K24.lt
  have B5 := below_then B4 Bn (Nat.le_refl _)
  have hil := I4.blk.lt
  clear O3 O4 O24 I2 I3 K12 K22 B02 hgi
  go_upto_region 10 with fail
  obtain ⟨gn, hgn⟩ : ∃ gn, w4.heap.size = gn := ⟨_, rfl⟩
  rw [hgn] at Kn hil ⊢
  generalize w4.alloc (.cells #[.int .u32 f, .int .u32 a, .slice none 0 0] 36) = w5 at *
  have nin : gn ≠ gi := by omega
  have ni2 : w.heap.size + 1 ≠ gi := by omega
  have nn2 : w.heap.size + 1 ≠ gn := by omega
  clear I4 K24 Bn B4 hgn
  go_loopw [] (fun wr => ∃ (t : ByteArray) (out : List (Int × Nat)) (m : Nat) (av : Option Addr) (cv : Nat), InAt wr gi t 0 ∧ t.size ≤ 1200 ∧ t.size % 4 = 0 ∧ parP (L.drop 8) = out ++ parP (bytesI t) ∧ out.length = m ∧ m * 4 + t.size ≤ 1200 ∧ Blk wr gn 36 #[.int .u32 f, .int .u32 a, .slice av m cv] ∧ wr.ownsRow w.heap.size 30 2 (.slice av m cv) m (rowP out) ∧ Blk wr (w.heap.size + 1) 36 #[.int .u32 0, .int .u32 0, .slice none 0 0] ∧ Below w.heap.size w wr) (fun wr => leftAt gi wr)
  case atStart => exact ⟨s3, [], 0, none, 0, I5, hl3', by rw [← bytesI_len]; exact hmod, by rw [HB3.out]; rfl, rfl, by omega, Kn, ⟨rfl, .inl ⟨rfl, rfl⟩⟩, K25, B5⟩
  case round =>
    clear I5 Kn K25 B5 hmod hl3'
    obtain ⟨t, out, m, av, cv, I, ht, ht4, hpar, hom, hmt, Kn, own, K2, B⟩ := hrel
    have HPAR := Lib.hid hpar
    have HOM := Lib.hid hom
    clear hpar hom
    obtain ⟨tz, htz⟩ : ∃ tz, t.size = tz := ⟨_, rfl⟩
    have HLF := Lib.hid (pen_Left gi t 0 wr I)
    rw [htz] at HLF ht ht4 hmt
    have HTZ := Lib.hid htz
    clear htz
    by_cases hpos : 0 < tz
    · have p1 : (0 : Int) < (tz : Int) := by omega
      obtain ⟨x0, x1, x2, x3, R, hR⟩ := split4 (l := bytesI t) (by rw [bytesI_len, HTZ.out]; omega)
      have hbt := bytesI_ok t
      rw [hR] at hbt
      obtain ⟨x00, x01⟩ := hbt x0 (by simp)
      obtain ⟨x10, x11⟩ := hbt x1 (by simp)
      obtain ⟨x20, x21⟩ := hbt x2 (by simp)
      obtain ⟨x30, x31⟩ := hbt x3 (by simp)
      obtain ⟨t1, ht1⟩ : ∃ t1, t.extract 2 t.size = t1 := ⟨_, rfl⟩
      obtain ⟨t2, ht2⟩ : ∃ t2, t1.extract 2 t1.size = t2 := ⟨_, rfl⟩
      have hb1 : bytesI t1 = x2 :: x3 :: R := by rw [← ht1, bytesI_drop, hR]; rfl
      have hb2 : bytesI t2 = R := by rw [← ht2, bytesI_drop, hb1]; rfl
      have hz1 : t1.size = tz - 2 := by
        have h1 := bytesI_len t1
        have h2 := bytesI_len t
        rw [hb1] at h1
        rw [hR, HTZ.out] at h2
        simp at h1 h2
        omega
      have hz2 : t2.size = tz - 4 := by
        have h1 := bytesI_len t2
        have h2 := bytesI_len t
        rw [hb2] at h1
        rw [hR, HTZ.out] at h2
        simp at h2
        omega
      have hn1 := numS_two hR
      have hn2 := numS_two hb1
      have HV1 := Lib.hid (fun W (I : InAt W gi t 0) => pen_InU16 gi t 0 W I (by have := HTZ.out; omega) (by rw [maxLen_eq]; have := HTZ.out; omega))
      have HV2 := Lib.hid (fun W (I : InAt W gi t1 0) => pen_InU16 gi t1 0 W I (by omega) (by rw [maxLen_eq]; omega))
      obtain ⟨q1, hq1⟩ : ∃ q, numS t 2 = q := ⟨_, rfl⟩
      obtain ⟨q2, hq2⟩ : ∃ q, numS t1 2 = q := ⟨_, rfl⟩
      rw [hq1, ht1] at HV1
      rw [hq2, ht2] at HV2
      rw [hq1] at hn1
      rw [hq2] at hn2
      have HPR := Lib.hid (show parP (L.drop 8) = (out ++ [((q1 : Int), q2)]) ++ parP (bytesI t2) by
        rw [HPAR.out, hR, hb2, List.append_assoc]
        show out ++ ((256 * x0 + x1, (256 * x2 + x3).toNat) :: parP R) = _
        rw [← hn1, ← hn2]
        rfl)
      have hq1b : q1 ≤ 65535 := by omega
      have hq2b : q2 ≤ 65535 := by omega
      have HZ2 := Lib.hid hz2
      have wq1 : IntKind.u16.wrap (q1 : Int) = (q1 : Int) := by simp [IntKind.wrap, IntKind.signed, IntKind.bits]; omega
      have wq2 : IntKind.u16.wrap (q2 : Int) = (q2 : Int) := by simp [IntKind.wrap, IntKind.signed, IntKind.bits]; omega
      have hrow2 := Lib.hid (show rowP out ++ [.int .u16 (q1 : Int), .int .u16 (q2 : Int)] = rowP (out ++ [((q1 : Int), q2)]) by rw [rowP_append]; rfl)
      have sB := B.size
      have hgil := I.blk.lt
      have hgnl := Kn.lt
      have hg2l := K2.lt
      have no_i := own_ne_blk own I.blk (by decide)
      have no_n := own_ne_blk own Kn (by decide)
      have no_2 := own_ne_blk own K2 (by decide)
      clear hR hbt ht1 ht2 hb1 hb2 hz1 hz2 hn1 hn2 hq1 hq2 x00 x01 x10 x11 x20 x21 x30 x31
      go_wp2_with fail
      refine HLF.out.mono ?_
      rintro e' w' ⟨rfl, rfl⟩
      go_upto_region 11 with fail
      obtain ⟨CC, hCC⟩ : ∃ CC, CC = COf wr w.heap.size gi gn (w.heap.size + 1) m t1 t2 f a (rowP out) q1 q2 := ⟨_, rfl⟩
      have hne : Nonempty (UWF (COf wr w.heap.size gi gn (w.heap.size + 1) m t1 t2 f a (rowP out) q1 q2)) := ⟨⟨_, _, _, COf.start (fun _ => undef)⟩⟩
      clear hCC CC
      refine wp_region_free [(0, 1, some 1), (2, 1, some 3), (4, 2, some 6), (7, 2, some 9), (10, 0, some 10), (11, 1, some 12), (13, 0, none)] (COf wr w.heap.size gi gn (w.heap.size + 1) m t1 t2 f a (rowP out) q1 q2) (GOf m (.slice av m cv) q1 q2) (fun y => if y = 1 then .slice av m cv else if y = 3 then .int .i64 q1 else if y = 6 then .int .i64 q2 else if y = 9 then .slice (some ⟨0, 0, none⟩) 1 1 else .slice (some ⟨0, 0, none⟩) (m + 1) 0) (by kernel_rfl) (by kernel_rfl) ?_ ?_ ?_ ?_
      · intro y hy LL G W hC
        simp [moversI] at hy
        exact hC.quiet (by omega) (by simp; omega)
      · exact COf.start _
      · intro y
        exact ⟨fun e => by subst e; rfl, fun e => by subst e; rfl, fun e => by subst e; rfl, fun e => by subst e; exact ⟨_, rfl⟩, fun e => by subst e; exact ⟨_, _, rfl⟩⟩
      · intro G hG
        have g1 := (hG 1).a1 rfl
        have g3 := (hG 3).a3 rfl
        have g6 := (hG 6).a6 rfl
        obtain ⟨gl, g9⟩ := (hG 9).a9 rfl
        obtain ⟨gr, gc, g10⟩ := (hG 10).a10 rfl
        simp only [walkF, List.drop_zero, List.drop_succ_cons, List.take_succ_cons, List.take_zero, List.toList_toArray]; (repeat (go_big_quiet_step (fail))); refine wpQuiet_nil ?_
        refine ⟨_, _, _, _, _, _, rfl, .inl ⟨rfl, ?_, ?_⟩⟩
        · intro LL W hL hA hC
          obtain ⟨hkeep, hC'⟩ := hC.load hL nin hgnl (.slice av m cv)
          have kn : Blk W gn 36 _ := hkeep.trans Kn
          have cn := kn.cell
          simp at cn
          refine ⟨?_⟩; go_simp; simp only [movesToUpon]
          exact ⟨⟨fun _ => rfl, (fun e => by cases e), (fun e => by cases e), (fun e => by cases e), (fun e => by cases e)⟩, hC'⟩
        · intro K' hK'; dsimp only at hK'; rw [g1]; go_big_quiet_op; go_big_quiet_on; (repeat (go_big_quiet_step (fail))); refine wpQuiet_nil ?_
          refine ⟨_, _, _, _, _, _, rfl, .inl ⟨rfl, ?_, ?_⟩⟩
          · intro LL W hL hA hC
            have hst : W = wr.drew := hC.ph.at 0 3 rfl hL (fun m' h0 _ => absurd h0 (by omega))
            subst hst
            have I0 : InAt wr.drew gi t 0 := I
            refine ⟨?_⟩; go_simp; simp only [movesToUpon]
            refine (HV1.out wr.drew I0).mono ?_
            rintro e w' ⟨rfl, I1, O1⟩
            refine ⟨_, rfl, ⟨(fun e => by cases e), fun _ => rfl, (fun e => by cases e), (fun e => by cases e), (fun e => by cases e)⟩, ⟨hC.ph.next (by decide) 0 3 rfl hL (fun m' h0 _ => absurd h0 (by omega)) ⟨I1, ?_⟩, fun e => ?_⟩⟩
            · exact (OnlyAt.drew wr gi).trans O1
            · rw [updL_ne _ (by decide)] at e ⊢
              exact hC.anc e
          · intro K' hK'; dsimp only at hK'; rw [g3]; go_big_quiet_op; go_big_quiet_on; (repeat (go_big_quiet_step (fail))); refine wpQuiet_nil ?_
            refine ⟨_, _, _, _, _, _, rfl, .inl ⟨rfl, ?_, ?_⟩⟩
            · intro LL W hL hA hC
              have hp : ∀ m', 0 < 1 → [3, 6, 9, 10, 12][1 - 1]? = some m' → LL m' = true := fun m' _ h => by
                simp at h; subst h; exact hA 3 (by kernel_rfl)
              obtain ⟨I1, O1⟩ : InAt W gi t1 0 ∧ OnlyAt wr W gi := hC.ph.at 1 6 rfl hL hp
              refine ⟨?_⟩; go_simp; simp only [movesToUpon]
              refine (HV2.out W I1).mono ?_
              rintro e w' ⟨rfl, I2, O2⟩
              refine ⟨_, rfl, ⟨(fun e => by cases e), (fun e => by cases e), fun _ => rfl, (fun e => by cases e), (fun e => by cases e)⟩, ⟨hC.ph.next (by decide) 1 6 rfl hL hp ⟨I2, O1.trans O2⟩, fun e => ?_⟩⟩
              rw [updL_ne _ (by decide)] at e ⊢
              exact hC.anc e
            · intro K' hK'; dsimp only at hK'; rw [g6]; go_big_quiet_op; go_big_quiet_on; (repeat (go_big_quiet_step (fail))); refine wpQuiet_nil ?_
              refine ⟨_, _, _, _, _, _, rfl, .inl ⟨rfl, ?_, ?_⟩⟩
              · intro LL W hL hA hC
                have hp : ∀ m', 0 < 2 → [3, 6, 9, 10, 12][2 - 1]? = some m' → LL m' = true := fun m' _ h => by
                  simp at h; subst h; exact hA 6 (by kernel_rfl)
                obtain ⟨I2, O2⟩ : InAt W gi t2 0 ∧ OnlyAt wr W gi := hC.ph.at 2 9 rfl hL hp
                refine ⟨?_⟩; go_simp; simp only [movesToUpon]
                refine ⟨⟨(fun e => by cases e), (fun e => by cases e), (fun e => by cases e), fun _ => ⟨_, rfl⟩, (fun e => by cases e)⟩, ⟨hC.ph.next (by decide) 2 9 rfl hL hp ⟨W, I2, O2, rfl, upF_same _ _ _⟩, fun e => ?_⟩⟩
                rw [updL_ne _ (by decide)] at e ⊢
                exact hC.anc e
              · intro K' hK'; dsimp only at hK'; rw [g9]; go_big_quiet_op; go_big_quiet_on; (repeat (go_big_quiet_step (fail))); refine wpQuiet_nil ?_
                refine ⟨_, _, _, _, _, _, rfl, .inl ⟨rfl, ?_, ?_⟩⟩
                · intro LL W hL hA hC
                  have hp : ∀ m', 0 < 3 → [3, 6, 9, 10, 12][3 - 1]? = some m' → LL m' = true := fun m' _ h => by
                    simp at h; subst h; exact hA 9 (by kernel_rfl)
                  obtain ⟨W2, I2, O2, rfl, hg9⟩ : ∃ W2, InAt W2 gi t2 0 ∧ OnlyAt wr W2 gi ∧ W = W2.alloc (.cells #[.int .u16 q1, .int .u16 q2] 30) ∧ G 9 = .slice (some ⟨W2.heap.size, 0, none⟩) 1 1 := hC.ph.at 3 10 rfl hL hp
                  rw [g9] at hg9
                  injection hg9 with f1 f2 f3
                  injection f1 with f1
                  injection f1 with f1
                  subst f1
                  have own2 := own_at2 own (w' := W2) (fun j hj => O2.2 j (fun e => no_i (by rw [hj, e])))
                  have own3 := ownsRow_alloc own2 (.cells #[.int .u16 (q1 : Int), .int .u16 (q2 : Int)] 30)
                  have hnew := World.news_of_block (Blk.new W2 30 #[.int .u16 (q1 : Int), .int .u16 (q2 : Int)])
                  have sW := O2.1.size
                  obtain ⟨g4, cap4, w4, hrun, own4, hgrow4, _, hlt4⟩ := run_append_lies (P := Try.prog) _ 26 26 w.heap.size 30 ip (.agg #[.int .u16 0, .int .u16 0]) 2 4 Try.underlying26 hp0 hp1 hp2 hp3 rfl (by decide) _ _ _ own3 ⟨W2.heap.size, 0, none⟩ 1 1 [.int .u16 (q1 : Int), .int .u16 (q2 : Int)] rfl hnew (by simp [Value.oneCell']) (by omega) (by rw [maxLen_eq]; omega) (by omega) (by simp; omega) _ rfl
                  have far : ∀ k, k < wr.heap.size → k ≠ gi → (Value.slice av m cv).ownBlock ≠ some k → w4.heap[k]? = wr.heap[k]? := fun k h1 h2 h3 => (hgrow4.block k (by simp; omega) (fun e => h3 e.symm)).trans ((Below.heap_alloc _ _ _ (by omega)).trans (O2.2 k h2))
                  have B4 : Below w.heap.size wr w4 := ((O2.down (by omega)).alloc (by omega) _).grown hgrow4 (by simp; omega) (fun j hj => (own3.lt j hj).1)
                  have I4 : InAt w4 gi t2 0 := (hgrow4.block gi (by have := I2.blk.lt; simp; omega) (fun e => no_i e.symm)).trans ((Below.heap_alloc _ _ _ I2.blk.lt).trans I2.blk)
                  refine MovesTo.append_ rfl rfl rfl hrun ?_
                  refine ⟨⟨(fun e => by cases e), (fun e => by cases e), (fun e => by cases e), (fun e => by cases e), fun _ => ⟨_, _, rfl⟩⟩, ⟨hC.ph.next (by decide) 3 10 rfl hL hp ⟨g4, cap4, upF_same _ _ _, own4, I4, B4, far gn hgnl nin no_n, far (w.heap.size + 1) hg2l ni2 no_2⟩, fun e => ?_⟩⟩
                  rw [updL_ne _ (by decide)] at e ⊢
                  exact hC.anc e
                · intro K' hK'; dsimp only at hK'; rw [g10]; go_big_quiet_op; go_big_quiet_on; (repeat (go_big_quiet_step (fail))); refine wpQuiet_nil ?_
                  refine ⟨_, _, _, _, _, _, rfl, .inl ⟨rfl, ?_, ?_⟩⟩
                  · intro LL W hL hA hC
                    have hp : ∀ m', 0 < 4 → [3, 6, 9, 10, 12][4 - 1]? = some m' → LL m' = true := fun m' _ h => by
                      simp at h; subst h; exact hA 10 (by kernel_rfl)
                    obtain ⟨g4, cap4, hg10, own4, I4, B4, hn4, h24⟩ : ∃ g4 cap, G 10 = .slice (some ⟨g4, 0, none⟩) (m + 1) cap ∧ W.ownsRow w.heap.size 30 2 (.slice (some ⟨g4, 0, none⟩) (m + 1) cap) (m + 1) (rowP out ++ [Value.int .u16 (q1 : Int), Value.int .u16 (q2 : Int)]) ∧ InAt W gi t2 0 ∧ Below w.heap.size wr W ∧ W.heap[gn]? = wr.heap[gn]? ∧ W.heap[w.heap.size + 1]? = wr.heap[w.heap.size + 1]? := hC.ph.at 4 12 rfl hL hp
                    have hg10' := hg10
                    rw [g10] at hg10'
                    injection hg10' with f1 f2 f3
                    injection f1 with f1
                    injection f1 with f1
                    subst f1 f3
                    have kn : Blk W gn 36 _ := hn4.trans Kn
                    have cn := kn.cell
                    have fn := kn.frozen
                    simp at cn
                    have kn5 := kn.set_ 2 (.slice (some ⟨gr, 0, none⟩) (m + 1) gc)
                    simp at kn5
                    have nr : gr ≠ gn := fun e => own_ne_blk own4 kn (by decide) (by rw [e]; rfl)
                    have own5 := own_at2 own4 (w' := W.setCell ⟨gn, 2, none⟩ (.slice (some ⟨gr, 0, none⟩) (m + 1) gc)) (fun j hj => Below.heap_setCell _ ⟨gn, 2, none⟩ _ j (by
                      simp only [Value.ownBlock, Option.some.injEq] at hj
                      simp; omega))
                    have I5 : InAt (W.setCell ⟨gn, 2, none⟩ (.slice (some ⟨gr, 0, none⟩) (m + 1) gc)) gi t2 0 := (Below.heap_setCell _ ⟨gn, 2, none⟩ _ gi (by simp; omega)).trans I4.blk
                    have B5 : Below w.heap.size wr (W.setCell ⟨gn, 2, none⟩ (.slice (some ⟨gr, 0, none⟩) (m + 1) gc)) := B4.setCell (p := ⟨gn, 2, none⟩) (by show w.heap.size ≤ gn; omega) _
                    refine ⟨?_⟩; go_simp; simp only [movesToUpon]
                    refine ⟨⟨(fun e => by cases e), (fun e => by cases e), (fun e => by cases e), (fun e => by cases e), (fun e => by cases e)⟩, ⟨hC.ph.next (by decide) 4 12 rfl hL hp ⟨gr, gc, by rw [upF_ne _ _ (by decide)]; exact g10, own5, I5, B5, kn5, (Below.heap_setCell _ ⟨gn, 2, none⟩ _ (w.heap.size + 1) (by simp; omega)).trans h24⟩, fun e => ?_⟩⟩
                    rw [updL_ne _ (by decide)]
                    exact hA 1 (by kernel_rfl)
                  · intro K' hK'; dsimp only at hK'; go_big_quiet_op; go_big_quiet_on; (repeat (go_big_quiet_step (fail))); refine wpQuiet_nil ?_
                    intro LL w9 hL hC
                    obtain ⟨g4, cap4, hg10, own4, I4, B4, kn4, h24⟩ : ∃ g4 cap, G 10 = .slice (some ⟨g4, 0, none⟩) (m + 1) cap ∧ w9.ownsRow w.heap.size 30 2 (.slice (some ⟨g4, 0, none⟩) (m + 1) cap) (m + 1) (rowP out ++ [Value.int .u16 (q1 : Int), Value.int .u16 (q2 : Int)]) ∧ InAt w9 gi t2 0 ∧ Below w.heap.size wr w9 ∧ Blk w9 gn 36 #[.int .u32 f, .int .u32 a, .slice (some ⟨g4, 0, none⟩) (m + 1) cap] ∧ w9.heap[w.heap.size + 1]? = wr.heap[w.heap.size + 1]? :=
                      hC.ph.all (fun y hy => hL y (by
                        simp at hy
                        rcases hy with rfl | rfl | rfl | rfl | rfl <;> decide)) (fun k G W h => by
                        unfold StOf at h
                        split at h
                        all_goals first | exact h.elim | simp)
                    have K29 : Blk w9 (w.heap.size + 1) 36 _ := h24.trans K2
                    have BE := B.trans B4
                    have hlf := leftAt_of I4
                    have hlr := leftAt_of I
                    clear hC hL hG g1 g3 g6 g9 g10 hne
                    go_wp2_with fail
                    go_roundw
                    case rel => exact ⟨t2, out ++ [((q1 : Int), q2)], m + 1, _, _, I4, by have := HZ2.out; omega, by have := HZ2.out; omega, HPR.out, by rw [List.length_append, HOM.out]; rfl, by have := HZ2.out; omega, kn4, by rw [← hrow2.out]; exact own4, K29, BE⟩
                    case measure => rw [hlf, hlr]; have := HZ2.out; have := HTZ.out; omega
    · obtain rfl : tz = 0 := by omega
      have hpe : parP (L.drop 8) = out := by
        rw [HPAR.out]
        have h0 : bytesI t = [] := List.length_eq_zero_iff.1 (by rw [bytesI_len, HTZ.out])
        rw [h0]
        simp [parP]
      have hom := HOM.out
      have kn := Kn.cell
      have k2 := K2.cell
      have f2 := K2.frozen
      simp at kn k2
      obtain ⟨w6, e6, K6, B6, hk6⟩ := three_set K2 rfl (.int .u32 f) (.int .u32 a) (.slice av m cv) w.heap.size (by omega)
      have no_2 := own_ne_blk own K2 (by decide)
      have own6 := own_at2 own (w' := w6) (fun j hj => hk6 j (fun e => no_2 (by rw [hj, e])))
      have k6 := K6.cell
      simp at k6
      have HPE := Lib.hid hpe
      have HOM2 := Lib.hid hom
      clear hpe hom
      go_wp2_with fail
      refine HLF.out.mono ?_
      rintro e' w' ⟨rfl, rfl⟩
      go_wp2_with fail
      refine bodyPost_ret (v := .tuple #[.agg #[.int .u32 f, .int .u32 a, .slice av m cv], .int .i64 0]) ?_ rfl ⟨_, rfl, ⟨_, _, by rw [HPE.out, HOM2.out]⟩, by rw [HPE.out, HOM2.out]; exact own6, B.trans B6⟩
      simp [results, Try.results22, go_sem, k6]
      try rfl
end Go.Proofs.Ytmmoejnjajmnpaa
