/- Package gaps: Clip, New, the first that is asked for. No condition but that the gaps stand. -/
import Derived.Test.YtonamlgipoannaaGaps4
namespace Go.Proofs.Ytonamlgipoannaa
open Go.RowKit BigFrame
attribute [local go_sem ↓] Go.wp_at_zero Go.wp_at_succ

theorem two_newW (w : World) (A B : Array Value) (t u : TypeId) : Blk ((w.alloc (.cells A t)).alloc (.cells B u)) w.heap.size t A ∧ Blk ((w.alloc (.cells A t)).alloc (.cells B u)) (w.heap.size + 1) u B ∧ Below w.heap.size w ((w.alloc (.cells A t)).alloc (.cells B u)) :=
  ⟨(Blk.new w t A).alloc _, Blk.new1 w _ u B, ((Below.refl _ w).alloc (Nat.le_refl _) _).alloc (by simp) _⟩
set_option maxRecDepth 8000 in
set_option maxHeartbeats 4000000 in
theorem gaps_Clip (a b c d A B C D : Int) (hA : clipI a 1 1024 = A) (hB : clipI b 1 100 = B) (hC : clipI c 0 1048576 = C) (hD : clipI d 1 1048576 = D) (w : World) :
    Calls Try.prog 31 #[.agg #[.int .i64 a, .int .i64 b, .int .i64 c, .int .i64 d]] w fun e w' => e = .returned (.agg #[.int .i64 A, .int .i64 B, .int .i64 C, .int .i64 D]) ∧ Below w.heap.size w w' := by
  have H1 := Lib.hid (fun W => gaps_clip a _ _ A hA W)
  have H2 := Lib.hid (fun W => gaps_clip b _ _ B hB W)
  have H3 := Lib.hid (fun W => gaps_clip c _ _ C hC W)
  have H4 := Lib.hid (fun W => gaps_clip d _ _ D hD W)
  clear hA hB hC hD
  obtain ⟨k4, k5, B1⟩ := two_newW w #[.int .i64 a, .int .i64 b, .int .i64 c, .int .i64 d] #[.int .i64 0, .int .i64 0, .int .i64 0, .int .i64 0] 57 57
  go_enter Try.func31, Try.ntmps31
  go_upto_region 1 with fail
  generalize ((w.alloc (.cells #[.int .i64 a, .int .i64 b, .int .i64 c, .int .i64 d] 57)).alloc (.cells #[.int .i64 0, .int .i64 0, .int .i64 0, .int .i64 0] 57)) = w1 at *
  have E0 := fun (g : Ext w1) => g.cell (k4.cell 0) k4.lt
  have E1 := fun (g : Ext w1) => g.cell (k4.cell 1) k4.lt
  have E2 := fun (g : Ext w1) => g.cell (k4.cell 2) k4.lt
  have E3 := fun (g : Ext w1) => g.cell (k4.cell 3) k4.lt
  simp at E0 E1 E2 E3
  refine wp_region_ext_tail 12 (by kernel_rfl) (by kernel_rfl) ?_; simp only [List.take_succ_cons, List.take_zero, List.drop_succ_cons, List.drop_zero]; (repeat (go_big_quiet_step ((first | (go_at_call 59; with_reducible exact calls_ext_same _ (H1.out _)) | (go_at_call 59; with_reducible exact calls_ext_same _ (H2.out _)) | (go_at_call 59; with_reducible exact calls_ext_same _ (H3.out _)) | (go_at_call 59; with_reducible exact calls_ext_same _ (H4.out _)))))); refine wpQuiet_nil ?_; rintro _ ⟨gq, rfl⟩
  have p5 := k5.below gq.below k5.lt
  have B2 := B1.trans (gq.below.mono B1.size)
  generalize gq.world = w2 at p5 B2 ⊢
  clear E0 E1 E2 E3 k4 k5
  obtain ⟨w5, e5, K5, B5, hk5⟩ := four_set p5 rfl (.int .i64 A) (.int .i64 B) (.int .i64 C) (.int .i64 D) w.heap.size (by omega)
  have c2 := p5.cell
  have f2 := p5.frozen
  have c5 := K5.cell
  simp at c2 c5
  go_wp2_with fail
  refine bodyPost_ret (v := .agg #[.int .i64 A, .int .i64 B, .int .i64 C, .int .i64 D]) ?_ rfl ⟨rfl, B2.trans B5⟩
  simp [results, Try.results31, go_sem, c5]
  try rfl
set_option maxRecDepth 8000 in
set_option maxHeartbeats 4000000 in
theorem gaps_New (a b c d A B C D : Int) (hA : clipI a 1 1024 = A) (hB : clipI b 1 100 = B) (hC : clipI c 0 1048576 = C) (hD : clipI d 1 1048576 = D) (w : World) :
    Calls Try.prog 24 #[.agg #[.int .i64 a, .int .i64 b, .int .i64 c, .int .i64 d]] w fun e w' => ∃ gc, e = .returned (.pointer (some ⟨gc, 0, none⟩)) ∧ GV w' gc A B C D false 0 0 [] (.slice none 0 0) ∧ w.heap.size ≤ gc ∧ Below w.heap.size w w' := by
  have HC := Lib.hid (fun W => gaps_Clip a b c d A B C D hA hB hC hD W)
  clear hA hB hC hD
  have k4 := Blk.new w 57 #[.int .i64 a, .int .i64 b, .int .i64 c, .int .i64 d]
  have B1 : Below w.heap.size w (w.alloc (.cells #[.int .i64 a, .int .i64 b, .int .i64 c, .int .i64 d] 57)) := (Below.refl _ w).alloc (Nat.le_refl _) _
  go_enter Try.func24, Try.ntmps24
  go_upto_region 1 with fail
  generalize w.alloc (.cells #[.int .i64 a, .int .i64 b, .int .i64 c, .int .i64 d] 57) = w1 at *
  have c4 := k4.cell
  simp at c4
  go_wp2_with fail
  refine (HC.out w1).mono ?_
  rintro e w2 ⟨rfl, B2⟩
  have BB := below_then B1 B2 (Nat.le_refl _)
  have hsz := BB.size
  have K := Blk.new w2 110 #[.int .i64 A, .int .i64 B, .int .i64 C, .int .i64 D, .slice none 0 0, .bool false, .int .i64 0, .int .i64 0]
  have B3 := BB.alloc hsz (.cells #[.int .i64 A, .int .i64 B, .int .i64 C, .int .i64 D, .slice none 0 0, .bool false, .int .i64 0, .int .i64 0] 110)
  go_wp2_with fail
  go_ret
  exact ⟨_, rfl, ⟨K, ⟨rfl, .inl ⟨rfl, rfl⟩⟩, fun e => by cases e⟩, hsz, B3⟩
theorem gaps_next1 (r s : WR) (w : World) :
    Calls Try.prog 57 #[r.val, s.val] w fun e w' => e = .returned (.int .i64 (cmpI r.at_ s.at_)) ∧ Below w.heap.size w w' := by
  have HC := Lib.hid (fun W => cmp_Compare r.at_ s.at_ W)
  obtain ⟨k4, k5, B1⟩ := two_newW w #[.int .i64 r.n, .int .i64 r.at_, .int .i64 r.t, .int .i64 r.w] #[.int .i64 s.n, .int .i64 s.at_, .int .i64 s.t, .int .i64 s.w] 112 112
  unfold WR.val
  go_enter Try.func57, Try.ntmps57
  go_upto_region 1 with fail
  generalize ((w.alloc (.cells #[.int .i64 r.n, .int .i64 r.at_, .int .i64 r.t, .int .i64 r.w] 112)).alloc (.cells #[.int .i64 s.n, .int .i64 s.at_, .int .i64 s.t, .int .i64 s.w] 112)) = w1 at *
  have c4 := k4.cell
  have c5 := k5.cell
  simp at c4 c5
  go_wp2_with fail
  refine (HC.out _).mono ?_
  rintro e w' ⟨rfl, rfl⟩
  go_wp2_with fail
  go_ret
  exact ⟨rfl, B1⟩
set_option maxRecDepth 8000 in
set_option maxHeartbeats 4000000 in
theorem gaps_min (l : List WR) (v : Value) (w : World) (h : w.ownsRow 0 112 4 v l.length (rowW l)) (hn0 : 0 < l.length) (hl : l.length ≤ 100000) :
    Calls Try.prog 56 #[v, .func (.func 57) #[] #[]] w fun e w' => ∃ r : WR, e = .returned r.val ∧ r ∈ l ∧ (∀ s ∈ l, r.at_ ≤ s.at_) ∧ Below w.heap.size w w' := by
  obtain ⟨va, vc, rfl, hc⟩ := own_want h
  obtain ⟨g, rfl, hg, hcell⟩ := hc hn0
  obtain ⟨n, hn⟩ : ∃ n, l.length = n := ⟨_, rfl⟩
  rw [hn] at hl hn0 ⊢
  have HN := Lib.hid hn
  have HC := Lib.hid hcell
  obtain ⟨r0, hr0⟩ : ∃ r, l[0]? = some r := ⟨_, List.getElem?_eq_getElem (by omega)⟩
  have HR0 := Lib.hid hr0
  obtain ⟨e0, e1, e2, e3⟩ := hcell 0 r0 hr0
  simp only [Nat.zero_mul, Nat.zero_add] at e0 e1 e2 e3
  obtain ⟨k4, k5, B1⟩ := two_newW w #[.int .i64 0, .int .i64 0, .int .i64 0, .int .i64 0] #[.int .i64 r0.n, .int .i64 r0.at_, .int .i64 r0.t, .int .i64 r0.w] 112 112
  have p0 : (1 : Int) ≤ (n : Int) := by omega
  have p1 : (0 : Int) < (n : Int) := by omega
  have hal : ∀ j, (w.alloc (.cells #[.int .i64 0, .int .i64 0, .int .i64 0, .int .i64 0] 112)).cell? ⟨g, j, none⟩ = w.cell? ⟨g, j, none⟩ := fun j => ((Below.refl _ w).alloc (Nat.le_refl _) _).cell (p := ⟨g, j, none⟩) hg
  have f0 := (hal 0).trans e0
  have f1 := (hal 1).trans e1
  have f2 := (hal 2).trans e2
  have f3 := (hal 3).trans e3
  clear h hc hcell hr0 hn
  go_enter Try.func56, Try.ntmps56
  go_upto_region 4 with fail
  generalize ((w.alloc (.cells #[.int .i64 0, .int .i64 0, .int .i64 0, .int .i64 0] 112)).alloc (.cells #[.int .i64 r0.n, .int .i64 r0.at_, .int .i64 r0.t, .int .i64 r0.w] 112)) = w1 at *
  obtain ⟨G4, hG4⟩ : ∃ x, w.heap.size = x := ⟨_, rfl⟩
  rw [hG4] at k4 k5 B1 hg ⊢
  have HG4 := Lib.hid hG4
  clear f0 f1 f2 f3 hal hG4 e0 e1 e2 e3
  go_wp2_with fail
  go_loopw [6] (fun x6 wr => ∃ (k : Nat) (r : WR), 1 ≤ k ∧ k ≤ n ∧ x6 = .int .i64 k ∧ r ∈ l ∧ (∀ i s, i < k → l[i]? = some s → r.at_ ≤ s.at_) ∧ Blk wr (G4 + 1) 112 #[.int .i64 r.n, .int .i64 r.at_, .int .i64 r.t, .int .i64 r.w] ∧ Blk wr G4 112 #[.int .i64 0, .int .i64 0, .int .i64 0, .int .i64 0] ∧ Below G4 w wr) (fun x6 _ => n - (intOf x6).toNat)
  case atStart => exact ⟨1, r0, by omega, by omega, rfl, List.mem_of_getElem? HR0.out, fun i s hi hs => by
    obtain rfl : i = 0 := by omega
    rw [HR0.out] at hs
    injection hs with hs
    subst hs
    omega, k5, k4, B1⟩
  case round =>
    obtain ⟨k, r, hk1, hk, rfl, hrl, hmin, K5, K4, Bw⟩ := hrel
    have HMIN := Lib.hid hmin
    have hsz : G4 ≤ wr.heap.size := by have := Bw.size; have := HG4.out; omega
    by_cases hlt : k < n
    · have hql : k < l.length := by have := HN.out; omega
      obtain ⟨s, hss⟩ : ∃ s, l[k]? = some s := ⟨_, List.getElem?_eq_getElem hql⟩
      have HSS := Lib.hid hss
      obtain ⟨e0, e1, e2, e3⟩ := HC.out k s hss
      have hgG : g < G4 := by omega
      have d0 := fun (gx : Ext wr) => gx.cell ((Bw.cell (p := ⟨g, k * 4, none⟩) hgG).trans e0) (by simp; omega)
      have d1 := fun (gx : Ext wr) => gx.cell ((Bw.cell (p := ⟨g, k * 4 + 1, none⟩) hgG).trans e1) (by simp; omega)
      have d2 := fun (gx : Ext wr) => gx.cell ((Bw.cell (p := ⟨g, k * 4 + 2, none⟩) hgG).trans e2) (by simp; omega)
      have d3 := fun (gx : Ext wr) => gx.cell ((Bw.cell (p := ⟨g, k * 4 + 3, none⟩) hgG).trans e3) (by simp; omega)
      have m0 := fun (gx : Ext wr) => gx.cell (K5.cell 0) K5.lt
      have m1 := fun (gx : Ext wr) => gx.cell (K5.cell 1) K5.lt
      have m2 := fun (gx : Ext wr) => gx.cell (K5.cell 2) K5.lt
      have m3 := fun (gx : Ext wr) => gx.cell (K5.cell 3) K5.lt
      simp at m0 m1 m2 m3
      have q0 : (0 : Int) ≤ (k : Int) := by omega
      have q1 : (k : Int) < (n : Int) := by omega
      have wk : IntKind.i64.wrap ((k : Int) + 1) = ((k + 1 : Nat) : Int) := by rw [IntWalk.i64_in _ (by omega)]; omega
      have HX := Lib.hid (fun W => gaps_next1 s r W)
      unfold WR.val at HX
      clear hmin hss hql e0 e1 e2 e3
      go_upto_region 7 with fail
      refine wp_region_ext (by kernel_rfl) (by kernel_rfl) ?_; (repeat (go_big_quiet_step ((first | (go_at_call 57; with_reducible exact calls_ext _ (HX.out _)))))); refine wpQuiet_nil ?_; rintro _ ⟨gq, rfl⟩
      have p5 := K5.below gq.below K5.lt
      have p4 := K4.below gq.below K4.lt
      have B2 := Bw.trans (gq.below.mono hsz)
      have c0 := d0 gq
      have c1 := d1 gq
      have c2 := d2 gq
      have c3 := d3 gq
      generalize gq.world = w2 at p5 p4 B2 c0 c1 c2 c3 ⊢
      clear d0 d1 d2 d3 m0 m1 m2 m3 K5 K4
      by_cases hcs : s.at_ < r.at_
      · have h1 : cmpI s.at_ r.at_ < 0 := by unfold cmpI; rw [if_pos hcs]; omega
        obtain ⟨w5, e5, K5, B5, hk5⟩ := four_set p5 rfl (.int .i64 s.n) (.int .i64 s.at_) (.int .i64 s.t) (.int .i64 s.w) G4 (by omega)
        have f5 := p5.frozen
        have c5 := p5.cell
        simp at c5
        go_wp2_with fail
        go_roundw
        case rel =>
          refine ⟨k + 1, s, by omega, by omega, by go_num, List.mem_of_getElem? HSS.out, fun i s' hi hs' => ?_, K5, (hk5 G4 (by omega)).trans p4, B2.trans B5⟩
          rcases Nat.lt_or_ge i k with h2 | h2
          · have := HMIN.out i s' h2 hs'
            omega
          · obtain rfl : i = k := by omega
            rw [HSS.out] at hs'
            injection hs' with hs'
            subst hs'
            omega
        case measure => simp only [intOf]; omega
      · have h1 : ¬ cmpI s.at_ r.at_ < 0 := by unfold cmpI; rw [if_neg hcs]; split <;> omega
        go_wp2_with fail
        go_roundw
        case rel =>
          refine ⟨k + 1, r, by omega, by omega, by go_num, hrl, fun i s' hi hs' => ?_, p5, p4, B2⟩
          rcases Nat.lt_or_ge i k with h2 | h2
          · exact HMIN.out i s' h2 hs'
          · obtain rfl : i = k := by omega
            rw [HSS.out] at hs'
            injection hs' with hs'
            subst hs'
            omega
        case measure => simp only [intOf]; omega
    · obtain rfl : k = n := by omega
      have q1 : ¬ (k : Int) < (k : Int) := by omega
      obtain ⟨w5, e5, K5', B5, hk5⟩ := four_set K4 rfl (.int .i64 r.n) (.int .i64 r.at_) (.int .i64 r.t) (.int .i64 r.w) G4 (Nat.le_refl _)
      have f4 := K4.frozen
      have c4 := K4.cell
      have c5 := K5.cell
      have c6 := K5'.cell
      simp at c4 c5 c6
      clear hmin
      go_wp2_with fail
      refine bodyPost_ret (v := r.val) ?_ rfl ⟨r, rfl, hrl, fun s hs => ?_, by rw [HG4.out]; exact Bw.trans B5⟩
      · simp [results, Try.results56, go_sem, c6, WR.val]
        try rfl
      · obtain ⟨i, hi, rfl⟩ := List.mem_iff_getElem.1 hs
        exact HMIN.out i _ (by have := HN.out; omega) (List.getElem?_eq_getElem hi)
set_option maxRecDepth 8000 in
set_option maxHeartbeats 4000000 in
theorem gaps_NextYes (g : Nat) (a b c d : Int) (y : Bool) (e' u : Int) (l : List WR) (v : Value) (w : World) (h : GV w g a b c d y e' u l v) (hl : l.length ≤ 100000) (hp : 0 < l.length) :
    Calls Try.prog 28 #[.pointer (some ⟨g, 0, none⟩)] w fun e w' => ∃ m : Int, e = .returned (.tuple #[.int .i64 m, .bool true]) ∧ (∃ r ∈ l, r.at_ = m) ∧ (∀ s ∈ l, m ≤ s.at_) ∧ Below w.heap.size w w' := by
  have HS := Lib.hid (gaps_min l v w h.own hp hl)
  obtain ⟨va, vc, rfl, -⟩ := own_want h.own
  have c1 := h.blk.cell
  simp at c1
  obtain ⟨n, hn⟩ : ∃ n, l.length = n := ⟨_, rfl⟩
  rw [hn] at hp c1 hl HS
  have p1 : ((n : Int) == 0) = false := by simp; omega
  have p2 : ¬ (n : Int) = 0 := by omega
  have p3 : ¬ n = 0 := by omega
  clear h hn
  go_enter Try.func28, Try.ntmps28
  go_wp2_with fail
  refine HS.out.mono ?_
  rintro e w2 ⟨r, rfl, hr, hm, B2⟩
  have hfd : ∀ W : World, (Instr.field 112 (.agg #[.int .i64 r.n, .int .i64 r.at_, .int .i64 r.t, .int .i64 r.w]) 1).run Try.prog W = .ok (.int .i64 r.at_) W := fun _ => by kernel_rfl
  unfold WR.val
  go_wp2_with fail
  refine bodyPost_ret (v := .tuple #[.int .i64 r.at_, .bool true]) ?_ rfl ⟨r.at_, rfl, ⟨r, hr, rfl⟩, hm, B2⟩
  simp [results, Try.results28, go_sem]
set_option maxRecDepth 8000 in
set_option maxHeartbeats 4000000 in
theorem gaps_NextNo (g : Nat) (a b c d : Int) (y : Bool) (e' u : Int) (v : Value) (w : World) (h : GV w g a b c d y e' u [] v) :
    Calls Try.prog 28 #[.pointer (some ⟨g, 0, none⟩)] w fun e w' => e = .returned (.tuple #[.int .i64 0, .bool false]) ∧ w = w' := by
  obtain ⟨va, vc, rfl, -⟩ := own_want h.own
  have c1 := h.blk.cell
  simp at c1
  clear h
  go_enter Try.func28, Try.ntmps28
  go_wp2_with fail
  refine bodyPost_ret (v := .tuple #[.int .i64 0, .bool false]) ?_ rfl ⟨rfl, rfl⟩
  simp [results, Try.results28, go_sem]
set_option maxRecDepth 8000 in
set_option maxHeartbeats 4000000 in
theorem gaps_Forget (g : Nat) (a b c d : Int) (y : Bool) (e' u : Int) (l : List WR) (v : Value) (q q' : Int) (hq : clipI q (-1099511627776) 1099511627776 = q') (w : World) (h : GV w g a b c d y e' u l v) (hr : RisingW l) (hl : l.length ≤ 100000) :
    Calls Try.prog 29 #[.pointer (some ⟨g, 0, none⟩), .int .i64 q] w fun e w' => ∃ k : Nat, e = .returned (.int .i64 (k : Int)) ∧ UptoW l q' k ∧ ∃ v', GV w' g a b c d y e' u (l.drop k) v' ∧ Moved w w' g v v' := by
  have HQ := Lib.hid (fun W => gaps_number q q' hq W)
  have HAT := Lib.hid (gaps_find g a b c d y e' u l v q' w h hr hl)
  have HR2 := Lib.hid hr
  have HD := Lib.hid (fun (k : Nat) (W : World) (hk : k ≤ l.length) (hb : Below w.heap.size w W) => want_cut l v W (own_at h.own (w' := W) (fun j hj => hb.block j (h.own.lt j hj).2)) hl 0 k (Nat.zero_le _) hk (fun _ => rfl) (l.drop k) rfl)
  obtain ⟨va, vc, rfl, -⟩ := own_want h.own
  obtain ⟨n, hn⟩ : ∃ n, l.length = n := ⟨_, rfl⟩
  have HN := Lib.hid hn
  rw [hn] at h HD
  rw [hn]
  have H0 := h
  clear h hr hn hq
  go_enter Try.func29, Try.ntmps29
  go_wp2_with (go_at_call 52; ((with_reducible refine (HQ.out _).mono ?_); rintro e w' ⟨rfl, rfl⟩))
  refine HAT.out.mono ?_
  rintro e w2 ⟨p, fd, rfl, hf, hp, B2⟩
  have HU := Lib.hid (uptoW_of HR2.out hp hf)
  have hpl := hp.le
  rw [HN.out] at hpl
  have hn5 : n ≤ 100000 := by have := HN.out; omega
  have H2 := H0.below B2
  have c2 := H2.blk.cell
  have gne := H2.ne
  simp at c2
  have wp : IntKind.i64.wrap ((p : Int) + 1) = ((p + 1 : Nat) : Int) := by rw [IntWalk.i64_in _ (by omega)]; omega
  cases fd with
  | false =>
    have HU2 := Lib.hid (show UptoW l q' p from HU.out)
    clear hf hp HU wp
    go_wp2_with fail
    refine (HD.out p w2 hpl B2).mono ?_
    rintro e w3 ⟨v3, rfl, ⟨a3, n3, c3, rfl⟩, own3, ho3, hk3, B3⟩
    obtain ⟨H4, M4⟩ := H2.store (l2 := l.drop p) B3 (fun k _ hne => hk3 k hne) own3 (fun k hk => .inl (by rw [← ho3]; exact hk))
    have k3 : Blk w3 g 110 _ := (hk3 g gne).trans H2.blk
    have d3 := k3.cell
    have f3 := k3.frozen
    simp at d3
    have MM := (Moved.of_below (g := g) (v := .slice va n vc) B2).trans M4
    clear c2 own3
    go_wp2_with fail
    go_ret
    exact ⟨p, rfl, HU2.out, _, H4, MM⟩
  | true =>
    have HU2 := Lib.hid (show UptoW l q' (p + 1) from HU.out)
    have hpl2 := HU2.out.le
    rw [HN.out] at hpl2
    clear hf hp HU
    go_wp2_with fail
    refine (HD.out (p + 1) w2 hpl2 B2).mono ?_
    rintro e w3 ⟨v3, rfl, ⟨a3, n3, c3, rfl⟩, own3, ho3, hk3, B3⟩
    obtain ⟨H4, M4⟩ := H2.store (l2 := l.drop (p + 1)) B3 (fun k _ hne => hk3 k hne) own3 (fun k hk => .inl (by rw [← ho3]; exact hk))
    have k3 : Blk w3 g 110 _ := (hk3 g gne).trans H2.blk
    have d3 := k3.cell
    have f3 := k3.frozen
    simp at d3
    have MM := (Moved.of_below (g := g) (v := .slice va n vc) B2).trans M4
    clear c2 own3
    go_wp2_with fail
    go_ret
    exact ⟨p + 1, by go_num, HU2.out, _, H4, MM⟩
end Go.Proofs.Ytonamlgipoannaa
