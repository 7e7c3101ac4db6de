/- The statement LifeTimes, walked: it returns true. No condition but that the two tables stand. -/
import Derived.Test.YthngobikokhdlaaDoorLifePlays
import Derived.Deep.CutBlock
namespace Go.Proofs.YthngobikokhdlaaDoor
open Go.RowKit BigFrame
attribute [local go_sem ↓] Go.wp_at_zero Go.wp_at_succ
attribute [local go_sem] i64_and63 i64_and255

theorem rep_is (x : L3) (k : C4) (f m : Int) (hx : KnownL x) (hk : CountC k) (h0 : 0 ≤ m) (h1 : m ≤ 1099511627776) : reportL x k f m = repL x k f m := by
  unfold reportL
  rw [knownL_id x hx, clipC_id k hk]
  have : tickI m = m := by unfold tickI clipI; omega
  rw [this]
theorem tick_is (x : L3) (k : C4) (m : Int) (hx : KnownL x) (hk : CountC k) (h0 : 0 ≤ m) (h1 : m ≤ 1099511627776) : tickL x k m = (if lateL x k m = true then ⟨3, x.h, 0⟩ else x) ∧ lateL (knownL x) (clipC k) (tickI m) = lateL x k m := by
  unfold tickL
  rw [knownL_id x hx, clipC_id k hk]
  have : tickI m = m := by unfold tickI clipI; omega
  rw [this]
  exact ⟨rfl, rfl⟩

/-- What stands between two rounds. -/
def TimesI (w wx : World) (g5 g6 : Nat) (K : C4) (x : L3) : Prop :=
  Blk wx g5 23 #[.int .i64 K.t, .int .i64 K.lo, .int .i64 K.hi, .int .i64 K.st] ∧ Blk wx g6 28 #[.int .i64 x.s, .int .i64 x.h, .int .i64 x.k] ∧ w.heap.size ≤ g5 ∧ w.heap.size ≤ g6 ∧ g5 ≠ g6 ∧ Below w.heap.size w wx
theorem TimesI.below {w wx wy : World} {g5 g6 : Nat} {K : C4} {x : L3} (h : TimesI w wx g5 g6 K x) (hb : Below wx.heap.size wx wy) : TimesI w wy g5 g6 K x :=
  ⟨h.1.below hb h.1.lt, h.2.1.below hb h.2.1.lt, h.2.2.1, h.2.2.2.1, h.2.2.2.2.1, h.2.2.2.2.2.trans (hb.mono h.2.2.2.2.2.size)⟩
theorem TimesI.set6 {w wx : World} {g5 g6 : Nat} {K : C4} {x : L3} (h : TimesI w wx g5 g6 K x) (y : L3) :
    ∃ w2, ((wx.setCell ⟨g6, 0, none⟩ (.int .i64 y.s)).setCell ⟨g6, 1, none⟩ (.int .i64 y.h)).setCell ⟨g6, 2, none⟩ (.int .i64 y.k) = w2 ∧ TimesI w w2 g5 g6 K y ∧ (∀ k, k ≠ g6 → w2.heap[k]? = wx.heap[k]?) := by
  obtain ⟨q5, q6, l5, l6, l56, B⟩ := h
  obtain ⟨w2, e2, k6, B2, hk2⟩ := three_set q6 rfl (.int .i64 y.s) (.int .i64 y.h) (.int .i64 y.k) w.heap.size l6
  exact ⟨w2, e2, ⟨q5.kept hk2 l56, k6, l5, l6, l56, B.trans B2⟩, hk2⟩
theorem sends_lit (x : L3) (hx : KnownL x) (b : Bool) (hb : (x.s != 3) = b) (W : World) : Calls Tryd.prog 10 #[.agg #[.int .i64 x.s, .int .i64 x.h, .int .i64 x.k]] W fun e w' => e = .returned (.bool b) ∧ Below W.heap.size W w' := by
  have := life_Sends x W
  rw [knownL_id x hx, hb] at this
  exact this

theorem times_facts (r y : L3) (K : C4) (f m row row' : Int) (hr : KnownL r) (hK : CountC K) (hrow : r.s ≠ 3 → row = r.k) (hy : repL r K f m = y) (hrow' : row' = if f ≤ K.lo then 0 else if K.hi < f then row + 1 else row) :
    (r.s = 3 → y.s ≠ 3 → ¬ K.lo < f ∧ y.s = 0) ∧ (r.s ≠ 3 → y.s = 3 → ¬ f ≤ K.hi ∧ ¬ row' < K.st) ∧ (r.s = 0 → y.s = 1 → ¬ K.lo < f) ∧ (y.s ≠ 3 → row' = y.k) ∧ y.h = m := by
  subst hy hrow'
  obtain ⟨s, h, k⟩ := r
  obtain ⟨t, lo, hi, st⟩ := K
  unfold KnownL at hr
  unfold CountC at hK
  simp only at hr hK hrow ⊢
  obtain ⟨hs, _, _, hk⟩ := hr
  unfold repL
  simp only
  by_cases h1 : f ≤ lo
  · simp only [h1, if_true]
    by_cases h3 : s = 3
    · simp only [h3, if_true]
      simp
      omega
    · simp only [h3, if_false]
      simp
      omega
  · simp only [h1, if_false]
    by_cases h2 : hi < f
    · simp only [h2, if_true]
      by_cases h3 : s = 3
      · simp only [h3, if_true]
        simp
      · simp only [h3, if_false]
        have := hrow h3
        by_cases h4 : st - 1 ≤ k
        · simp only [h4, if_true]
          simp
          omega
        · simp only [h4, if_false]
          by_cases h5 : s = 1
          · simp [h5]
            omega
          · simp [h5]
            omega
    · simp only [h2, if_false]
      simp
      omega

theorem tick_facts (x r : L3) (K : C4) (m : Int) (was isb ns le : Bool) (hx : KnownL x) (hr : (if lateL x K m = true then (⟨3, x.h, 0⟩ : L3) else x) = r) (h1 : (x.s != 3) = was) (h2 : isb = lateL x K m) (h3 : (r.s != 3) = ns) (h4 : decide (m - x.h ≤ K.t) = le) :
    (was = false → ns = false) ∧ (was = true → ns = le) ∧ (isb = (was && !ns)) ∧ r.h = x.h ∧ (r.s ≠ 3 → r = x) := by
  subst hr h1 h2 h3 h4
  unfold lateL
  by_cases a : x.s = 3
  · simp [a]
  · by_cases b : K.t < m - x.h
    · have : ¬ m - x.h ≤ K.t := by omega
      simp [a, b, this]
    · have : m - x.h ≤ K.t := by omega
      simp [a, b, this]

set_option maxRecDepth 8000 in
set_option maxHeartbeats 20000000 in
theorem LifeTimes_walk (a0x0 : Int) (a0x1 : Int) (a0x2 : Int) (a0x3 : Int) (a1a : Option Addr) (a1l a1c : Nat) (a1e0 : Nat → Bool) (a1e1 : Nat → Int) (a1e2 : Nat → Int) (w : World) (hT : Tabs w) (_w0 : (Lit.int .i64 a0x0).wf = true) (_w1 : (Lit.int .i64 a0x1).wf = true) (_w2 : (Lit.int .i64 a0x2).wf = true) (_w3 : (Lit.int .i64 a0x3).wf = true) (a1S : SliceOf w a1a a1l a1c 3 (fun i => [.bool (a1e0 i), .int .i64 (a1e1 i), .int .i64 (a1e2 i)])) (_a1F0 : ∀ i, i < a1l → (Lit.int .i64 (a1e1 i)).wf = true) (_a1F1 : ∀ i, i < a1l → (Lit.int .i64 (a1e2 i)).wf = true) :
    Calls Tryd.prog 3 #[.agg #[.int .i64 a0x0, .int .i64 a0x1, .int .i64 a0x2, .int .i64 a0x3], .slice a1a a1l a1c] w fun e w' => e = .returned (.bool true) ∧ Below w.heap.size w w' := by
  clear _w0 _w1 _w2 _w3 _a1F0 _a1F1
  have hl2 := a1S.size_le
  have HS := Lib.hid a1S
  have HTB := Lib.hid hT
  have hsz := hT.1
  clear a1S
  obtain ⟨kc, hkc⟩ : ∃ kc, clipC ⟨a0x0, a0x1, a0x2, a0x3⟩ = kc := ⟨_, rfl⟩
  have hcc : CountC kc := by rw [← hkc]; exact clipC_count _
  have HC := Lib.hid (fun W => ref17_Clip ⟨a0x0, a0x1, a0x2, a0x3⟩ kc hkc W)
  clear hkc
  obtain ⟨kt, klo, khi, kst⟩ := kc
  obtain ⟨T, hTT⟩ : ∃ T, 1 + kt % 64 = T := ⟨_, rfl⟩
  have hK : CountC ⟨T, klo, khi, kst⟩ := by unfold CountC at *; simp only at *; omega
  have wT : IntKind.i64.wrap (1 + kt % 64) = T := by rw [IntWalk.i64_in _ (by omega)]; exact hTT
  clear hTT hcc
  have HK := Lib.hid hK
  unfold CountC at hK
  simp only at hK
  obtain ⟨q1, q2, q3, q4, q5, q6, q7⟩ := hK
  have HN := Lib.hid (fun W => life_New 0 0 (by decide) W)
  have hT1 := hT.below ((Below.refl w.heap.size w).alloc (Nat.le_refl _) (.cells #[.int .i64 a0x0, .int .i64 a0x1, .int .i64 a0x2, .int .i64 a0x3] 23)) hsz
  clear hT
  go_enter Tryd.func3, Tryd.ntmps3
  go_wp2_with fail
  refine (law17_awake _ hT1).mono ?_
  rintro e w1 ⟨rfl, hb1⟩
  clear hT1
  have k2 := (Blk.new w 23 #[.int .i64 a0x0, .int .i64 a0x1, .int .i64 a0x2, .int .i64 a0x3]).below hb1 (by simp)
  have B1 : Below w.heap.size w w1 := ((Below.refl _ w).alloc (Nat.le_refl _) _).trans (hb1.mono (by simp))
  clear hb1
  have c2 := k2.cell
  simp at c2
  go_wp2_with fail
  refine (HC.out _).mono ?_
  rintro e w2 ⟨rfl, hb2⟩
  have B2 := B1.trans (hb2.mono B1.size)
  clear hb2 k2 c2 B1
  go_upto_region 4 with fail
  have k5 := Blk.new w2 23 #[.int .i64 kt, .int .i64 klo, .int .i64 khi, .int .i64 kst]
  have hg5 : w.heap.size ≤ w2.heap.size := B2.size
  have B3 := B2.alloc B2.size (.cells #[.int .i64 kt, .int .i64 klo, .int .i64 khi, .int .i64 kst] 23)
  generalize hx5 : w2.heap.size = g5 at *
  generalize (w2.alloc (.cells #[.int .i64 kt, .int .i64 klo, .int .i64 khi, .int .i64 kst] 23)) = w3 at *
  clear hx5 B2
  have c5 := k5.cell
  have f5 := k5.frozen
  simp at c5
  go_upto_region 5 with fail
  have k5 := k5.set_ 0 (.int .i64 T)
  simp at k5
  have B4 := B3.setCell (p := ⟨g5, 0, none⟩) hg5 (.int .i64 T)
  generalize (World.setCell w3 ⟨g5, 0, none⟩ (.int .i64 T)) = w4 at k5 B4 ⊢
  clear c5 f5 B3
  go_wp2_with fail
  refine (HN.out _).mono ?_
  rintro e w5 ⟨rfl, hb5⟩
  have k5 := k5.below hb5 k5.lt
  have B5 := B4.trans (hb5.mono B4.size)
  clear hb5 B4
  have hTI : TimesI w (w5.alloc (.cells #[.int .i64 0, .int .i64 0, .int .i64 0] 28)) g5 w5.heap.size ⟨T, klo, khi, kst⟩ ⟨0, 0, 0⟩ := ⟨k5.alloc _, Blk.new _ _ _, hg5, B5.size, by have := k5.lt; omega, B5.alloc B5.size _⟩
  go_upto_region 6 with fail
  generalize w5.heap.size = g6 at *
  generalize (w5.alloc (.cells #[.int .i64 0, .int .i64 0, .int .i64 0] 28)) = w6 at *
  clear k5 B5 hg5
  go_wp2_with fail
  go_loopw [7, 8, 9, 10] (fun s7 s8 s9 s10 wr => ∃ (k : Nat) (x : L3) (nw row : Int), k ≤ a1l ∧ k ≤ 60 ∧ s10 = .int .i64 k ∧ s7 = .int .i64 nw ∧ s8 = .int .i64 x.h ∧ s9 = .int .i64 row ∧ nw ≤ k * 64 ∧ x.h ≤ nw ∧ 0 ≤ row ∧ row ≤ k ∧ KnownL x ∧ (x.s ≠ 3 → row = x.k) ∧ TimesI w wr g5 g6 ⟨T, klo, khi, kst⟩ x)
    (fun _ _ _ i _ => a1l - (intOf i).toNat)
  case atStart => exact ⟨0, ⟨0, 0, 0⟩, 0, 0, Nat.zero_le _, Nat.zero_le _, rfl, rfl, rfl, rfl, by omega, by simp, by omega, by omega, by unfold KnownL; simp, fun _ => rfl, hTI⟩
  case round =>
    clear hTI
    obtain ⟨k, x, nw, row, hk, hk6, rfl, rfl, rfl, rfl, n2, n3, r1, r2, hx, hrow, TI⟩ := hrel
    by_cases hgo : k < a1l ∧ k < 60
    · obtain ⟨hlt, h60⟩ := hgo
      obtain ⟨b, off, rfl, hbb, hcell⟩ := HS.out.at3 (by omega)
      obtain ⟨hc0, hc1, hc2⟩ := hcell k hlt
      have B := TI.2.2.2.2.2
      have d0 := (B.cell (p := ⟨b, off + k * 3, none⟩) hbb).trans hc0
      have d1 := (B.cell (p := ⟨b, off + k * 3 + 1, none⟩) hbb).trans hc1
      have d2 := (B.cell (p := ⟨b, off + k * 3 + 2, none⟩) hbb).trans hc2
      clear hcell hc0 hc1 hc2 B
      have i0 : (0 : Int) ≤ (k : Int) := by omega
      have i1 : (k : Int) < (a1l : Int) := by omega
      have i2 : (k : Int) < 60 := by omega
      have s1 : IntKind.i64.wrap ((k : Int) + 1) = ((k + 1 : Nat) : Int) := by rw [IntWalk.i64_in _ (by omega)]; omega
      have hx' := hx
      unfold KnownL at hx
      obtain ⟨h1, h2, h3, h4⟩ := hx
      obtain ⟨m, hm⟩ : ∃ m, nw + a1e2 k % 64 = m := ⟨_, rfl⟩
      have s2 : IntKind.i64.wrap (nw + a1e2 k % 64) = m := by rw [IntWalk.i64_in _ (by omega)]; exact hm
      have m1 : x.h ≤ m := by omega
      have m2 : m ≤ (k + 1 : Nat) * 64 := by omega
      have s3 : IntKind.i64.wrap (m - x.h) = m - x.h := IntWalk.i64_in _ (by omega)
      clear hm n2 n3
      obtain ⟨rp, hrp⟩ : ∃ rp, a1e0 k = rp := ⟨_, rfl⟩
      rw [hrp] at d0
      clear hrp
      obtain ⟨f, hf⟩ : ∃ f, a1e1 k % 256 = f := ⟨_, rfl⟩
      have hl5 := TI.1.lt
      have hl6 := TI.2.1.lt
      have HX := Lib.hid hx'
      have HROW := Lib.hid hrow
      clear hx' hrow h1
      go_upto_region 11 with fail
      have k9 := Blk.new wr 31 #[.bool rp, .int .i64 (a1e1 k), .int .i64 (a1e2 k)]
      have hn5 : wr.heap.size ≠ g5 := by omega
      have hn6 : wr.heap.size ≠ g6 := by omega
      have TI := TI.below ((Below.refl _ wr).alloc (Nat.le_refl _) (.cells #[.bool rp, .int .i64 (a1e1 k), .int .i64 (a1e2 k)] 31))
      generalize hg9 : wr.heap.size = g9 at *
      generalize wr.alloc (.cells #[.bool rp, .int .i64 (a1e1 k), .int .i64 (a1e2 k)] 31) = wa at *
      clear d0 d1 d2 hg9 hl5 hl6
      have HTI := HTB.out.below TI.2.2.2.2.2 hsz
      have c6 := TI.2.1.cell
      have c9 := k9.cell
      simp at c6 c9
      obtain ⟨tk1, tk2⟩ := tick_is x ⟨T, klo, khi, kst⟩ m HX.out HK.out (by omega) (by omega)
      obtain ⟨r, hr⟩ : ∃ r, tickL x ⟨T, klo, khi, kst⟩ m = r := ⟨_, rfl⟩
      obtain ⟨was, hwas⟩ : ∃ b, (x.s != 3) = b := ⟨_, rfl⟩
      obtain ⟨nsb, hns⟩ : ∃ b, (r.s != 3) = b := ⟨_, rfl⟩
      obtain ⟨le, hle⟩ : ∃ b, decide (m - x.h ≤ T) = b := ⟨_, rfl⟩
      obtain ⟨isb, hisb⟩ : ∃ b, b = lateL (knownL x) (clipC ⟨T, klo, khi, kst⟩) (tickI m) := ⟨_, rfl⟩
      have hky : KnownL r := by rw [← hr]; exact tickL_known _ _ _
      have TF := tick_facts x r ⟨T, klo, khi, kst⟩ m was isb nsb le HX.out (tk1.symm.trans hr) hwas (hisb.trans tk2) hns hle
      have HS1 := Lib.hid (sends_lit x HX.out was hwas)
      have HO := Lib.hid (fun W => life_Tick x r ⟨T, klo, khi, kst⟩ m isb hr hisb W)
      have HS2 := Lib.hid (sends_lit r hky nsb hns)
      obtain ⟨t1, t2, t3, t4, t5⟩ := TF
      have HY := Lib.hid hky
      have T1 := Lib.hid t1
      have T2 := Lib.hid t2
      have T3 := Lib.hid t3
      have T4 := Lib.hid t4
      have T5 := Lib.hid t5
      have HNS := Lib.hid hns
      clear tk1 tk2 hr hwas hns hisb hky t1 t2 t3 t4 t5
      go_wp2_with fail
      refine (HS1.out _).mono ?_
      rintro e w3 ⟨rfl, hb⟩
      have TI := TI.below hb
      have k9 := k9.below hb k9.lt
      clear hb c6 c9 HTI
      have c5 := TI.1.cell
      have c6 := TI.2.1.cell
      have c9 := k9.cell
      simp at c5 c6 c9
      go_wp2_with fail
      refine (HO.out _).mono ?_
      rintro e w4 ⟨rfl, hb⟩
      have TI := TI.below hb
      have k9 := k9.below hb k9.lt
      clear hb c5 c6 c9
      go_upto_region 14 with fail
      have k13 := Blk.new w4 28 #[.int .i64 r.s, .int .i64 r.h, .int .i64 r.k]
      have hn13 : w4.heap.size ≠ g6 := by have := TI.2.1.lt; omega
      have TI := TI.below ((Below.refl _ w4).alloc (Nat.le_refl _) (.cells #[.int .i64 r.s, .int .i64 r.h, .int .i64 r.k] 28))
      have k9 := k9.alloc (.cells #[.int .i64 r.s, .int .i64 r.h, .int .i64 r.k] 28)
      generalize w4.heap.size = g13 at *
      generalize (w4.alloc (.cells #[.int .i64 r.s, .int .i64 r.h, .int .i64 r.k] 28)) = w5 at *
      have c13 := k13.cell
      simp at c13
      go_cut [77] (fun s77 wx => s77 = .bool false ∧ TimesI w wx g5 g6 ⟨T, klo, khi, kst⟩ x ∧ Blk wx g9 31 #[.bool rp, .int .i64 (a1e1 k), .int .i64 (a1e2 k)] ∧ Blk wx g13 28 #[.int .i64 r.s, .int .i64 r.h, .int .i64 r.k])
      case first =>
        cases was
        · obtain rfl := T1.out rfl
          obtain rfl := T3.out
          go_wp2_with fail
          refine (HS2.out _).mono ?_
          rintro e w7 ⟨rfl, hb⟩
          clear c13
          go_wp2_with fail
          go_meet
          exact ⟨rfl, TI.below hb, k9.below hb k9.lt, k13.below hb k13.lt⟩
        · obtain rfl := T2.out rfl
          obtain rfl := T3.out
          cases nsb
          all_goals
            go_wp2_with fail
            refine (HS2.out _).mono ?_
            rintro e w7 ⟨rfl, hb⟩
            have TI := TI.below hb
            have k9 := k9.below hb k9.lt
            have k13 := k13.below hb k13.lt
            clear hb c13
            have c5 := TI.1.cell
            have c13 := k13.cell
            simp at c5 c13
            go_wp2_with fail
            refine (HS2.out _).mono ?_
            rintro e w8 ⟨rfl, hb⟩
            have TI := TI.below hb
            have k9 := k9.below hb k9.lt
            have k13 := k13.below hb k13.lt
            clear hb c13 c5
            go_wp2_with fail
            go_meet
            exact ⟨rfl, TI, k9, k13⟩
      case rest =>
        clear k9 k13 TI c13
        obtain ⟨rfl, TI, k9, k13⟩ := hcut
        have c13 := k13.cell
        have c6 := TI.2.1.cell
        have f6 := TI.2.1.frozen
        simp at c6 c13
        obtain ⟨w8, e8, TI, hk8⟩ := TI.set6 r
        have k9 := k9.kept hk8 hn6
        have c9 := k9.cell
        simp at c9
        clear hk8
        go_upto_region 17 with fail
        clear e8 c13 k13 hn13 c6 f6
        have HTI := HTB.out.below TI.2.2.2.2.2 hsz
        have c5 := TI.1.cell
        have c6 := TI.2.1.cell
        simp at c5 c6
        cases rp
        · go_wp2_with fail
          go_roundw
          case rel => exact ⟨k + 1, r, m, row, by omega, by omega, by go_num, rfl, by rw [T4.out], rfl, by omega, by rw [T4.out]; exact m1, r1, by omega, HY.out, (fun h => by have h5 := T5.out h; rw [h5] at h ⊢; exact HROW.out h), TI⟩
          case measure => simp only [intOf]; omega
        · obtain ⟨y, hy⟩ : ∃ y, reportL r ⟨T, klo, khi, kst⟩ f m = y := ⟨_, rfl⟩
          obtain ⟨row', hrw⟩ : ∃ row', row' = (if f ≤ klo then 0 else if khi < f then row + 1 else row) := ⟨_, rfl⟩
          obtain ⟨ysb, hysb⟩ : ∃ b, (y.s != 3) = b := ⟨_, rfl⟩
          obtain ⟨bt, hbt⟩ : ∃ bt : Bool, bt = (y.s != (knownL r).s) := ⟨_, rfl⟩
          have hky : KnownL y := by rw [← hy]; exact reportL_known _ _ _ _
          have FT := times_facts r y ⟨T, klo, khi, kst⟩ f m row row' HY.out HK.out (fun h => by have h5 := T5.out h; rw [h5] at h ⊢; exact HROW.out h) ((rep_is r _ f m HY.out HK.out (by omega) (by omega)).symm.trans hy) hrw
          have hrb : 0 ≤ row' ∧ row' ≤ (k + 1 : Nat) := by rw [hrw]; split <;> (try split) <;> omega
          have HO2 := Lib.hid (fun W hh => life_Report r y ⟨T, klo, khi, kst⟩ f m bt hy hbt W hh)
          have HSY := Lib.hid (sends_lit y hky ysb hysb)
          have HKY := Lib.hid hky
          have HRW := Lib.hid hrw
          have HYS := Lib.hid hysb
          have HFT := Lib.hid FT
          obtain ⟨rb1, rb2⟩ := hrb
          clear hy hbt hky hrw hysb FT
          have E60 := fun (g : Ext w8) => g.cell (TI.2.1.cell 0) TI.2.1.lt
          have E61 := fun (g : Ext w8) => g.cell (TI.2.1.cell 1) TI.2.1.lt
          have E62 := fun (g : Ext w8) => g.cell (TI.2.1.cell 2) TI.2.1.lt
          simp at E60 E61 E62
          go_upto_region 19 with fail
          refine wp_region_ext (by kernel_rfl) (by kernel_rfl) ?_; (repeat (go_big_quiet_step ((first | (go_at_call 10; with_reducible exact calls_ext _ (HS2.out _)))))); refine wpQuiet_nil ?_; rintro _ ⟨gq, rfl⟩
          clear E60 E61 E62 c5 c6 c9
          have TI := TI.below gq.below
          have HTI := HTI.below gq.below HTI.1
          generalize gq.world = w10 at TI HTI ⊢
          clear gq k9
          have c5 := TI.1.cell
          have c6 := TI.2.1.cell
          simp at c5 c6
          have wr' : IntKind.i64.wrap (row + 1) = row + 1 := IntWalk.i64_in _ (by omega)
          go_upto_block 2 with fail
          go_cut [9] (fun s9 wx => s9 = .int .i64 row' ∧ wx = w10)
          case first =>
            by_cases hlo : f ≤ klo
            · have hv : row' = 0 := by rw [HRW.out, if_pos hlo]
              have HV := Lib.hid hv
              clear hv
              go_wp2_with fail
              go_meet
              exact ⟨by rw [HV.out], rfl⟩
            · by_cases hhi : khi < f
              · have hv : row' = row + 1 := by rw [HRW.out, if_neg hlo, if_pos hhi]
                have HV := Lib.hid hv
                clear hv
                go_wp2_with fail
                go_meet
                exact ⟨by rw [HV.out], rfl⟩
              · have hv : row' = row := by rw [HRW.out, if_neg hlo, if_neg hhi]
                have HV := Lib.hid hv
                clear hv
                go_wp2_with fail
                go_meet
                exact ⟨by rw [HV.out], rfl⟩
          case rest =>
            obtain ⟨rfl, rfl⟩ := hcut
            go_wp2_with fail
            refine (HO2.out _ HTI).mono ?_
            rintro e w11 ⟨rfl, hb⟩
            have TI := TI.below hb
            clear hb c5 c6 HTI
            have c6 := TI.2.1.cell
            have f6 := TI.2.1.frozen
            simp at c6
            obtain ⟨w12, e12, TI, _⟩ := TI.set6 y
            go_upto_region 26 with fail
            clear e12 c6 f6
            obtain ⟨b0, hb0⟩ : ∃ b, (r.s == 0) = b := ⟨_, rfl⟩
            obtain ⟨b1, hb1⟩ : ∃ b, (y.s == 1) = b := ⟨_, rfl⟩
            have HB0 := Lib.hid hb0
            have HB1 := Lib.hid hb1
            have c5 := TI.1.cell
            have c6 := TI.2.1.cell
            simp at c5 c6
            go_cut [161] (fun s wx => s = .bool false ∧ TimesI w wx g5 g6 ⟨T, klo, khi, kst⟩ y)
            case first =>
              cases nsb
              · have hr3 : r.s = 3 := by have := HNS.out; simpa using this
                obtain rfl : b0 = false := by rw [← HB0.out, hr3]; rfl
                have hr0 : decide (r.s = 0) = false := by rw [hr3]; rfl
                clear hr3 hb1
                cases ysb
                · go_wp2_with fail
                  refine (HSY.out _).mono ?_
                  rintro e w13 ⟨rfl, hb⟩
                  have TI := TI.below hb
                  clear hb c5 c6
                  go_wp2_with fail
                  go_meet
                  exact ⟨rfl, TI⟩
                · have hy3 : y.s ≠ 3 := by have := HYS.out; simpa using this
                  have hr3 : r.s = 3 := by have := HNS.out; simpa using this
                  obtain ⟨z1, z2⟩ := HFT.out.1 hr3 hy3
                  have g1 : decide (klo < f) = false := by simpa using z1
                  have g2 : (y.s != 0) = false := by rw [z2]; rfl
                  have g3 : decide (y.s = 0) = true := by rw [z2]; rfl
                  clear hr3 hy3 z1 z2
                  go_wp2_with fail
                  refine (HSY.out _).mono ?_
                  rintro e w13 ⟨rfl, hb⟩
                  have TI := TI.below hb
                  clear hb c5 c6
                  have c5 := TI.1.cell
                  have c6 := TI.2.1.cell
                  simp at c5 c6
                  go_wp2_with fail
                  go_meet
                  exact ⟨rfl, TI⟩
              · have hn3 : r.s ≠ 3 := by have := HNS.out; simpa using this
                cases ysb
                · have hy3 : y.s = 3 := by have := HYS.out; simpa using this
                  obtain ⟨z1, z2⟩ := HFT.out.2.1 hn3 hy3
                  have g1 : decide (f ≤ khi) = false := by simpa using z1
                  have g2 : decide (row' < kst) = false := by simpa using z2
                  obtain rfl : b1 = false := by rw [← HB1.out, hy3]; rfl
                  have g3 : decide (y.s = 1) = false := by rw [hy3]; rfl
                  clear hn3 hy3 z1 z2
                  cases b0
                  all_goals
                    go_wp2_with fail
                    refine (HSY.out _).mono ?_
                    rintro e w13 ⟨rfl, hb⟩
                    have TI := TI.below hb
                    clear hb c5 c6
                    have c5 := TI.1.cell
                    have c6 := TI.2.1.cell
                    simp at c5 c6
                    go_wp2_with fail
                    go_meet
                    exact ⟨rfl, TI⟩
                · clear hn3
                  cases b0
                  · go_wp2_with fail
                    refine (HSY.out _).mono ?_
                    rintro e w13 ⟨rfl, hb⟩
                    have TI := TI.below hb
                    clear hb c5 c6
                    go_wp2_with fail
                    go_meet
                    exact ⟨rfl, TI⟩
                  · cases b1
                    · go_wp2_with fail
                      refine (HSY.out _).mono ?_
                      rintro e w13 ⟨rfl, hb⟩
                      have TI := TI.below hb
                      clear hb c5 c6
                      have c6 := TI.2.1.cell
                      simp at c6
                      go_wp2_with fail
                      go_meet
                      exact ⟨rfl, TI⟩
                    · have z := HFT.out.2.2.1 (by have := HB0.out; simpa using this) (by have := HB1.out; simpa using this)
                      have g1 : decide (klo < f) = false := by simpa using z
                      clear z
                      go_wp2_with fail
                      refine (HSY.out _).mono ?_
                      rintro e w13 ⟨rfl, hb⟩
                      have TI := TI.below hb
                      clear hb c5 c6
                      have c5 := TI.1.cell
                      have c6 := TI.2.1.cell
                      simp at c5 c6
                      go_wp2_with fail
                      go_meet
                      exact ⟨rfl, TI⟩
            case rest =>
              clear TI c5 c6 hb0 hb1
              obtain ⟨rfl, TI⟩ := hcut
              have c6 := TI.2.1.cell
              simp at c6
              go_wp2_with fail
              refine (HSY.out _).mono ?_
              rintro e w13 ⟨rfl, hb⟩
              have TI := TI.below hb
              clear hb c6
              have hyh := HFT.out.2.2.2.2
              cases ysb
              · have hy3 : y.s = 3 := by have := HYS.out; simpa using this
                have HY3 := Lib.hid hy3
                have HYH := Lib.hid hyh
                clear hy3 hyh
                go_wp2_with fail
                go_roundw
                case rel => exact ⟨k + 1, y, m, 0, by omega, by omega, by go_num, rfl, by rw [HYH.out], rfl, by omega, by rw [HYH.out]; exact Int.le_refl _, by omega, by omega, HKY.out, fun h => absurd HY3.out h, TI⟩
                case measure => simp only [intOf]; omega
              · have hy3 : y.s ≠ 3 := by have := HYS.out; simpa using this
                have HV := Lib.hid (HFT.out.2.2.2.1 hy3)
                have HYH := Lib.hid hyh
                clear hy3 hyh
                go_wp2_with fail
                go_roundw
                case rel => exact ⟨k + 1, y, m, row', by omega, by omega, by go_num, rfl, by rw [HYH.out], rfl, by omega, by rw [HYH.out]; exact Int.le_refl _, rb1, rb2, HKY.out, fun _ => HV.out, TI⟩
                case measure => simp only [intOf]; omega
    · have j1 : (decide ((k : Int) < (a1l : Int)) && decide ((k : Int) < 60)) = false := by simp; omega
      have hx' := hx
      unfold KnownL at hx'
      obtain ⟨h1, h2, h3, h4⟩ := hx'
      have TI3 : ∃ w2, World.setCell wr ⟨g6, 0, none⟩ (.int .i64 3) = w2 ∧ TimesI w w2 g5 g6 ⟨T, klo, khi, kst⟩ ⟨3, x.h, x.k⟩ := by
        obtain ⟨z5, z6, y5, y6, y56, zB⟩ := TI
        refine ⟨_, rfl, z5.far (p := ⟨g6, 0, none⟩) y56 _, ?_, y5, y6, y56, zB.setCell (p := ⟨g6, 0, none⟩) y6 _⟩
        have := z6.set_ 0 (.int .i64 3)
        simpa using this
      have e1 : reportL ⟨3, x.h, x.k⟩ ⟨T, klo, khi, kst⟩ 0 nw = ⟨0, nw, 0⟩ := by
        rw [rep_is ⟨3, x.h, x.k⟩ _ _ _ ⟨by simp, h2, h3, h4⟩ HK.out (by omega) (by omega), repL_low _ _ _ _ q3]
        rfl
      have e2 : reportL ⟨0, nw, 0⟩ ⟨T, klo, khi, kst⟩ 0 nw = ⟨1, nw, 0⟩ := by
        rw [rep_is ⟨0, nw, 0⟩ _ _ _ ⟨by simp, by simp only; omega, by simp only; omega, by simp⟩ HK.out (by omega) (by omega), repL_low _ _ _ _ q3]
        rfl
      obtain ⟨b1, hb1⟩ : ∃ b : Bool, b = ((0 : Int) != (knownL ⟨3, x.h, x.k⟩).s) := ⟨_, rfl⟩
      obtain ⟨b2, hb2⟩ : ∃ b : Bool, b = ((1 : Int) != (knownL ⟨0, nw, 0⟩).s) := ⟨_, rfl⟩
      have HR1 := Lib.hid (fun W hh => life_Report ⟨3, x.h, x.k⟩ ⟨0, nw, 0⟩ ⟨T, klo, khi, kst⟩ 0 nw b1 e1 hb1 W hh)
      have HR2 := Lib.hid (fun W hh => life_Report ⟨0, nw, 0⟩ ⟨1, nw, 0⟩ ⟨T, klo, khi, kst⟩ 0 nw b2 e2 hb2 W hh)
      have c6 := TI.2.1.cell
      have f6 := TI.2.1.frozen
      simp at c6
      obtain ⟨w2x, e3, TI3⟩ := TI3
      have E3 := Lib.hid e3
      clear e1 e2 hb1 hb2 hx hrow h1 h2 h3 h4 n2 n3 r1 r2 e3
      have tail : True := trivial
      by_cases hka : k < a1l
      · have j2 : decide ((k : Int) < (a1l : Int)) = true := by simp; omega
        have j3 : decide ((k : Int) < 60) = false := by simp; omega
        go_upto_region 31 with fail
        rw [E3.out]
        clear c6 f6
        have HTI := HTB.out.below TI3.2.2.2.2.2 hsz
        have c5 := TI3.1.cell
        have c6 := TI3.2.1.cell
        simp at c5 c6
        go_wp2_with fail
        refine (HR1.out _ HTI).mono ?_
        rintro e w11 ⟨rfl, hb⟩
        have TI3 := TI3.below hb
        clear hb c5 c6 HTI
        have c6 := TI3.2.1.cell
        have f6 := TI3.2.1.frozen
        simp at c6
        obtain ⟨w12, e12, TI3, _⟩ := TI3.set6 ⟨0, nw, 0⟩
        simp only at e12
        go_upto_region 32 with fail
        clear e12 c6 f6
        have HTI := HTB.out.below TI3.2.2.2.2.2 hsz
        have c5 := TI3.1.cell
        have c6 := TI3.2.1.cell
        simp at c5 c6
        go_wp2_with fail
        refine (HR2.out _ HTI).mono ?_
        rintro e w13 ⟨rfl, hb⟩
        have TI3 := TI3.below hb
        clear hb c5 c6 HTI
        have c6 := TI3.2.1.cell
        have f6 := TI3.2.1.frozen
        simp at c6
        obtain ⟨w14, e14, TI3, _⟩ := TI3.set6 ⟨1, nw, 0⟩
        simp only at e14
        go_upto_region 34 with fail
        clear e14 c6 f6
        have c6 := TI3.2.1.cell
        simp at c6
        go_wp2_with fail
        go_ret
        exact ⟨rfl, TI3.2.2.2.2.2⟩
      · have j2 : decide ((k : Int) < (a1l : Int)) = false := by simp; omega
        go_upto_region 31 with fail
        rw [E3.out]
        clear c6 f6
        have HTI := HTB.out.below TI3.2.2.2.2.2 hsz
        have c5 := TI3.1.cell
        have c6 := TI3.2.1.cell
        simp at c5 c6
        go_wp2_with fail
        refine (HR1.out _ HTI).mono ?_
        rintro e w11 ⟨rfl, hb⟩
        have TI3 := TI3.below hb
        clear hb c5 c6 HTI
        have c6 := TI3.2.1.cell
        have f6 := TI3.2.1.frozen
        simp at c6
        obtain ⟨w12, e12, TI3, _⟩ := TI3.set6 ⟨0, nw, 0⟩
        simp only at e12
        go_upto_region 32 with fail
        clear e12 c6 f6
        have HTI := HTB.out.below TI3.2.2.2.2.2 hsz
        have c5 := TI3.1.cell
        have c6 := TI3.2.1.cell
        simp at c5 c6
        go_wp2_with fail
        refine (HR2.out _ HTI).mono ?_
        rintro e w13 ⟨rfl, hb⟩
        have TI3 := TI3.below hb
        clear hb c5 c6 HTI
        have c6 := TI3.2.1.cell
        have f6 := TI3.2.1.frozen
        simp at c6
        obtain ⟨w14, e14, TI3, _⟩ := TI3.set6 ⟨1, nw, 0⟩
        simp only at e14
        go_upto_region 34 with fail
        clear e14 c6 f6
        have c6 := TI3.2.1.cell
        simp at c6
        go_wp2_with fail
        go_ret
        exact ⟨rfl, TI3.2.2.2.2.2⟩
end Go.Proofs.YthngobikokhdlaaDoor
