/- The statement DelayMore, walked: it returns true. No condition but the frame's. -/
import Derived.Test.YtlockgodmlloeaaDelayRun
import Derived.Test.YtlockgodmlloeaaInv
import Derived.Deep.DeepCutAuto
namespace Go.Proofs.Ytlockgodmlloeaa
open Go.RowKit BigFrame
attribute [local go_sem ↓] Go.wp_at_zero Go.wp_at_succ

/-- A pointer to a block of the call's own, of three cells of type t; these, if b. -/
def Own3 (w : World) (base : Nat) (t : TypeId) (v : Value) (b : Prop) (x y z : Value) : Prop :=
  ∃ g, v = .pointer (some ⟨g, 0, none⟩) ∧ base ≤ g ∧ ∃ x' y' z', Blk w g t #[x', y', z'] ∧ (b → x' = x ∧ y' = y ∧ z' = z)
theorem Own3.below {w w' : World} {base : Nat} {t : TypeId} {v : Value} {b : Prop} {x y z : Value} (h : Own3 w base t v b x y z) (hb : Below w.heap.size w w') : Own3 w' base t v b x y z := by
  obtain ⟨g, e, hg, x', y', z', k, hc⟩ := h
  exact ⟨g, e, hg, x', y', z', k.below hb k.lt, hc⟩
theorem Own3.other {w w' : World} {base g : Nat} {t : TypeId} {v : Value} {b : Prop} {x y z : Value} (h : Own3 w base t v b x y z) (hk : ∀ k, k ≠ g → w'.heap[k]? = w.heap[k]?) (hv : v ≠ .pointer (some ⟨g, 0, none⟩)) : Own3 w' base t v b x y z := by
  obtain ⟨g', e, hg', x', y', z', k, hc⟩ := h
  refine ⟨g', e, hg', x', y', z', (hk g' fun he => hv ?_).trans k, hc⟩
  rw [e, he]

/-- What holds in 'a, b := f(d, x), f(d, y)', whatever has come up. -/
def Two (w0 : World) (t : TypeId) (d : Value) (x y : Int) (r s : D3) (L : Nat → Bool) (vs : List Value) (w' : World) : Prop :=
  ∃ v0 v1 v2 v3 v4 v5 p q, vs = [v0, v1, v2, v3, v4, v5, p, q] ∧ Below w0.heap.size w0 w' ∧
    (L 0 = true → v0 = d) ∧ (L 1 = true → v1 = .int .i64 x) ∧ (L 2 = true → v2 = .agg #[.int .i64 r.a, .int .i64 r.b, .int .i64 r.c]) ∧
    (L 3 = true → v3 = d) ∧ (L 4 = true → v4 = .int .i64 y) ∧ (L 5 = true → v5 = .agg #[.int .i64 s.a, .int .i64 s.b, .int .i64 s.c]) ∧
    (L 6 = true → Own3 w' w0.heap.size t p (L 8 = true) (.int .i64 r.a) (.int .i64 r.b) (.int .i64 r.c)) ∧
    (L 7 = true → Own3 w' w0.heap.size t q (L 9 = true) (.int .i64 s.a) (.int .i64 s.b) (.int .i64 s.c)) ∧
    (L 6 = true → L 7 = true → p ≠ q) ∧ (L 8 = true → L 6 = true) ∧ (L 9 = true → L 7 = true)

set_option maxRecDepth 8000 in
set_option maxHeartbeats 4000000 in
theorem DelayMore_walk (a0x0 : Int) (a0x1 : Int) (a0x2 : Int) (a1 : Int) (a2 : Int) (w : World) (_w0 : (Lit.int .i64 a0x0).wf = true) (_w1 : (Lit.int .i64 a0x1).wf = true) (_w2 : (Lit.int .i64 a0x2).wf = true) (_w3 : (Lit.int .i64 a1).wf = true) (_w4 : (Lit.int .i64 a2).wf = true) :
    Calls Try.prog 4 #[.agg #[.int .i64 a0x0, .int .i64 a0x1, .int .i64 a0x2], .int .i64 a1, .int .i64 a2] w fun e w' => e = .returned (.bool true) ∧ Below w.heap.size w w' := by
  clear _w0 _w1 _w2 _w3 _w4
  obtain ⟨lo, hlo⟩ : ∃ lo, (if a2 < a1 then a2 else a1) = lo := ⟨_, rfl⟩
  obtain ⟨hi, hhi⟩ : ∃ hi, (if a1 < a2 then a2 else a1) = hi := ⟨_, rfl⟩
  have hle : lo ≤ hi := by rw [← hlo, ← hhi]; split <;> split <;> omega
  obtain ⟨r, hr⟩ : ∃ r, jitD ⟨a0x0, a0x1, a0x2⟩ lo = r := ⟨_, rfl⟩
  obtain ⟨s, hs⟩ : ∃ s, jitD ⟨a0x0, a0x1, a0x2⟩ hi = s := ⟨_, rfl⟩
  obtain ⟨r2, hr2⟩ : ∃ r, lateD ⟨a0x0, a0x1, a0x2⟩ lo = r := ⟨_, rfl⟩
  obtain ⟨s2, hs2⟩ : ∃ s, lateD ⟨a0x0, a0x1, a0x2⟩ hi = s := ⟨_, rfl⟩
  have HJ1 := Lib.hid (fun W => delay_Jitter ⟨a0x0, a0x1, a0x2⟩ r lo hr W)
  have HJ2 := Lib.hid (fun W => delay_Jitter ⟨a0x0, a0x1, a0x2⟩ s hi hs W)
  have HL1 := Lib.hid (fun W => delay_Late ⟨a0x0, a0x1, a0x2⟩ r2 lo hr2 W)
  have HL2 := Lib.hid (fun W => delay_Late ⟨a0x0, a0x1, a0x2⟩ s2 hi hs2 W)
  have HM := jit_more ⟨a0x0, a0x1, a0x2⟩ lo hi hle
  rw [hr, hs, hr2, hs2] at HM
  obtain ⟨m1, m2, m3, m4⟩ := HM
  have M2 := Lib.hid m2
  have M3 := Lib.hid m3
  clear m2 m3
  clear hr hs hr2 hs2
  go_enter Try.func4, Try.ntmps4
  go_wp2_with fail
  refine (law25_awake _).mono ?_
  rintro e w1 ⟨rfl, hb1⟩
  have k1 := (Blk.new w 23 #[.int .i64 a0x0, .int .i64 a0x1, .int .i64 a0x2]).below hb1 (by simp)
  have B1 : Below w.heap.size w w1 := ((Below.refl _ w).alloc (Nat.le_refl _) _).trans (hb1.mono (by simp))
  clear hb1
  go_upto_region 4 with fail
  clear hlo hhi
  refine wp_region_slots [21, 22, 23, 24, 25, 26, 9, 10] (Two w1 25 (.agg #[.int .i64 a0x0, .int .i64 a0x1, .int .i64 a0x2]) lo hi r s) [undef, undef, undef, undef, undef, undef, undef, undef] ?_ ?_ ?_ ?_ ?_ ?_
  · kernel_rfl
  · kernel_rfl
  · kernel_rfl
  · exact ⟨_, _, _, _, _, _, _, _, rfl, (Below.refl _ _).drew, by simp, by simp, by simp, by simp, by simp, by simp, by simp, by simp, by simp, by simp, by simp⟩
  · rintro L i o ho hu hw _ w' ⟨v0, v1, v2, v3, v4, v5, p, q, rfl, hb, h0, h1, h2, h3, h4, h5, h6, h7, h8, h9, hx⟩ K hK
    have hk1 := k1.below hb k1.lt
    have c0 := hk1.cell 0
    have c1 := hk1.cell 1
    have c2 := hk1.cell 2
    simp at c0 c1 c2
    have hsz := hb.size
    rcases i with _ | _ | _ | _ | _ | _ | _ | _ | _ | _ | i
    all_goals first | (injection ho with ho; subst ho) | (cases ho; done)
    · refine ⟨?_⟩
      simp only [setAll, List.zip_cons_cons, List.zip_nil_right]
      go_simp
      exact hK [(.agg #[.int .i64 a0x0, .int .i64 a0x1, .int .i64 a0x2]), v1, v2, v3, v4, v5, p, q] _ _ (by kernel_rfl) ⟨_, _, _, _, _, _, _, _, rfl, hb, fun _ => rfl, h1, h2, h3, h4, h5, h6, h7, h8, h9, hx⟩
    · refine ⟨?_⟩
      simp only [setAll, List.zip_cons_cons, List.zip_nil_right]
      go_simp
      exact hK [v0, (.int .i64 lo), v2, v3, v4, v5, p, q] _ _ (by kernel_rfl) ⟨_, _, _, _, _, _, _, _, rfl, hb, h0, fun _ => rfl, h2, h3, h4, h5, h6, h7, h8, h9, hx⟩
    · obtain rfl := h0 (hw 0 (by kernel_rfl))
      obtain rfl := h1 (hw 1 (by kernel_rfl))
      clear hk1 c0 c1 c2
      refine ⟨?_⟩
      simp only [setAll, List.zip_cons_cons, List.zip_nil_right]
      go_simp
      refine (HJ1.out _).mono ?_
      rintro e w2 ⟨rfl, hb2⟩
      go_simp
      exact hK [(.agg #[.int .i64 a0x0, .int .i64 a0x1, .int .i64 a0x2]), (.int .i64 lo), (.agg #[.int .i64 r.a, .int .i64 r.b, .int .i64 r.c]), v3, v4, v5, p, q] _ _ (by kernel_rfl) ⟨_, _, _, _, _, _, _, _, rfl, below_then hb hb2 (Nat.le_refl _), h0, h1, fun _ => rfl, h3, h4, h5, fun h => (h6 h).below hb2, fun h => (h7 h).below hb2, h8, h9, hx⟩
    · refine ⟨?_⟩
      simp only [setAll, List.zip_cons_cons, List.zip_nil_right]
      go_simp
      exact hK [v0, v1, v2, (.agg #[.int .i64 a0x0, .int .i64 a0x1, .int .i64 a0x2]), v4, v5, p, q] _ _ (by kernel_rfl) ⟨_, _, _, _, _, _, _, _, rfl, hb, h0, h1, h2, fun _ => rfl, h4, h5, h6, h7, h8, h9, hx⟩
    · refine ⟨?_⟩
      simp only [setAll, List.zip_cons_cons, List.zip_nil_right]
      go_simp
      exact hK [v0, v1, v2, v3, (.int .i64 hi), v5, p, q] _ _ (by kernel_rfl) ⟨_, _, _, _, _, _, _, _, rfl, hb, h0, h1, h2, h3, fun _ => rfl, h5, h6, h7, h8, h9, hx⟩
    · obtain rfl := h3 (hw 3 (by kernel_rfl))
      obtain rfl := h4 (hw 4 (by kernel_rfl))
      clear hk1 c0 c1 c2
      refine ⟨?_⟩
      simp only [setAll, List.zip_cons_cons, List.zip_nil_right]
      go_simp
      refine (HJ2.out _).mono ?_
      rintro e w2 ⟨rfl, hb2⟩
      go_simp
      exact hK [v0, v1, v2, (.agg #[.int .i64 a0x0, .int .i64 a0x1, .int .i64 a0x2]), (.int .i64 hi), (.agg #[.int .i64 s.a, .int .i64 s.b, .int .i64 s.c]), p, q] _ _ (by kernel_rfl) ⟨_, _, _, _, _, _, _, _, rfl, below_then hb hb2 (Nat.le_refl _), h0, h1, h2, h3, h4, fun _ => rfl, fun h => (h6 h).below hb2, fun h => (h7 h).below hb2, h8, h9, hx⟩
    · have hnew : L 8 = true → False := fun h => by
        have := h9 h
        rw [hu] at this
        cases this
      have hne : L 7 = true → Value.pointer (some ⟨w'.heap.size, 0, none⟩) ≠ q := fun h he => by
        obtain ⟨g, e, _, x', y', z', k, _⟩ := h7 h
        rw [e] at he
        injection he with he
        injection he with he
        injection he with he
        have := k.lt
        omega
      have hall : Below w'.heap.size w' (w'.alloc (.cells #[.int .i64 0, .int .i64 0, .int .i64 0] 25)) := (Below.refl _ _).alloc (Nat.le_refl _) _
      refine ⟨?_⟩
      simp only [setAll, List.zip_cons_cons, List.zip_nil_right]
      go_simp
      exact hK [v0, v1, v2, v3, v4, v5, (.pointer (some ⟨w'.heap.size, 0, none⟩)), q] _ _ (by kernel_rfl) ⟨_, _, _, _, _, _, _, _, rfl, (below_then hb hall (Nat.le_refl _)), h0, h1, h2, h3, h4, h5, fun _ => ⟨w'.heap.size, rfl, hsz, _, _, _, Blk.new _ _ _, fun h => (hnew h).elim⟩, fun h => (h7 h).below hall, fun _ h => hne h, fun _ => rfl, hx⟩
    · have hnew : L 9 = true → False := fun h => by
        have := hx h
        rw [hu] at this
        cases this
      have hne : L 6 = true → Value.pointer (some ⟨w'.heap.size, 0, none⟩) ≠ p := fun h he => by
        obtain ⟨g, e, _, x', y', z', k, _⟩ := h6 h
        rw [e] at he
        injection he with he
        injection he with he
        injection he with he
        have := k.lt
        omega
      have hall : Below w'.heap.size w' (w'.alloc (.cells #[.int .i64 0, .int .i64 0, .int .i64 0] 25)) := (Below.refl _ _).alloc (Nat.le_refl _) _
      refine ⟨?_⟩
      simp only [setAll, List.zip_cons_cons, List.zip_nil_right]
      go_simp
      exact hK [v0, v1, v2, v3, v4, v5, p, (.pointer (some ⟨w'.heap.size, 0, none⟩))] _ _ (by kernel_rfl) ⟨_, _, _, _, _, _, _, _, rfl, (below_then hb hall (Nat.le_refl _)), h0, h1, h2, h3, h4, h5, fun h => (h6 h).below hall, fun _ => ⟨w'.heap.size, rfl, hsz, _, _, _, Blk.new _ _ _, fun h => (hnew h).elim⟩, fun h _ => (hne h).symm, h9, fun _ => rfl⟩
    · obtain rfl := h2 (hw 2 (by kernel_rfl))
      refine Exists.elim (h6 (hw 6 (by kernel_rfl))) fun g hg1 => ?_
      refine Exists.elim hg1.2.2 fun x' hx' => ?_
      refine Exists.elim hx' fun y' hy' => ?_
      refine Exists.elim hy' fun z' hz' => ?_
      have e := hg1.1
      have hg := hg1.2.1
      have kg := hz'.1
      clear hg1 hx' hy' hz'
      subst e
      have d0 := kg.cell 0
      have d1 := kg.cell 1
      have d2 := kg.cell 2
      have df := kg.frozen
      simp at d0 d1 d2
      refine Exists.elim (three_set kg rfl (.int .i64 r.a) (.int .i64 r.b) (.int .i64 r.c) w1.heap.size hg) fun w2 hw2 => ?_
      have e2 := hw2.1
      have kg' := hw2.2.1
      have B2 := hw2.2.2.1
      have hk2 := hw2.2.2.2
      clear hw2
      refine ⟨?_⟩
      simp only [setAll, List.zip_cons_cons, List.zip_nil_right]
      go_simp
      clear e2
      exact hK [v0, v1, (.agg #[.int .i64 r.a, .int .i64 r.b, .int .i64 r.c]), v3, v4, v5, (.pointer (some ⟨g, 0, none⟩)), q] _ _ (by kernel_rfl) ⟨_, _, _, _, _, _, _, _, rfl, (hb.trans B2), h0, h1, fun _ => rfl, h3, h4, h5, fun _ => ⟨g, rfl, hg, _, _, _, kg', fun _ => ⟨rfl, rfl, rfl⟩⟩, fun h => (h7 h).other hk2 (fun he => h8 (hw 6 (by kernel_rfl)) h he.symm), h8, fun _ => hw 6 (by kernel_rfl), hx⟩
    · obtain rfl := h5 (hw 5 (by kernel_rfl))
      refine Exists.elim (h7 (hw 7 (by kernel_rfl))) fun g hg1 => ?_
      refine Exists.elim hg1.2.2 fun x' hx' => ?_
      refine Exists.elim hx' fun y' hy' => ?_
      refine Exists.elim hy' fun z' hz' => ?_
      have e := hg1.1
      have hg := hg1.2.1
      have kg := hz'.1
      clear hg1 hx' hy' hz'
      subst e
      have d0 := kg.cell 0
      have d1 := kg.cell 1
      have d2 := kg.cell 2
      have df := kg.frozen
      simp at d0 d1 d2
      refine Exists.elim (three_set kg rfl (.int .i64 s.a) (.int .i64 s.b) (.int .i64 s.c) w1.heap.size hg) fun w2 hw2 => ?_
      have e2 := hw2.1
      have kg' := hw2.2.1
      have B2 := hw2.2.2.1
      have hk2 := hw2.2.2.2
      clear hw2
      refine ⟨?_⟩
      simp only [setAll, List.zip_cons_cons, List.zip_nil_right]
      go_simp
      clear e2
      exact hK [v0, v1, v2, v3, v4, (.agg #[.int .i64 s.a, .int .i64 s.b, .int .i64 s.c]), p, (.pointer (some ⟨g, 0, none⟩))] _ _ (by kernel_rfl) ⟨_, _, _, _, _, _, _, _, rfl, (hb.trans B2), h0, h1, h2, h3, h4, fun _ => rfl, fun h => (h6 h).other hk2 (h8 h (hw 7 (by kernel_rfl))), fun _ => ⟨g, rfl, hg, _, _, _, kg', fun _ => ⟨rfl, rfl, rfl⟩⟩, h8, h9, fun _ => hw 7 (by kernel_rfl)⟩
  · rintro vs w2 L hL ⟨v0, v1, v2, v3, v4, v5, p, q, rfl, hb, h0, h1, h2, h3, h4, h5, h6, h7, h8, h9, hx⟩
    obtain rfl := h0 (hL 0 (by decide))
    obtain rfl := h1 (hL 1 (by decide))
    obtain rfl := h2 (hL 2 (by decide))
    obtain rfl := h3 (hL 3 (by decide))
    obtain rfl := h4 (hL 4 (by decide))
    obtain rfl := h5 (hL 5 (by decide))
    obtain ⟨g1, rfl, hg1, _, _, _, q1, hc1⟩ := h6 (hL 6 (by decide))
    obtain ⟨g2, rfl, hg2, _, _, _, q2, hc2⟩ := h7 (hL 7 (by decide))
    obtain ⟨rfl, rfl, rfl⟩ := hc1 (hL 8 (by decide))
    obtain ⟨rfl, rfl, rfl⟩ := hc2 (hL 9 (by decide))
    have k2 := k1.below hb k1.lt
    have B2 := below_then B1 hb (Nat.le_refl _)
    clear h0 h1 h2 h3 h4 h5 h6 h7 h8 h9 hx hc1 hc2 hL L hb k1 B1 hg1 hg2
    simp only [setAll, List.zip_cons_cons, List.zip_nil_right]
    go_upto_region 5 with fail
    refine wp_region_slots [27, 28, 29, 30, 31, 32, 11, 12] (Two w2 25 (.agg #[.int .i64 a0x0, .int .i64 a0x1, .int .i64 a0x2]) lo hi r2 s2) [undef, undef, undef, undef, undef, undef, undef, undef] ?_ ?_ ?_ ?_ ?_ ?_
    · kernel_rfl
    · kernel_rfl
    · kernel_rfl
    · exact ⟨_, _, _, _, _, _, _, _, rfl, (Below.refl _ _).drew, by simp, by simp, by simp, by simp, by simp, by simp, by simp, by simp, by simp, by simp, by simp⟩
    · rintro L i o ho hu hw _ w' ⟨v0, v1, v2, v3, v4, v5, p, q, rfl, hb, h0, h1, h2, h3, h4, h5, h6, h7, h8, h9, hx⟩ K hK
      have hk1 := k2.below hb k2.lt
      have c0 := hk1.cell 0
      have c1 := hk1.cell 1
      have c2 := hk1.cell 2
      simp at c0 c1 c2
      have hsz := hb.size
      rcases i with _ | _ | _ | _ | _ | _ | _ | _ | _ | _ | i
      all_goals first | (injection ho with ho; subst ho) | (cases ho; done)
      · refine ⟨?_⟩
        simp only [setAll, List.zip_cons_cons, List.zip_nil_right]
        go_simp
        exact hK [(.agg #[.int .i64 a0x0, .int .i64 a0x1, .int .i64 a0x2]), v1, v2, v3, v4, v5, p, q] _ _ (by kernel_rfl) ⟨_, _, _, _, _, _, _, _, rfl, hb, fun _ => rfl, h1, h2, h3, h4, h5, h6, h7, h8, h9, hx⟩
      · refine ⟨?_⟩
        simp only [setAll, List.zip_cons_cons, List.zip_nil_right]
        go_simp
        exact hK [v0, (.int .i64 lo), v2, v3, v4, v5, p, q] _ _ (by kernel_rfl) ⟨_, _, _, _, _, _, _, _, rfl, hb, h0, fun _ => rfl, h2, h3, h4, h5, h6, h7, h8, h9, hx⟩
      · obtain rfl := h0 (hw 0 (by kernel_rfl))
        obtain rfl := h1 (hw 1 (by kernel_rfl))
        clear hk1 c0 c1 c2
        refine ⟨?_⟩
        simp only [setAll, List.zip_cons_cons, List.zip_nil_right]
        go_simp
        refine (HL1.out _).mono ?_
        rintro e w2 ⟨rfl, hb2⟩
        go_simp
        exact hK [(.agg #[.int .i64 a0x0, .int .i64 a0x1, .int .i64 a0x2]), (.int .i64 lo), (.agg #[.int .i64 r2.a, .int .i64 r2.b, .int .i64 r2.c]), v3, v4, v5, p, q] _ _ (by kernel_rfl) ⟨_, _, _, _, _, _, _, _, rfl, below_then hb hb2 (Nat.le_refl _), h0, h1, fun _ => rfl, h3, h4, h5, fun h => (h6 h).below hb2, fun h => (h7 h).below hb2, h8, h9, hx⟩
      · refine ⟨?_⟩
        simp only [setAll, List.zip_cons_cons, List.zip_nil_right]
        go_simp
        exact hK [v0, v1, v2, (.agg #[.int .i64 a0x0, .int .i64 a0x1, .int .i64 a0x2]), v4, v5, p, q] _ _ (by kernel_rfl) ⟨_, _, _, _, _, _, _, _, rfl, hb, h0, h1, h2, fun _ => rfl, h4, h5, h6, h7, h8, h9, hx⟩
      · refine ⟨?_⟩
        simp only [setAll, List.zip_cons_cons, List.zip_nil_right]
        go_simp
        exact hK [v0, v1, v2, v3, (.int .i64 hi), v5, p, q] _ _ (by kernel_rfl) ⟨_, _, _, _, _, _, _, _, rfl, hb, h0, h1, h2, h3, fun _ => rfl, h5, h6, h7, h8, h9, hx⟩
      · obtain rfl := h3 (hw 3 (by kernel_rfl))
        obtain rfl := h4 (hw 4 (by kernel_rfl))
        clear hk1 c0 c1 c2
        refine ⟨?_⟩
        simp only [setAll, List.zip_cons_cons, List.zip_nil_right]
        go_simp
        refine (HL2.out _).mono ?_
        rintro e w2 ⟨rfl, hb2⟩
        go_simp
        exact hK [v0, v1, v2, (.agg #[.int .i64 a0x0, .int .i64 a0x1, .int .i64 a0x2]), (.int .i64 hi), (.agg #[.int .i64 s2.a, .int .i64 s2.b, .int .i64 s2.c]), p, q] _ _ (by kernel_rfl) ⟨_, _, _, _, _, _, _, _, rfl, below_then hb hb2 (Nat.le_refl _), h0, h1, h2, h3, h4, fun _ => rfl, fun h => (h6 h).below hb2, fun h => (h7 h).below hb2, h8, h9, hx⟩
      · have hnew : L 8 = true → False := fun h => by
          have := h9 h
          rw [hu] at this
          cases this
        have hne : L 7 = true → Value.pointer (some ⟨w'.heap.size, 0, none⟩) ≠ q := fun h he => by
          obtain ⟨g, e, _, x', y', z', k, _⟩ := h7 h
          rw [e] at he
          injection he with he
          injection he with he
          injection he with he
          have := k.lt
          omega
        have hall : Below w'.heap.size w' (w'.alloc (.cells #[.int .i64 0, .int .i64 0, .int .i64 0] 25)) := (Below.refl _ _).alloc (Nat.le_refl _) _
        refine ⟨?_⟩
        simp only [setAll, List.zip_cons_cons, List.zip_nil_right]
        go_simp
        exact hK [v0, v1, v2, v3, v4, v5, (.pointer (some ⟨w'.heap.size, 0, none⟩)), q] _ _ (by kernel_rfl) ⟨_, _, _, _, _, _, _, _, rfl, (below_then hb hall (Nat.le_refl _)), h0, h1, h2, h3, h4, h5, fun _ => ⟨w'.heap.size, rfl, hsz, _, _, _, Blk.new _ _ _, fun h => (hnew h).elim⟩, fun h => (h7 h).below hall, fun _ h => hne h, fun _ => rfl, hx⟩
      · have hnew : L 9 = true → False := fun h => by
          have := hx h
          rw [hu] at this
          cases this
        have hne : L 6 = true → Value.pointer (some ⟨w'.heap.size, 0, none⟩) ≠ p := fun h he => by
          obtain ⟨g, e, _, x', y', z', k, _⟩ := h6 h
          rw [e] at he
          injection he with he
          injection he with he
          injection he with he
          have := k.lt
          omega
        have hall : Below w'.heap.size w' (w'.alloc (.cells #[.int .i64 0, .int .i64 0, .int .i64 0] 25)) := (Below.refl _ _).alloc (Nat.le_refl _) _
        refine ⟨?_⟩
        simp only [setAll, List.zip_cons_cons, List.zip_nil_right]
        go_simp
        exact hK [v0, v1, v2, v3, v4, v5, p, (.pointer (some ⟨w'.heap.size, 0, none⟩))] _ _ (by kernel_rfl) ⟨_, _, _, _, _, _, _, _, rfl, (below_then hb hall (Nat.le_refl _)), h0, h1, h2, h3, h4, h5, fun h => (h6 h).below hall, fun _ => ⟨w'.heap.size, rfl, hsz, _, _, _, Blk.new _ _ _, fun h => (hnew h).elim⟩, fun h _ => (hne h).symm, h9, fun _ => rfl⟩
      · obtain rfl := h2 (hw 2 (by kernel_rfl))
        refine Exists.elim (h6 (hw 6 (by kernel_rfl))) fun g hg1 => ?_
        refine Exists.elim hg1.2.2 fun x' hx' => ?_
        refine Exists.elim hx' fun y' hy' => ?_
        refine Exists.elim hy' fun z' hz' => ?_
        have e := hg1.1
        have hg := hg1.2.1
        have kg := hz'.1
        clear hg1 hx' hy' hz'
        subst e
        have d0 := kg.cell 0
        have d1 := kg.cell 1
        have d2 := kg.cell 2
        have df := kg.frozen
        simp at d0 d1 d2
        refine Exists.elim (three_set kg rfl (.int .i64 r2.a) (.int .i64 r2.b) (.int .i64 r2.c) w2.heap.size hg) fun w2 hw2 => ?_
        have e2 := hw2.1
        have kg' := hw2.2.1
        have B2 := hw2.2.2.1
        have hk2 := hw2.2.2.2
        clear hw2
        refine ⟨?_⟩
        simp only [setAll, List.zip_cons_cons, List.zip_nil_right]
        go_simp
        clear e2
        exact hK [v0, v1, (.agg #[.int .i64 r2.a, .int .i64 r2.b, .int .i64 r2.c]), v3, v4, v5, (.pointer (some ⟨g, 0, none⟩)), q] _ _ (by kernel_rfl) ⟨_, _, _, _, _, _, _, _, rfl, (hb.trans B2), h0, h1, fun _ => rfl, h3, h4, h5, fun _ => ⟨g, rfl, hg, _, _, _, kg', fun _ => ⟨rfl, rfl, rfl⟩⟩, fun h => (h7 h).other hk2 (fun he => h8 (hw 6 (by kernel_rfl)) h he.symm), h8, fun _ => hw 6 (by kernel_rfl), hx⟩
      · obtain rfl := h5 (hw 5 (by kernel_rfl))
        refine Exists.elim (h7 (hw 7 (by kernel_rfl))) fun g hg1 => ?_
        refine Exists.elim hg1.2.2 fun x' hx' => ?_
        refine Exists.elim hx' fun y' hy' => ?_
        refine Exists.elim hy' fun z' hz' => ?_
        have e := hg1.1
        have hg := hg1.2.1
        have kg := hz'.1
        clear hg1 hx' hy' hz'
        subst e
        have d0 := kg.cell 0
        have d1 := kg.cell 1
        have d2 := kg.cell 2
        have df := kg.frozen
        simp at d0 d1 d2
        refine Exists.elim (three_set kg rfl (.int .i64 s2.a) (.int .i64 s2.b) (.int .i64 s2.c) w2.heap.size hg) fun w2 hw2 => ?_
        have e2 := hw2.1
        have kg' := hw2.2.1
        have B2 := hw2.2.2.1
        have hk2 := hw2.2.2.2
        clear hw2
        refine ⟨?_⟩
        simp only [setAll, List.zip_cons_cons, List.zip_nil_right]
        go_simp
        clear e2
        exact hK [v0, v1, v2, v3, v4, (.agg #[.int .i64 s2.a, .int .i64 s2.b, .int .i64 s2.c]), p, (.pointer (some ⟨g, 0, none⟩))] _ _ (by kernel_rfl) ⟨_, _, _, _, _, _, _, _, rfl, (hb.trans B2), h0, h1, h2, h3, h4, fun _ => rfl, fun h => (h6 h).other hk2 (h8 h (hw 7 (by kernel_rfl))), fun _ => ⟨g, rfl, hg, _, _, _, kg', fun _ => ⟨rfl, rfl, rfl⟩⟩, h8, h9, fun _ => hw 7 (by kernel_rfl)⟩
    · rintro vs w3 L hL ⟨v0, v1, v2, v3, v4, v5, p, q, rfl, hb, h0, h1, h2, h3, h4, h5, h6, h7, h8, h9, hx⟩
      obtain rfl := h0 (hL 0 (by decide))
      obtain rfl := h1 (hL 1 (by decide))
      obtain rfl := h2 (hL 2 (by decide))
      obtain rfl := h3 (hL 3 (by decide))
      obtain rfl := h4 (hL 4 (by decide))
      obtain rfl := h5 (hL 5 (by decide))
      obtain ⟨g3, rfl, hg3, _, _, _, q3, hc3⟩ := h6 (hL 6 (by decide))
      obtain ⟨g4, rfl, hg4, _, _, _, q4, hc4⟩ := h7 (hL 7 (by decide))
      obtain ⟨rfl, rfl, rfl⟩ := hc3 (hL 8 (by decide))
      obtain ⟨rfl, rfl, rfl⟩ := hc4 (hL 9 (by decide))
      have q1 := q1.below hb q1.lt
      have q2 := q2.below hb q2.lt
      have B3 := below_then B2 hb (Nat.le_refl _)
      clear h0 h1 h2 h3 h4 h5 h6 h7 h8 h9 hx hc3 hc4 hL L hb k2 B2 hg3 hg4
      simp only [setAll, List.zip_cons_cons, List.zip_nil_right]
      have q1_c := q1.cell
      have q2_c := q2.cell
      have q3_c := q3.cell
      have q4_c := q4.cell
      simp at q1_c q2_c q3_c q4_c
      have e3 : (r.a == s.a) = true := by simp; exact M2.out
      have e4 : (r.b == s.b) = true := by simp; exact M3.out
      have e1 : decide (r.c ≤ s.c) = true := by simp; exact m1
      have e2 : decide (r2.c ≤ s2.c) = true := by simp; exact m4
      go_wp2_with fail
      go_ret
      exact ⟨rfl, B3⟩
end Go.Proofs.Ytlockgodmlloeaa
