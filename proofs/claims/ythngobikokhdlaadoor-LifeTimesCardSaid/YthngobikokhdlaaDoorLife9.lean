/- The fixed facts of the statements on package life, walked. No condition but that the two tables stand. -/
import Derived.Test.YthngobikokhdlaaDoorLife8
import Derived.Test.YthngobikokhdlaaDoorInv
namespace Go.Proofs.YthngobikokhdlaaDoor
open Go.RowKit BigFrame
attribute [local go_sem ↓] Go.wp_at_zero Go.wp_at_succ

/-- A pointer to a block of the call's own, of three cells of type t; these, if b. -/
def Own3 (w : World) (base : Nat) (t : TypeId) (v : Value) (b : Prop) (x y z : Value) : Prop :=
  ∃ g, v = .pointer (some ⟨g, 0, none⟩) ∧ base ≤ g ∧ ∃ x' y' z', Blk w g t #[x', y', z'] ∧ (b → x' = x ∧ y' = y ∧ z' = z)
theorem Own3.below {w w' : World} {base : Nat} {t : TypeId} {v : Value} {b : Prop} {x y z : Value} (h : Own3 w base t v b x y z) (hb : Below w.heap.size w w') : Own3 w' base t v b x y z := by
  obtain ⟨g, e, hg, x', y', z', k, hc⟩ := h
  exact ⟨g, e, hg, x', y', z', k.below hb k.lt, hc⟩

/-- What holds in 'l, is := life.New(0).Report(c, 5, 3)', whatever has come up. -/
def AwakeI (w0 : World) (L : Nat → Bool) (vs : List Value) (w' : World) : Prop :=
  ∃ v0 v1 v2 v3 v4 v5 p v8, vs = [v0, v1, v2, v3, v4, v5, p, v8] ∧ Below w0.heap.size w0 w' ∧
    (L 0 = true → v0 = (.agg #[.int .i64 0, .int .i64 0, .int .i64 0])) ∧ (L 1 = true → v1 = (.agg #[.int .i64 10, .int .i64 5, .int .i64 50, .int .i64 3])) ∧ (L 2 = true → v2 = (.tuple #[.agg #[.int .i64 1, .int .i64 3, .int .i64 0], .bool true])) ∧ (L 3 = true → v3 = (.tuple #[.agg #[.int .i64 1, .int .i64 3, .int .i64 0], .bool true])) ∧ (L 4 = true → v4 = (.agg #[.int .i64 1, .int .i64 3, .int .i64 0])) ∧ (L 5 = true → v5 = .bool true) ∧
    (L 6 = true → Own3 w' w0.heap.size 28 p (L 7 = true) (.int .i64 1) (.int .i64 3) (.int .i64 0)) ∧ (L 7 = true → L 6 = true) ∧ (L 8 = true → v8 = .bool true)

set_option maxHeartbeats 4000000 in
theorem law17_awake (w : World) (hT : Tabs w) :
    Calls Tryd.prog 7 #[] w fun e w' => e = .returned (.bool true) ∧ Below w.heap.size w w' := by
  have hsz := hT.1
  have HN := Lib.hid (fun W => life_New 0 0 (by decide) W)
  have H1 := Lib.hid (fun W (h : Tabs W) => life_Report ⟨0, 0, 0⟩ ⟨1, 3, 0⟩ ⟨10, 5, 50, 3⟩ 5 3 true (by decide) (by decide) W h)
  have H2 := Lib.hid (fun W (h : Tabs W) => life_Report ⟨1, 3, 0⟩ ⟨2, 4, 1⟩ ⟨10, 5, 50, 3⟩ 51 4 true (by decide) (by decide) W h)
  have HTB := Lib.hid hT
  clear hT
  go_enter Tryd.func7, Tryd.ntmps7
  go_upto_region 2 with fail
  have k1 := Blk.new w 34 #[.int .i64 10, .int .i64 5, .int .i64 50, .int .i64 3]
  have B1 : Below w.heap.size w (w.alloc (.cells #[.int .i64 10, .int .i64 5, .int .i64 50, .int .i64 3] 34)) := (Below.refl _ w).alloc (Nat.le_refl _) _
  generalize (w.alloc (.cells #[.int .i64 10, .int .i64 5, .int .i64 50, .int .i64 3] 34)) = w1 at *
  refine wp_region_slots [8, 9, 10, 7, 11, 12, 2, 3] (AwakeI w1) [undef, undef, undef, undef, undef, undef, undef, undef] ?_ ?_ ?_ ?_ ?_ ?_
  · kernel_rfl
  · kernel_rfl
  · kernel_rfl
  · exact ⟨_, _, _, _, _, _, _, _, rfl, (Below.refl _ _).drew, by simp, by simp, by simp, by simp, by simp, by simp, by simp, by simp, by simp⟩
  · rintro L i o ho hu hw _ w' ⟨v0, v1, v2, v3, v4, v5, p, v8, rfl, hb, h0, h1, h2, h3, h4, h5, h6, h7, h8⟩ K hK
    have hk1 := k1.below hb k1.lt
    have c1 := hk1.cell
    simp at c1
    have hsz2 := hb.size
    rcases i with _ | _ | _ | _ | _ | _ | _ | _ | _ | i
    all_goals first | (injection ho with ho; subst ho) | (cases ho; done)
    · clear hk1 c1
      refine ⟨?_⟩
      simp only [setAll, List.zip_cons_cons, List.zip_nil_right]
      go_simp
      refine (HN.out _).mono ?_
      rintro e w2 ⟨rfl, hb2⟩
      go_simp
      exact hK [(.agg #[.int .i64 0, .int .i64 0, .int .i64 0]), v1, v2, v3, v4, v5, p, v8] _ _ (by kernel_rfl) ⟨_, _, _, _, _, _, _, _, rfl, below_then hb hb2 (Nat.le_refl _), fun _ => rfl, h1, h2, h3, h4, h5, fun h => (h6 h).below hb2, h7, h8⟩
    · refine ⟨?_⟩
      simp only [setAll, List.zip_cons_cons, List.zip_nil_right]
      go_simp
      exact hK [v0, (.agg #[.int .i64 10, .int .i64 5, .int .i64 50, .int .i64 3]), v2, v3, v4, v5, p, v8] _ _ (by kernel_rfl) ⟨_, _, _, _, _, _, _, _, rfl, hb, h0, fun _ => rfl, h2, h3, h4, h5, h6, h7, h8⟩
    · obtain rfl := h0 (hw 0 (by kernel_rfl))
      obtain rfl := h1 (hw 1 (by kernel_rfl))
      have hT2 := HTB.out.below (below_then B1 hb (Nat.le_refl _)) hsz
      clear hk1 c1
      refine ⟨?_⟩
      simp only [setAll, List.zip_cons_cons, List.zip_nil_right]
      go_simp
      refine (H1.out _ hT2).mono ?_
      rintro e w2 ⟨rfl, hb2⟩
      go_simp
      exact hK [(.agg #[.int .i64 0, .int .i64 0, .int .i64 0]), (.agg #[.int .i64 10, .int .i64 5, .int .i64 50, .int .i64 3]), (.tuple #[.agg #[.int .i64 1, .int .i64 3, .int .i64 0], .bool true]), v3, v4, v5, p, v8] _ _ (by kernel_rfl) ⟨_, _, _, _, _, _, _, _, rfl, below_then hb hb2 (Nat.le_refl _), h0, h1, fun _ => rfl, h3, h4, h5, fun h => (h6 h).below hb2, h7, h8⟩
    · obtain rfl := h2 (hw 2 (by kernel_rfl))
      refine ⟨?_⟩
      simp only [setAll, List.zip_cons_cons, List.zip_nil_right]
      go_simp
      exact hK [v0, v1, (.tuple #[.agg #[.int .i64 1, .int .i64 3, .int .i64 0], .bool true]), (.tuple #[.agg #[.int .i64 1, .int .i64 3, .int .i64 0], .bool true]), v4, v5, p, v8] _ _ (by kernel_rfl) ⟨_, _, _, _, _, _, _, _, rfl, hb, h0, h1, h2, fun _ => rfl, h4, h5, h6, h7, h8⟩
    · obtain rfl := h3 (hw 3 (by kernel_rfl))
      refine ⟨?_⟩
      simp only [setAll, List.zip_cons_cons, List.zip_nil_right]
      go_simp
      exact hK [v0, v1, v2, (.tuple #[.agg #[.int .i64 1, .int .i64 3, .int .i64 0], .bool true]), (.agg #[.int .i64 1, .int .i64 3, .int .i64 0]), v5, p, v8] _ _ (by kernel_rfl) ⟨_, _, _, _, _, _, _, _, rfl, hb, h0, h1, h2, h3, fun _ => rfl, h5, h6, h7, h8⟩
    · obtain rfl := h3 (hw 3 (by kernel_rfl))
      refine ⟨?_⟩
      simp only [setAll, List.zip_cons_cons, List.zip_nil_right]
      go_simp
      exact hK [v0, v1, v2, (.tuple #[.agg #[.int .i64 1, .int .i64 3, .int .i64 0], .bool true]), v4, (.bool true), p, v8] _ _ (by kernel_rfl) ⟨_, _, _, _, _, _, _, _, rfl, hb, h0, h1, h2, h3, h4, fun _ => rfl, h6, h7, h8⟩
    · have hnew : L 7 = true → False := fun h => by
        have := h7 h
        rw [hu] at this
        cases this
      have hall : Below w'.heap.size w' (w'.alloc (.cells #[.int .i64 0, .int .i64 0, .int .i64 0] 28)) := (Below.refl _ _).alloc (Nat.le_refl _) _
      refine ⟨?_⟩
      simp only [setAll, List.zip_cons_cons, List.zip_nil_right]
      go_simp
      exact hK [v0, v1, v2, v3, v4, v5, (.pointer (some ⟨w'.heap.size, 0, none⟩)), v8] _ _ (by kernel_rfl) ⟨_, _, _, _, _, _, _, _, rfl, (below_then hb hall (Nat.le_refl _)), h0, h1, h2, h3, h4, h5, fun _ => ⟨w'.heap.size, rfl, hsz2, _, _, _, Blk.new _ _ _, fun h => (hnew h).elim⟩, fun _ => rfl, h8⟩
    · obtain rfl := h4 (hw 4 (by kernel_rfl))
      obtain ⟨g, rfl, hg, x', y', z', kg, _⟩ := h6 (hw 6 (by kernel_rfl))
      have d0 := kg.cell 0
      have d1 := kg.cell 1
      have d2 := kg.cell 2
      have df := kg.frozen
      simp at d0 d1 d2
      obtain ⟨w2, e2, kg', B2, hk2⟩ := three_set kg rfl (.int .i64 1) (.int .i64 3) (.int .i64 0) w1.heap.size hg
      refine ⟨?_⟩
      simp only [setAll, List.zip_cons_cons, List.zip_nil_right]
      go_simp
      clear e2
      exact hK [v0, v1, v2, v3, (.agg #[.int .i64 1, .int .i64 3, .int .i64 0]), v5, (.pointer (some ⟨g, 0, none⟩)), v8] _ _ (by kernel_rfl) ⟨_, _, _, _, _, _, _, _, rfl, (hb.trans B2), h0, h1, h2, h3, fun _ => rfl, h5, fun _ => ⟨g, rfl, hg, _, _, _, kg', fun _ => ⟨rfl, rfl, rfl⟩⟩, fun _ => hw 6 (by kernel_rfl), h8⟩
    · obtain rfl := h5 (hw 5 (by kernel_rfl))
      refine ⟨?_⟩
      simp only [setAll, List.zip_cons_cons, List.zip_nil_right]
      go_simp
      exact hK [v0, v1, v2, v3, v4, (.bool true), p, (.bool true)] _ _ (by kernel_rfl) ⟨_, _, _, _, _, _, _, _, rfl, hb, h0, h1, h2, h3, h4, h5, h6, h7, fun _ => rfl⟩
  · rintro vs w2 L hL ⟨v0, v1, v2, v3, v4, v5, p, v8, rfl, hb, h0, h1, h2, h3, h4, h5, h6, h7, h8⟩
    obtain rfl := h0 (hL 0 (by decide))
    obtain rfl := h1 (hL 1 (by decide))
    obtain rfl := h2 (hL 2 (by decide))
    obtain rfl := h3 (hL 3 (by decide))
    obtain rfl := h4 (hL 4 (by decide))
    obtain rfl := h5 (hL 5 (by decide))
    obtain rfl := h8 (hL 8 (by decide))
    obtain ⟨g, rfl, hg, _, _, _, q, hc⟩ := h6 (hL 6 (by decide))
    obtain ⟨rfl, rfl, rfl⟩ := hc (hL 7 (by decide))
    have k2 := k1.below hb k1.lt
    have B2 := below_then B1 hb (Nat.le_refl _)
    have hT2 := HTB.out.below B2 hsz
    clear h0 h1 h2 h3 h4 h5 h6 h7 h8 hc hL L hb k1 B1 hg
    simp only [setAll, List.zip_cons_cons, List.zip_nil_right]
    have c2 := k2.cell
    have cq := q.cell
    simp at c2 cq
    go_wp2_with fail
    refine (H2.out _ hT2).mono ?_
    rintro e w3 ⟨rfl, hb3⟩
    have q3 := q.below hb3 q.lt
    have B3 := below_then B2 hb3 (Nat.le_refl _)
    clear q k2 hb3 c2 cq hT2
    have cq := fun o => (q3.alloc o).cell
    simp at cq
    go_wp2_with fail
    go_ret
    exact ⟨rfl, B3.alloc B3.size _⟩
end Go.Proofs.YthngobikokhdlaaDoor
