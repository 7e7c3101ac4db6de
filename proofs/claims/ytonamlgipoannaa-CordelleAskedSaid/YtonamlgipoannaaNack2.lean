/- Package nack: a pair's numbers, all. No condition. -/
import Derived.Test.YtonamlgipoannaaNack1
namespace Go.Proofs.Ytonamlgipoannaa
open Go.RowKit Go.Shelf
attribute [local go_sem] Oper.semAt_some

theorem cellsK_len (k : IntKind) (l : List Int) : (cellsK k l).length = l.length := by simp [cellsK]
theorem KeepsPairs.trans {A B C : World} (h : KeepsPairs A B) (k : KeepsPairs B C) : KeepsPairs A C := fun i cs fr e => k i cs fr (h i cs fr e)
theorem keepsPairs_put (W : World) (l : Nat) (o o' : Obj) (h : W.heap[l]? = some o) (ho : o.isCells = false) : KeepsPairs W (W.putObj l o') := fun k cs fr e => by
  have hne : k ≠ l := fun e2 => by
    subst e2
    rw [h] at e
    injection e with e
    subst e
    cases ho
  exact (World.putObj_heap_other hne).trans e
theorem info_u16 : (Try.prog.info? 90).map (fun i => (i.zero, i.size, i.bytes)) = some (some (.int .u16 0), 1, 2) := by kernel_rfl
theorem own_at2 {w w' : World} {B e size n : Nat} {v : Value} {xs : List Value} (h : w.ownsRow B e size v n xs) (hk : ∀ j, v.ownBlock = some j → w'.heap[j]? = w.heap[j]?) : w'.ownsRow B e size v n xs := by
  refine ⟨h.1, ?_⟩
  rcases h.2 with hn | ⟨g, cap, cur, rfl, hb, hgg, rest⟩
  · exact .inl hn
  · exact .inr ⟨g, cap, cur, rfl, hb, (hk g rfl).trans hgg, rest⟩
theorem below_put {B : Nat} {w W : World} {l : Nat} {o : Obj} (h : Below B w W) (hs : B ≤ W.heap.size) (hl : B ≤ l) (o' : Obj) : Below B w (W.putObj l o') :=
  h.trans ((Below.refl B W).grown (grownBy_putObj' W l o') hs (fun k e => by cases e; exact hl))
theorem ownsRow_alloc {W : World} {base e size n : Nat} {v : Value} {xs : List Value} (h : W.ownsRow base e size v n xs) (o : Obj) : (W.alloc o).ownsRow base e size v n xs := own_at2 h (fun j hj => Below.heap_alloc _ _ _ (h.lt j hj).2)
set_option maxRecDepth 100000 in
set_option maxHeartbeats 2000000 in
theorem pair_Numbers (p : Int) (b : Nat) (hp : 0 ≤ p ∧ p ≤ 65535) (hb : b < 65536) (w : World) :
    Calls Try.prog 67 #[.agg #[.int .u16 p, .int .u16 (b : Int)]] w (OwnsRes w 90 (numsB p b 16).length (cellsK .u16 (numsB p b 16))) := by
  refine (callsIn_wide (n := 5)).1 ?_
  obtain ⟨i0, hi, hz0, hz1, hz2⟩ := info_parts info_u16
  refine callsIn_of_wp_marks Try.func67 rfl trivial ?_ rfl
  simp only [Try.ntmps67, List.size_toArray, List.length_cons, List.length_nil, Nat.reduceAdd, Nat.reduceSub, Array.replicate_succ, Array.replicate_zero, List.push_toArray, List.append_toArray, List.nil_append, List.cons_append]
  have kp := (Blk.new w 129 #[.int .u16 p, .int .u16 (b : Int)]).alloc (.cells #[.slice none 0 0] 82)
  have kc := kp.cell
  simp at kc
  have bO : Boxed ((w.alloc (.cells #[.int .u16 p, .int .u16 (b : Int)] 129)).alloc (.cells #[.slice none 0 0] 82)) (w.heap.size + 1) 82 (.slice none 0 0) := by
    have := Boxed.new (w.alloc (.cells #[.int .u16 p, .int .u16 (b : Int)] 129)) 82 (.slice none 0 0)
    rw [World.size_alloc] at this
    exact this
  have hB0 : Below w.heap.size w ((w.alloc (.cells #[.int .u16 p, .int .u16 (b : Int)] 129)).alloc (.cells #[.slice none 0 0] 82)) := ((Below.refl _ w).alloc (Nat.le_refl _) _).alloc (by simp) _
  gi_wp2
  generalize (w.alloc (.cells #[.int .u16 p, .int .u16 (b : Int)] 129)).alloc (.cells #[.slice none 0 0] 82) = w2 at *
  have s2 := hB0.size
  refine range_bound (α := Int) rfl (by decide) (gf := 76) (fa := #[.agg #[.int .u16 p, .int .u16 (b : Int)]]) (lb := #[]) rfl trivial (enters_of Try.func76 (by kernel_rfl) rfl)
    (pair_each p b hp hb _ (by decide)) KeepsPairs.trans keepsPairs_put (fun _ => rfl)
    (fun pre W => (∃ v, Boxed W (w.heap.size + 1) 82 v ∧ W.ownsRow w.heap.size 90 1 v pre.length (cellsK .u16 pre)) ∧ Below w.heap.size w W)
    ?ia ?ip ⟨⟨_, bO, World.ownsRow_nil _ _ _ _⟩, hB0⟩
    (fun x => { tmps := #[.agg #[.int .u16 p, .int .u16 (b : Int)], .pointer (some ⟨w.heap.size, 0, none⟩), .slice none 0 0, .pointer (some ⟨w.heap.size + 1, 0, none⟩), .int .u16 x, .agg #[.int .u16 p, .int .u16 (b : Int)], .func (.func 76) #[.agg #[.int .u16 p, .int .u16 (b : Int)]] #[], .int .u16 x, undef, undef, undef, undef, undef], defers := [] }) ?assign ?body ?done
  case ia =>
    rintro s W o ⟨⟨v, hv, hr⟩, hB⟩
    exact ⟨⟨v, hv.alloc o, ownsRow_alloc hr o⟩, hB.alloc hB.size o⟩
  case ip =>
    rintro s W l o o' ⟨⟨v, hv, hr⟩, hB⟩ hl ho hc
    refine ⟨⟨v, (World.putObj_heap_other (fun e => ?_)).trans hv, ownsRow_putObj hr o' ho hc⟩, below_put (o := o) hB hB.size (by omega) o'⟩
    rw [← e] at ho
    have hv' : W.heap[w.heap.size + 1]? = _ := hv
    rw [hv'] at ho
    injection ho with ho
    subst ho
    cases hc
  case assign =>
    intro l x W K hK
    gi_wp2
    exact hK
  case body =>
    rintro l pre x W ⟨⟨v, hv, hrow⟩, hB⟩ hlt
    have hc := hv.cell
    have sB := hB.size
    gi_wp2_with (gi_at_builtin; refine wpListIn_append_own _ rfl _ _ 82 rfl w.heap.size 90 i0 (.int .u16 0) 1 2 Try.underlying82 hi hz0 hz1 hz2 rfl (by decide) _ _ _ rfl (hrow.alloc _) ⟨W.heap.size, 0, none⟩ 1 1 [.int .u16 x] rfl rfl (cell_one_new _ _ _) (by simp [Value.oneCell']) (by unfold maxLen; omega) (by omega) (by simp; omega) ?_; intro v' w1 hown' hgrow _; obtain ⟨g', cap', rfl⟩ := ownsRow_succ hown'; obtain ⟨hv1, hv2, hr2, hk2, hb2⟩ := hv.appended (by decide) hrow hB.size (by omega) hown' hgrow; have hc1 := hv1.cell; have hf1 := hv1.frozen)
    have hkp : KeepsPairs W (w1.setCell ⟨w.heap.size + 1, 0, none⟩ (.slice (some ⟨g', 0, none⟩) (pre.length + 1) cap')) := fun k cs fr e => by
      have hlt := (Array.getElem?_eq_some_iff.1 e).1
      have hne1 : k ≠ w.heap.size + 1 := fun e2 => by
        subst e2
        have hv' : W.heap[w.heap.size + 1]? = _ := hv
        rw [hv'] at e
        injection e with e
        injection e with e1 e2
        exact absurd e2 (by decide)
      have hne2 : some k ≠ v.ownBlock := fun e2 => by
        rcases hrow.2 with ⟨rfl, _⟩ | ⟨g, cap, cur, rfl, _, hg, _⟩
        · cases e2
        · simp only [Value.ownBlock, Option.some.injEq] at e2
          subst e2
          rw [hg] at e
          injection e with e
          injection e with e1 e2
          exact absurd e2 (by decide)
      exact (Below.heap_setCell _ ⟨w.heap.size + 1, 0, none⟩ _ k hne1).trans ((hgrow.block k (by simp; omega) hne2).trans ((Below.heap_alloc _ _ _ hlt).trans e))
    refine ⟨rfl, hk2.from _, hkp, ⟨_, hv2, ?_⟩, hB.trans hb2⟩
    have e2 : cellsK .u16 (pre ++ [x]) = cellsK .u16 pre ++ [.int .u16 x] := by simp [cellsK]
    rw [e2]
    simpa using hr2
  case done =>
    rintro D ys W hD rfl ⟨⟨v, hv, hrow⟩, hB⟩ hK
    have hc := hv.cell
    gi_wp2
    refine ⟨by simp, .inl ⟨_, _, rfl, run_takeDeferred hK, ?_⟩⟩
    exact ⟨_, results_tmp rfl _ _ _, v, rfl, ownsRow_putObj hrow _ hK rfl, below_put (o := .deferred (some [])) hB hB.size (by omega) _⟩
end Go.Proofs.Ytonamlgipoannaa
