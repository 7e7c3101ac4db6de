/- The reference's Pop. No condition. -/
import Derived.Test.YtomhnegfemdcdaaQueueRef2
namespace Go.Proofs.Ytomhnegfemdcdaa
open Go.RowKit BigFrame
attribute [local go_sem ↓] Go.wp_at_zero Go.wp_at_succ

set_option maxHeartbeats 4000000 in
theorem ref20_Pop0 (x : Value) (a b : Int) (sv : Value) (w : World) (R : RQ w x a b [] sv) :
    Calls Try.prog 39 #[x] w fun e w' => e = .returned (.tuple #[x, .string ByteArray.empty, .bool false]) ∧ Below w.heap.size w w' := by
  obtain ⟨ra, rc, rfl, SL⟩ := R.slice_
  obtain ⟨rfl, ownR⟩ := R
  simp only [List.length_nil] at *
  obtain ⟨K1, K2, B1⟩ := two_new w #[.int .i64 a, .int .i64 b, .slice ra 0 rc] #[.int .i64 0, .int .i64 0, .slice none 0 0] 58 58
  clear SL ownR
  go_enter Try.func39, Try.ntmps39
  go_upto_region 1 with fail
  generalize (w.alloc (.cells #[.int .i64 a, .int .i64 b, .slice ra 0 rc] 58)).alloc (.cells #[.int .i64 0, .int .i64 0, .slice none 0 0] 58) = w1 at *
  have c1 := K1.cell
  have c2 := K2.cell
  have f2 := K2.frozen
  simp at c1 c2
  obtain ⟨w5, e5, K5, B5, hk5⟩ := three_set K2 rfl (.int .i64 a) (.int .i64 b) (.slice ra 0 rc) w.heap.size (by omega)
  have c5 := K5.cell
  simp at c5
  go_wp2_with fail
  refine bodyPost_ret (v := .tuple #[.agg #[.int .i64 a, .int .i64 b, .slice ra 0 rc], .string ByteArray.empty, .bool false]) ?_ rfl ⟨rfl, B1.trans B5⟩
  simp [results, Try.results39, go_sem, c5]
  try rfl
set_option maxHeartbeats 4000000 in
theorem ref20_Pop (x : Value) (a b : Int) (s : ByteArray) (l : List ByteArray) (sv : Value) (w : World) (R : RQ w x a b (s :: l) sv) (hl : l.length ≤ 10000) :
    Calls Try.prog 39 #[x] w fun e w' => ∃ x', e = .returned (.tuple #[x', .string s, .bool true]) ∧ ∃ sv', RQ w' x' a b l sv' ∧ (∀ k, sv'.ownBlock = some k → w.heap.size ≤ k) ∧ Below w.heap.size w w' := by
  obtain ⟨i0, hi0, hz0, hz1, hz2⟩ := info_parts (show (Try.prog.info? 9).map (fun i => (i.zero, i.size, i.bytes)) = some (some (.string ByteArray.empty), 1, 16) by kernel_rfl)
  obtain ⟨ra, rc, rfl, SL⟩ := R.slice_
  obtain ⟨rfl, ownR⟩ := R
  obtain ⟨n, hn⟩ : ∃ n, l.length = n := ⟨_, rfl⟩
  obtain ⟨N, hNN⟩ : ∃ N, n + 1 = N := ⟨_, rfl⟩
  have hln : (s :: l).length = N := by rw [List.length_cons, hn, hNN]
  rw [hln] at SL
  rw [hln]
  obtain ⟨g0, o0, rfl, hg0, hcell⟩ := SL.at1 (by omega)
  have hsl := SL.1
  have hsl2 := SL.2.1
  rw [maxLen_eq] at hsl2
  obtain ⟨K1, K2, B1⟩ := two_new w #[.int .i64 a, .int .i64 b, .slice (some ⟨g0, o0, none⟩) N rc] #[.int .i64 0, .int .i64 0, .slice none 0 0] 58 58
  have d0 := hcell 0 (by omega)
  simp at d0
  have hll : (textCells l).length = n * 1 := by unfold textCells; simp [hn]
  have hol := texts_one l
  have hnews : ∀ W, Below w.heap.size w W → 0 < n → ∃ a0 : Addr, some (⟨g0, o0 + 1, none⟩ : Addr) = some a0 ∧ ∀ j u, (textCells l)[j]? = some u → W.cell? (a0.add j) = some u := fun W hb hp => by
    refine ⟨_, rfl, fun j u hu => ?_⟩
    have hj : j < l.length := by
      have := (List.getElem?_eq_some_iff.1 hu).1
      unfold textCells at this
      simpa using this
    have hadd : (⟨g0, o0 + 1, none⟩ : Addr).add j = ⟨g0, o0 + (j + 1), none⟩ := by
      have e : o0 + 1 + j = o0 + (j + 1) := by omega
      unfold Addr.add; split <;> simp_all
    rw [hadd, (hb.cell (p := ⟨g0, o0 + (j + 1), none⟩) hg0).trans (hcell (j + 1) (by omega))]
    unfold textCells at hu
    rw [List.getElem?_map, List.getElem?_eq_getElem hj] at hu
    simp at hu
    rw [← hu]
    simp [hj]
  have i1 : (0 : Int) < (N : Int) := by omega
  have i2 : ¬ ((N : Int) = 0) := by omega
  have i3 : (1 : Int) ≤ (N : Int) := by omega
  have i4 : ((N : Int) == 0) = false := by simp; omega
  have i5 : ¬ N < 1 := by omega
  have i6 : N ≤ rc := by omega
  have i7 : N - 1 = n := by omega
  have HNN := Lib.hid hNN
  have hnb : n ≤ 10000 := by omega
  have HN := Lib.hid hn
  clear SL ownR hcell hn hln hNN
  by_cases hrc : rc = 1
  · obtain rfl : N = 1 := by omega
    obtain rfl : n = 0 := by omega
    subst hrc
    have hnews : ∀ W, Below w.heap.size w W → 0 < 0 → ∃ a0 : Addr, some (⟨g0, o0, none⟩ : Addr) = some a0 ∧ ∀ j u, (textCells l)[j]? = some u → W.cell? (a0.add j) = some u := fun W hb hp => absurd hp (by omega)
    go_enter Try.func39, Try.ntmps39
    go_upto_region 1 with fail
    generalize (w.alloc (.cells #[.int .i64 a, .int .i64 b, .slice (some ⟨g0, o0, none⟩) 1 1] 58)).alloc (.cells #[.int .i64 0, .int .i64 0, .slice none 0 0] 58) = w1 at *
    have hs1 := K2.lt
    have c1 := K1.cell
    have d1 := (B1.cell (p := ⟨g0, o0, none⟩) hg0).trans d0
    simp at c1
    go_upto_region 4 with fail
    have own1 := own_lit w1 9 1
    have B1a : Below w.heap.size w (w1.alloc (.cells #[] 9)) := B1.alloc B1.size _
    have hn1 := hnews _ B1a
    have k1a := K1.alloc (.cells #[] 9)
    have c1a := k1a.cell
    have f1a := k1a.frozen
    simp at c1a
    go_upto_region 5 with (at_builtin; refine wpList_append_sl rfl _ _ 45 rfl w1.heap.size 9 i0 (.string ByteArray.empty) 1 16 Try.underlying45 hi0 hz0 hz1 hz2 rfl (by decide) _ _ _ rfl own1 (some ⟨g0, o0, none⟩) 0 0 (textCells l) rfl hll hn1 hol (by rw [maxLen_eq]; omega) (by omega) (by simp) ?_; intro v2 w2 own2 hgrow2 hat2 hsh2; obtain ⟨s2, k2, rfl⟩ := hsh2; have hg2 := (show (w1.alloc (.cells #[] 9)).grownBy w2 (some w1.heap.size) from hgrow2); have B2 : Below w1.heap.size w1 w2 := (((Below.refl _ w1).alloc (Nat.le_refl _) _).grown hg2 (by simp) (fun j hj => by injection hj with hj; omega)); simp only [Nat.zero_add, List.nil_append] at own2; have k12 := K1.below B2 (by omega); have c12 := k12.cell; have f12 := k12.frozen; simp at c12; clear c1a f1a)
    have K1' := k12.set_ 2 (.slice s2 0 k2)
    simp at K1'
    have hs2 := B2.size
    have K2' := (K2.below B2 hs1).far (p := ⟨w.heap.size, 2, none⟩) (by simp) (.slice s2 0 k2)
    have o2 := own2.lt
    have hk6 : ∀ z, z ≠ w.heap.size → (w2.setCell ⟨w.heap.size, 2, none⟩ (.slice s2 0 k2)).heap[z]? = w2.heap[z]? := fun z hz => Below.heap_setCell _ ⟨w.heap.size, 2, none⟩ _ z hz
    have B6 := (below_then B1 B2 (Nat.le_refl _)).setCell (p := ⟨w.heap.size, 2, none⟩) (Nat.le_refl _) (.slice s2 0 k2)
    have own4 := own_at own2 (w' := w2.setCell ⟨w.heap.size, 2, none⟩ (.slice s2 0 k2)) (fun j hj => hk6 j (by have := (o2 j hj).1; omega))
    generalize w2.setCell ⟨w.heap.size, 2, none⟩ (.slice s2 0 k2) = w6 at *
    clear c12 f12 K1 K2 k12 own2 own1 B2 k1a hk6 c1 d1
    have c1 := K1'.cell
    have c2 := K2'.cell
    have f2 := K2'.frozen
    simp at c1 c2
    obtain ⟨w5, e5, K5, B5, hk5⟩ := three_set K2' rfl (.int .i64 a) (.int .i64 b) (.slice s2 0 k2) w.heap.size (by omega)
    have c5 := K5.cell
    simp at c5
    have own5 := own_at own4 (w' := w5) (fun j hj => hk5 j (by have := (own4.lt j hj).1; omega))
    go_wp2_with fail
    refine bodyPost_ret (v := .tuple #[.agg #[.int .i64 a, .int .i64 b, .slice s2 0 k2], .string s, .bool true]) ?_ rfl ⟨_, rfl, .slice s2 0 k2, ⟨rfl, ?_⟩, fun k hk => ?_, B6.trans B5⟩
    · simp [results, Try.results39, go_sem, c5]
    · rw [HN.out]
      exact own_base own5
    · have := (own5.lt k hk).1
      omega
  · have hrc2 : ¬ rc - 1 = 0 := by omega
    have hrc3 : 1 < rc := by omega
    go_enter Try.func39, Try.ntmps39
    go_upto_region 1 with fail
    generalize (w.alloc (.cells #[.int .i64 a, .int .i64 b, .slice (some ⟨g0, o0, none⟩) N rc] 58)).alloc (.cells #[.int .i64 0, .int .i64 0, .slice none 0 0] 58) = w1 at *
    have hs1 := K2.lt
    have c1 := K1.cell
    have d1 := (B1.cell (p := ⟨g0, o0, none⟩) hg0).trans d0
    simp at c1
    go_upto_region 4 with fail
    have own1 := own_lit w1 9 1
    have B1a : Below w.heap.size w (w1.alloc (.cells #[] 9)) := B1.alloc B1.size _
    have hn1 := hnews _ B1a
    have k1a := K1.alloc (.cells #[] 9)
    have c1a := k1a.cell
    have f1a := k1a.frozen
    simp at c1a
    go_upto_region 5 with (at_builtin; refine wpList_append_sl rfl _ _ 45 rfl w1.heap.size 9 i0 (.string ByteArray.empty) 1 16 Try.underlying45 hi0 hz0 hz1 hz2 rfl (by decide) _ _ _ rfl own1 (some ⟨g0, o0 + 1, none⟩) n (rc - 1) (textCells l) rfl hll hn1 hol (by rw [maxLen_eq]; omega) (by omega) (by simp) ?_; intro v2 w2 own2 hgrow2 hat2 hsh2; obtain ⟨s2, k2, rfl⟩ := hsh2; have hg2 := (show (w1.alloc (.cells #[] 9)).grownBy w2 (some w1.heap.size) from hgrow2); have B2 : Below w1.heap.size w1 w2 := (((Below.refl _ w1).alloc (Nat.le_refl _) _).grown hg2 (by simp) (fun j hj => by injection hj with hj; omega)); simp only [Nat.zero_add, List.nil_append] at own2; have k12 := K1.below B2 (by omega); have c12 := k12.cell; have f12 := k12.frozen; simp at c12; clear c1a f1a)
    have K1' := k12.set_ 2 (.slice s2 n k2)
    simp at K1'
    have hs2 := B2.size
    have K2' := (K2.below B2 hs1).far (p := ⟨w.heap.size, 2, none⟩) (by simp) (.slice s2 n k2)
    have o2 := own2.lt
    have hk6 : ∀ z, z ≠ w.heap.size → (w2.setCell ⟨w.heap.size, 2, none⟩ (.slice s2 n k2)).heap[z]? = w2.heap[z]? := fun z hz => Below.heap_setCell _ ⟨w.heap.size, 2, none⟩ _ z hz
    have B6 := (below_then B1 B2 (Nat.le_refl _)).setCell (p := ⟨w.heap.size, 2, none⟩) (Nat.le_refl _) (.slice s2 n k2)
    have own4 := own_at own2 (w' := w2.setCell ⟨w.heap.size, 2, none⟩ (.slice s2 n k2)) (fun j hj => hk6 j (by have := (o2 j hj).1; omega))
    generalize w2.setCell ⟨w.heap.size, 2, none⟩ (.slice s2 n k2) = w6 at *
    clear c12 f12 K1 K2 k12 own2 own1 B2 k1a hk6 c1 d1
    have c1 := K1'.cell
    have c2 := K2'.cell
    have f2 := K2'.frozen
    simp at c1 c2
    obtain ⟨w5, e5, K5, B5, hk5⟩ := three_set K2' rfl (.int .i64 a) (.int .i64 b) (.slice s2 n k2) w.heap.size (by omega)
    have c5 := K5.cell
    simp at c5
    have own5 := own_at own4 (w' := w5) (fun j hj => hk5 j (by have := (own4.lt j hj).1; omega))
    go_wp2_with fail
    refine bodyPost_ret (v := .tuple #[.agg #[.int .i64 a, .int .i64 b, .slice s2 n k2], .string s, .bool true]) ?_ rfl ⟨_, rfl, .slice s2 n k2, ⟨rfl, ?_⟩, fun k hk => ?_, B6.trans B5⟩
    · simp [results, Try.results39, go_sem, c5]
    · rw [HN.out]
      exact own_base own5
    · have := (own5.lt k hk).1
      omega
end Go.Proofs.Ytomhnegfemdcdaa
