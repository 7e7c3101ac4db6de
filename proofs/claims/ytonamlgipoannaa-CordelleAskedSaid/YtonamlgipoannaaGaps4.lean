/- Package gaps: a row is cut, cloned; Clone. No condition but that the gaps stand, by rising numbers. -/
import Derived.Test.YtonamlgipoannaaGaps3
namespace Go.Proofs.Ytonamlgipoannaa
open Go.RowKit BigFrame
attribute [local go_sem ↓] Go.wp_at_zero Go.wp_at_succ

set_option maxRecDepth 8000 in
set_option maxHeartbeats 4000000 in
theorem want_Delete0 (n c : Nat) (a : Option Addr) (hnone : a = none → n = 0 ∧ c = 0) (hn : n ≤ c) (hc : c ≤ 9223372036854775807) (w : World) (hb : ∀ x, a = some x → ∃ g, x = ⟨g, 0, none⟩) :
    Calls Try.prog 54 #[.slice a n c, .int .i64 0, .int .i64 0] w fun e w' => e = .returned (.slice a n c) ∧ w = w' := by
  cases a with
  | none =>
    obtain ⟨rfl, rfl⟩ := hnone rfl
    go_enter Try.func54, Try.ntmps54
    go_wp2_with fail
    go_ret
    exact ⟨rfl, rfl⟩
  | some x =>
    obtain ⟨g, rfl⟩ := hb x rfl
    have i1 : (n : Int) ≤ (c : Int) := by omega
    have i0 : (0 : Int) ≤ (n : Int) := by omega
    clear hnone hb
    go_enter Try.func54, Try.ntmps54
    go_wp2_with fail
    go_ret
    exact ⟨rfl, rfl⟩
theorem rowW_split (l : List WR) (k : Nat) : rowW l = rowW (l.take k) ++ rowW (l.drop k) := by rw [← rowW_append, List.take_append_drop]
/-- Places p .. q-1 of a row go. -/
theorem want_cut (l : List WR) (v : Value) (w : World) (own : w.ownsRow 0 112 4 v l.length (rowW l)) (hl : l.length ≤ 100000) (p q : Nat) (hpq : p ≤ q) (hq : q ≤ l.length) (hp0 : p = q → p = 0) (l2 : List WR) (hl2 : l.take p ++ l.drop q = l2) :
    Calls Try.prog 54 #[v, .int .i64 (p : Int), .int .i64 (q : Int)] w fun e w' => ∃ v', e = .returned v' ∧ (∃ a' n' c', v' = .slice a' n' c') ∧ w'.ownsRow 0 112 4 v' l2.length (rowW l2) ∧ v'.ownBlock = v.ownBlock ∧ (∀ j, v.ownBlock ≠ some j → w'.heap[j]? = w.heap[j]?) ∧ Below 0 w w' := by
  subst hl2
  rcases Nat.eq_or_lt_of_le hpq with rfl | hlt
  · obtain rfl : p = 0 := hp0 rfl
    rcases own.2 with ⟨rfl, h0⟩ | ⟨g', cap, cur, rfl, hb', hg, hn, hm, hs, hx⟩
    · refine (want_Delete0 0 0 none (fun _ => ⟨rfl, rfl⟩) (Nat.le_refl _) (by omega) w (fun x e => by cases e)).mono ?_
      rintro e w' ⟨rfl, rfl⟩
      exact ⟨_, rfl, ⟨_, _, _, rfl⟩, by simpa using own, rfl, fun _ _ => rfl, Below.refl _ _⟩
    · rw [maxLen_eq] at hm
      refine (want_Delete0 l.length cap (some ⟨g', 0, none⟩) (fun e => by cases e) hn hm w (fun x e => by injection e with e; exact ⟨g', e.symm⟩)).mono ?_
      rintro e w' ⟨rfl, rfl⟩
      exact ⟨_, rfl, ⟨_, _, _, rfl⟩, by simpa using own, rfl, fun _ _ => rfl, Below.refl _ _⟩
  · rcases own.2 with ⟨rfl, h0⟩ | ⟨g', cap, cur, rfl, hb', hg, hn, hm, hs, hx⟩
    · omega
    · have hrow : rowW l = rowW (l.take p) ++ (rowW ((l.drop p).take (q - p)) ++ rowW (l.drop q)) := by
        rw [← rowW_append, ← rowW_append]
        have e1 : (l.drop p).take (q - p) ++ l.drop q = l.drop p := by
          have h1 := List.take_append_drop (q - p) (l.drop p)
          rw [List.drop_drop, show p + (q - p) = q by omega] at h1
          exact h1
        rw [e1, List.take_append_drop]
      have own2 := own
      rw [hrow] at own2
      have H := want_Delete 0 g' l.length p (l.length - q) (q - p) cap (rowW (l.take p)) (rowW ((l.drop p).take (q - p))) (rowW (l.drop q)) w own2 (rowW_one _) (by rw [rowW_len, List.length_take]; omega) (by rw [rowW_len, List.length_take, List.length_drop]; omega) (by rw [rowW_len, List.length_drop]) (by omega) (by omega) hl
      rw [show p + (q - p) = q by omega] at H
      refine H.mono ?_
      rintro e w' ⟨rfl, ow, hk, hB⟩
      exact ⟨_, rfl, ⟨_, _, _, rfl⟩, by rw [List.length_append, List.length_take, List.length_drop, rowW_append, Nat.min_eq_left (by omega)]; exact ow, rfl, fun j hj => hk j (fun e => hj (by rw [e]; rfl)), hB⟩
/-- How many are up to a number. -/
structure UptoW (l : List WR) (u : Int) (k : Nat) : Prop where
  le : k ≤ l.length
  lo : ∀ i r, l[i]? = some r → i < k → r.n ≤ u
  hi : ∀ i r, l[i]? = some r → k ≤ i → u < r.n
theorem uptoW_of {l : List WR} {u : Int} {p : Nat} {fd : Bool} (hr : RisingW l) (hp : PosW l u p) (hf : foundW l u p = fd) : UptoW l u (if fd then p + 1 else p) := by
  cases fd with
  | false =>
    refine ⟨hp.le, fun i r h1 h2 => Int.le_of_lt (hp.lo i r h1 h2), fun i r h1 h2 => ?_⟩
    have h3 := hp.hi i r h1 h2
    have h4 := foundW_none hf hp hr r (List.mem_of_getElem? h1)
    omega
  | true =>
    obtain ⟨q, hq, hqs⟩ := foundW_some hf
    have hpl := (List.getElem?_eq_some_iff.1 hq).1
    simp only [if_true]
    refine ⟨by omega, fun i r h1 h2 => ?_, fun i r h1 h2 => ?_⟩
    · rcases Nat.lt_or_ge i p with h3 | h3
      · exact Int.le_of_lt (hp.lo i r h1 h3)
      · obtain rfl : i = p := by omega
        rw [hq] at h1
        injection h1 with h1
        subst h1
        omega
    · have := hr p i q r (by omega) hq h1
      omega
/-- The cells of a row of records. -/
theorem want_news {w : World} {B : Nat} {va : Option Addr} {vc n : Nat} {l : List WR} (h : w.ownsRow B 112 4 (.slice va n vc) n (rowW l)) : 0 < n → ∃ a0, va = some a0 ∧ ∀ j u, (rowW l)[j]? = some u → w.cell? (a0.add j) = some u := fun hn => by
  rcases h.2 with ⟨e, h0⟩ | ⟨g', cap, cur, e, hb', hg, hn', hm, hs, hx⟩
  · omega
  · injection e with e1 e2 e3
    subst e1 e3
    refine ⟨_, rfl, fun j u hu => ?_⟩
    have hj : j < n * 4 := by
      have h1 := (List.getElem?_eq_some_iff.1 hu).1
      have h2 := h.1
      omega
    have hadd : (⟨g', 0, none⟩ : Addr).add j = ⟨g', j, none⟩ := by unfold Addr.add; split <;> simp_all
    rw [hadd, World.ownsRow.cellAt h j hj, hu]
set_option maxHeartbeats 4000000 in
theorem want_Clone (B n c : Nat) (a : Option Addr) (l : List WR) (w : World) (h : w.ownsRow B 112 4 (.slice a n c) n (rowW l)) (hn : n ≤ 100000) :
    Calls Try.prog 65 #[.slice a n c] w fun e w' => ∃ v', e = .returned v' ∧ (∃ a' c', v' = .slice a' n c') ∧ w'.ownsRow w.heap.size 112 4 v' n (rowW l) ∧ Below w.heap.size w w' := by
  obtain ⟨i0, hi0, hz0, hz1, hz2⟩ := info_want
  have hlen : (rowW l).length = n * 4 := h.1
  have Ba : Below w.heap.size w (w.alloc (.cells #[] 112)) := (Below.refl _ w).alloc (Nat.le_refl _) _
  have hnews := want_news (own_at h (w' := w.alloc (.cells #[] 112)) (fun j hj => Ba.block j (h.lt j hj).2))
  have hone := rowW_one l
  have own1 := own_lit w 112 4
  have hq := fun W : World => Lib.run_eql_slice_nil (P := Try.prog) W 108 112 a n c 0 0 Try.underlying108
  cases a with
  | none =>
    have hn0 : n = 0 := by
      rcases Nat.eq_zero_or_pos n with h' | h'
      · exact h'
      · obtain ⟨a0, e, _⟩ := hnews h'
        cases e
    subst hn0
    have hnil : rowW l = [] := List.length_eq_zero_iff.1 (by rw [hlen])
    rw [hnil]
    clear hnews hone hlen h hnil
    go_enter Try.func65, Try.ntmps65
    go_wp2_with fail
    go_ret
    exact ⟨_, rfl, ⟨_, _, rfl⟩, ⟨rfl, .inl ⟨rfl, rfl⟩⟩, Below.refl _ _⟩
  | some ad =>
    clear h
    go_enter Try.func65, Try.ntmps65
    go_wp2_with (at_builtin; refine wpList_append_sl rfl _ _ 108 rfl w.heap.size 112 i0 (.agg zWant) 4 32 Try.underlying108 hi0 hz0 hz1 hz2 rfl (by decide) _ _ _ rfl own1 _ n c (rowW l) rfl hlen hnews hone (by rw [maxLen_eq]; omega) (by omega) (by simp) ?_; intro v1 w1 own2 hgrow hat hsh)
    obtain ⟨sa, sc, rfl⟩ := hsh
    have hg2 : (w.alloc (.cells #[] 112)).grownBy w1 (some w.heap.size) := hgrow
    simp only [Nat.zero_add, List.nil_append] at own2
    have B1 : Below w.heap.size w w1 := ((Below.refl _ w).alloc (Nat.le_refl _) _).grown hg2 (by simp) (fun j hj => by injection hj with hj; omega)
    go_wp2_with fail
    go_ret
    exact ⟨_, rfl, ⟨sa, sc, by simp⟩, by simpa using own2, B1⟩
set_option maxRecDepth 8000 in
set_option maxHeartbeats 4000000 in
theorem gaps_Clone (g : Nat) (a b c d : Int) (y : Bool) (e' u : Int) (l : List WR) (v : Value) (w : World) (h : GV w g a b c d y e' u l v) (hl : l.length ≤ 100000) :
    Calls Try.prog 35 #[.pointer (some ⟨g, 0, none⟩)] w fun e w' => ∃ gc, e = .returned (.pointer (some ⟨gc, 0, none⟩)) ∧ ∃ v', GV w' gc a b c d y e' u l v' ∧ w.heap.size ≤ gc ∧ (∀ k, v'.ownBlock = some k → w.heap.size ≤ k) ∧ Below w.heap.size w w' := by
  obtain ⟨va, vc, rfl, -⟩ := own_want h.own
  obtain ⟨n, hn⟩ : ∃ n, l.length = n := ⟨_, rfl⟩
  have HN := Lib.hid hn
  have own := h.own
  have k := h.blk
  rw [hn] at own k hl
  have c0 := k.cell
  simp at c0
  have K1 := Blk.new w 110 #[.int .i64 a, .int .i64 b, .int .i64 c, .int .i64 d, .slice va n vc, .bool y, .int .i64 e', .int .i64 u]
  have B1 : Below w.heap.size w (w.alloc (.cells #[.int .i64 a, .int .i64 b, .int .i64 c, .int .i64 d, .slice va n vc, .bool y, .int .i64 e', .int .i64 u] 110)) := (Below.refl _ w).alloc (Nat.le_refl _) _
  have k1 := k.below B1 k.lt
  have own1 := own_at own (w' := w.alloc (.cells #[.int .i64 a, .int .i64 b, .int .i64 c, .int .i64 d, .slice va n vc, .bool y, .int .i64 e', .int .i64 u] 110)) (fun j hj => B1.block j (own.lt j hj).2)
  clear h hn
  go_enter Try.func35, Try.ntmps35
  go_upto_region 2 with fail
  generalize w.alloc (.cells #[.int .i64 a, .int .i64 b, .int .i64 c, .int .i64 d, .slice va n vc, .bool y, .int .i64 e', .int .i64 u] 110) = w1 at *
  have c1 := k1.cell
  simp at c1
  have s1 := B1.size
  have hlt := K1.lt
  clear c0
  go_wp2_with fail
  refine (want_Clone 0 n vc va l w1 own1 hl).mono ?_
  rintro e w2 ⟨v2, rfl, ⟨a2, c2, rfl⟩, own2, B2⟩
  have K2 := K1.below B2 K1.lt
  have d2 := K2.cell
  have f2 := K2.frozen
  have K3 := K2.set_ 4 (.slice a2 n c2)
  simp at d2 K3
  have BB := (below_then B1 B2 (Nat.le_refl _)).setCell (p := ⟨w.heap.size, 4, none⟩) (Nat.le_refl _) (.slice a2 n c2)
  have own3 := own_at own2 (w' := w2.setCell ⟨w.heap.size, 4, none⟩ (.slice a2 n c2)) (fun j hj => Below.heap_setCell _ ⟨w.heap.size, 4, none⟩ _ j (by have := (own2.lt j hj).1; simp; omega))
  have hne : ∀ k, (Value.slice a2 n c2).ownBlock = some k → w1.heap.size ≤ k := fun k hk => (own2.lt k hk).1
  clear c1
  go_wp2_with fail
  go_ret
  exact ⟨w.heap.size, rfl, _, ⟨K3, by rw [HN.out]; exact own_base own3, fun e => by have := hne _ e; omega⟩, Nat.le_refl _, fun k hk => by have := hne k hk; omega, BB⟩
end Go.Proofs.Ytonamlgipoannaa
