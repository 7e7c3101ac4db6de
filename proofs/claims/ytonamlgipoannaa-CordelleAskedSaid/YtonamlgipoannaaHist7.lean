/- Package history: Forget, Clone; the statements' awake. No condition but that the history stands, by rising numbers. -/
import Derived.Test.YtonamlgipoannaaHist6
namespace Go.Proofs.Ytonamlgipoannaa
open Go.RowKit BigFrame
attribute [local go_sem ↓] Go.wp_at_zero Go.wp_at_succ

set_option maxRecDepth 8000 in
set_option maxHeartbeats 4000000 in
theorem rec_Delete0 (n c : Nat) (a : Option Addr) (hnone : a = none → n = 0 ∧ c = 0) (hn : n ≤ c) (hc : c ≤ 9223372036854775807) (w : World) (hb : ∀ x, a = some x → ∃ g, x = ⟨g, 0, none⟩) :
    Calls Try.prog 41 #[.slice a n c, .int .i64 0, .int .i64 0] w fun e w' => e = .returned (.slice a n c) ∧ w = w' := by
  cases a with
  | none =>
    obtain ⟨rfl, rfl⟩ := hnone rfl
    go_enter Try.func41, Try.ntmps41
    go_wp2_with fail
    go_ret
    exact ⟨rfl, rfl⟩
  | some x =>
    obtain ⟨g, rfl⟩ := hb x rfl
    have i1 : (n : Int) ≤ (c : Int) := by omega
    have i0 : (0 : Int) ≤ (n : Int) := by omega
    clear hnone hb
    go_enter Try.func41, Try.ntmps41
    go_wp2_with fail
    go_ret
    exact ⟨rfl, rfl⟩
/-- How many are up to a number. -/
structure UptoR (l : List HR) (u : Int) (k : Nat) : Prop where
  le : k ≤ l.length
  lo : ∀ i r, l[i]? = some r → i < k → r.seq ≤ u
  hi : ∀ i r, l[i]? = some r → k ≤ i → u < r.seq
theorem upto_of {l : List HR} {u : Int} {p : Nat} {fd : Bool} (hr : Rising l) (hp : PosR l u p) (hf : foundR l u p = fd) : UptoR l u (if fd then p + 1 else p) := by
  cases fd with
  | false =>
    refine ⟨hp.le, fun i r h1 h2 => Int.le_of_lt (hp.lo i r h1 h2), fun i r h1 h2 => ?_⟩
    have h3 := hp.hi i r h1 h2
    have h4 := foundR_none hf hp hr r (List.mem_of_getElem? h1)
    omega
  | true =>
    obtain ⟨q, hq, hqs⟩ := foundR_some hf
    have hpl := (List.getElem?_eq_some_iff.1 hq).1
    simp only [if_true]
    refine ⟨by omega, fun i r h1 h2 => ?_, fun i r h1 h2 => ?_⟩
    · rcases Nat.lt_or_ge i p with h3 | h3
      · exact Int.le_of_lt (hp.lo i r h1 h3)
      · obtain rfl : i = p := by omega
        rw [hq] at h1
        injection h1 with h1
        subst h1
        omega
    · have := hr p i q r (by omega) hq h1
      omega
set_option maxRecDepth 8000 in
set_option maxHeartbeats 4000000 in
theorem hist_Forget (g : Nat) (a b c : Int) (l : List HR) (v : Value) (u : Int) (w : World) (h : HV w g a b c l v) (hr : Rising l) (hl : l.length ≤ 100000) :
    Calls Try.prog 47 #[.pointer (some ⟨g, 0, none⟩), .int .i64 u] w fun e w' => ∃ k : Nat, e = .returned (.int .i64 (k : Int)) ∧ UptoR l u k ∧ ∃ v', HV w' g a b c (l.drop k) v' ∧ Moved w w' g v v' := by
  have HAT := Lib.hid (hist_at g a b c l v u w h hr hl)
  have HR2 := Lib.hid hr
  -- the Delete, whatever the number
  have HD := Lib.hid (show ∀ (k : Nat) (W : World), k ≤ l.length → Below w.heap.size w W → Calls Try.prog 41 #[v, .int .i64 0, .int .i64 (k : Int)] W fun e w' => ∃ v', e = .returned v' ∧ (∃ a' n' c', v' = .slice a' n' c') ∧ w'.ownsRow 0 33 4 v' (l.drop k).length (rowR (l.drop k)) ∧ v'.ownBlock = v.ownBlock ∧ (∀ j, v.ownBlock ≠ some j → w'.heap[j]? = W.heap[j]?) ∧ Below 0 W w' from fun k W hk hb => by
    have ow := own_at h.own (w' := W) (fun j hj => hb.block j (h.own.lt j hj).2)
    rcases Nat.eq_zero_or_pos k with rfl | hk0
    · rcases ow.2 with ⟨rfl, h0⟩ | ⟨g', cap, cur, rfl, hb', hg, hn, hm, hs, hx⟩
      · refine (rec_Delete0 0 0 none (fun _ => ⟨rfl, rfl⟩) (Nat.le_refl _) (by omega) W (fun x e => by cases e)).mono ?_
        rintro e w' ⟨rfl, rfl⟩
        exact ⟨_, rfl, ⟨_, _, _, rfl⟩, by simpa using ow, rfl, fun _ _ => rfl, Below.refl _ _⟩
      · rw [maxLen_eq] at hm
        refine (rec_Delete0 l.length cap (some ⟨g', 0, none⟩) (fun e => by cases e) hn hm W (fun x e => by injection e with e; exact ⟨g', e.symm⟩)).mono ?_
        rintro e w' ⟨rfl, rfl⟩
        exact ⟨_, rfl, ⟨_, _, _, rfl⟩, by simpa using ow, rfl, fun _ _ => rfl, Below.refl _ _⟩
    · rcases ow.2 with ⟨rfl, h0⟩ | ⟨g', cap, cur, rfl, hb', hg, hn, hm, hs, hx⟩
      · omega
      · have ow2 := ow
        rw [rowR_split l k] at ow2
        refine (rec_Delete 0 g' l.length (l.length - k) k cap (rowR (l.take k)) (rowR (l.drop k)) W ow2 (rowR_one _) (by rw [rowR_len, List.length_take]; omega) (by rw [rowR_len, List.length_drop]) (by omega) hk0 hl).mono ?_
        rintro e w' ⟨rfl, o', hkk, hB⟩
        exact ⟨_, rfl, ⟨_, _, _, rfl⟩, by rw [List.length_drop]; exact o', rfl, fun j hj => hkk j (fun e => hj (by rw [e]; rfl)), hB⟩)
  obtain ⟨va, vc, rfl, -⟩ := own_rec h.own
  obtain ⟨n, hn⟩ : ∃ n, l.length = n := ⟨_, rfl⟩
  have HN := Lib.hid hn
  rw [hn] at h HD
  rw [hn]
  have H0 := h
  clear h hr hn
  go_enter Try.func47, Try.ntmps47
  go_wp2_with fail
  refine HAT.out.mono ?_
  rintro e w2 ⟨p, fd, rfl, hf, hp, B2⟩
  have HU := Lib.hid (upto_of HR2.out hp hf)
  have hpl := hp.le
  rw [HN.out] at hpl
  have hn5 : n ≤ 100000 := by have := HN.out; omega
  have H2 := H0.below B2
  have c2 := H2.blk.cell
  have gne := H2.ne
  simp at c2
  have wp : IntKind.i64.wrap ((p : Int) + 1) = ((p + 1 : Nat) : Int) := by rw [IntWalk.i64_in _ (by omega)]; omega
  cases fd with
  | false =>
    have HU2 := Lib.hid (show UptoR l u p from HU.out)
    clear hf hp HU wp
    go_wp2_with fail
    refine (HD.out p w2 hpl B2).mono ?_
    rintro e w3 ⟨v3, rfl, ⟨a3, n3, c3, rfl⟩, own3, ho3, hk3, B3⟩
    obtain ⟨H4, M4⟩ := H2.store (l2 := l.drop p) B3 (fun k _ hne => hk3 k hne) own3 (fun k hk => .inl (by rw [← ho3]; exact hk))
    have k3 : Blk w3 g 95 _ := (hk3 g gne).trans H2.blk
    have d3 := k3.cell
    have f3 := k3.frozen
    simp at d3
    have MM := (Moved.of_below (g := g) (v := .slice va n vc) B2).trans M4
    clear c2 own3
    go_wp2_with fail
    go_ret
    exact ⟨p, rfl, HU2.out, _, H4, MM⟩
  | true =>
    have HU2 := Lib.hid (show UptoR l u (p + 1) from HU.out)
    have hpl2 := HU2.out.le
    rw [HN.out] at hpl2
    clear hf hp HU
    go_wp2_with fail
    refine (HD.out (p + 1) w2 hpl2 B2).mono ?_
    rintro e w3 ⟨v3, rfl, ⟨a3, n3, c3, rfl⟩, own3, ho3, hk3, B3⟩
    obtain ⟨H4, M4⟩ := H2.store (l2 := l.drop (p + 1)) B3 (fun k _ hne => hk3 k hne) own3 (fun k hk => .inl (by rw [← ho3]; exact hk))
    have k3 : Blk w3 g 95 _ := (hk3 g gne).trans H2.blk
    have d3 := k3.cell
    have f3 := k3.frozen
    simp at d3
    have MM := (Moved.of_below (g := g) (v := .slice va n vc) B2).trans M4
    clear c2 own3
    go_wp2_with fail
    go_ret
    exact ⟨p + 1, by go_num, HU2.out, _, H4, MM⟩
/-- The cells of a row of records. -/
theorem rec_news {w : World} {B : Nat} {va : Option Addr} {vc n : Nat} {l : List HR} (h : w.ownsRow B 33 4 (.slice va n vc) n (rowR l)) : 0 < n → ∃ a0, va = some a0 ∧ ∀ j u, (rowR l)[j]? = some u → w.cell? (a0.add j) = some u := fun hn => by
  rcases h.2 with ⟨e, h0⟩ | ⟨g', cap, cur, e, hb', hg, hn', hm, hs, hx⟩
  · omega
  · injection e with e1 e2 e3
    subst e1 e3
    refine ⟨_, rfl, fun j u hu => ?_⟩
    have hj : j < n * 4 := by
      have h1 := (List.getElem?_eq_some_iff.1 hu).1
      have h2 := h.1
      omega
    have hadd : (⟨g', 0, none⟩ : Addr).add j = ⟨g', j, none⟩ := by unfold Addr.add; split <;> simp_all
    rw [hadd, World.ownsRow.cellAt h j hj, hu]
set_option maxHeartbeats 4000000 in
theorem rec_Clone (B n c : Nat) (a : Option Addr) (l : List HR) (w : World) (h : w.ownsRow B 33 4 (.slice a n c) n (rowR l)) (hn : n ≤ 100000) :
    Calls Try.prog 49 #[.slice a n c] w fun e w' => ∃ v', e = .returned v' ∧ (∃ a' c', v' = .slice a' n c') ∧ w'.ownsRow w.heap.size 33 4 v' n (rowR l) ∧ Below w.heap.size w w' := by
  obtain ⟨i0, hi0, hz0, hz1, hz2⟩ := info_rec
  have hlen : (rowR l).length = n * 4 := h.1
  have Ba : Below w.heap.size w (w.alloc (.cells #[] 33)) := (Below.refl _ w).alloc (Nat.le_refl _) _
  have hnews := rec_news (own_at h (w' := w.alloc (.cells #[] 33)) (fun j hj => Ba.block j (h.lt j hj).2))
  have hone := rowR_one l
  have own1 := own_lit w 33 4
  have hq := fun W : World => Lib.run_eql_slice_nil (P := Try.prog) W 93 33 a n c 0 0 Try.underlying93
  cases a with
  | none =>
    have hn0 : n = 0 := by
      rcases Nat.eq_zero_or_pos n with h' | h'
      · exact h'
      · obtain ⟨a0, e, _⟩ := hnews h'
        cases e
    subst hn0
    have hnil : rowR l = [] := List.length_eq_zero_iff.1 (by rw [hlen])
    rw [hnil]
    clear hnews hone hlen h hnil
    go_enter Try.func49, Try.ntmps49
    go_wp2_with fail
    go_ret
    exact ⟨_, rfl, ⟨_, _, rfl⟩, ⟨rfl, .inl ⟨rfl, rfl⟩⟩, Below.refl _ _⟩
  | some ad =>
    clear h
    go_enter Try.func49, Try.ntmps49
    go_wp2_with (at_builtin; refine wpList_append_sl rfl _ _ 93 rfl w.heap.size 33 i0 (.agg zRec) 4 40 Try.underlying93 hi0 hz0 hz1 hz2 rfl (by decide) _ _ _ rfl own1 _ n c (rowR l) rfl hlen hnews hone (by rw [maxLen_eq]; omega) (by omega) (by simp) ?_; intro v1 w1 own2 hgrow hat hsh)
    obtain ⟨sa, sc, rfl⟩ := hsh
    have hg2 : (w.alloc (.cells #[] 33)).grownBy w1 (some w.heap.size) := hgrow
    simp only [Nat.zero_add, List.nil_append] at own2
    have B1 : Below w.heap.size w w1 := ((Below.refl _ w).alloc (Nat.le_refl _) _).grown hg2 (by simp) (fun j hj => by injection hj with hj; omega)
    go_wp2_with fail
    go_ret
    exact ⟨_, rfl, ⟨sa, sc, by simp⟩, by simpa using own2, B1⟩
set_option maxHeartbeats 4000000 in
theorem hist_Clone (g : Nat) (a b c : Int) (l : List HR) (v : Value) (w : World) (h : HV w g a b c l v) (hl : l.length ≤ 100000) :
    Calls Try.prog 22 #[.pointer (some ⟨g, 0, none⟩)] w fun e w' => ∃ gc, e = .returned (.pointer (some ⟨gc, 0, none⟩)) ∧ ∃ v', HV w' gc a b c l v' ∧ w.heap.size ≤ gc ∧ (∀ k, v'.ownBlock = some k → w.heap.size ≤ k) ∧ Below w.heap.size w w' := by
  obtain ⟨va, vc, rfl, -⟩ := own_rec h.own
  obtain ⟨n, hn⟩ : ∃ n, l.length = n := ⟨_, rfl⟩
  have HN := Lib.hid hn
  have own := h.own
  have k := h.blk
  rw [hn] at own k hl
  have c0 := k.cell
  simp at c0
  have K1 := Blk.new w 95 #[.int .i64 a, .int .i64 b, .int .i64 c, .slice va n vc]
  have B1 : Below w.heap.size w (w.alloc (.cells #[.int .i64 a, .int .i64 b, .int .i64 c, .slice va n vc] 95)) := (Below.refl _ w).alloc (Nat.le_refl _) _
  have k1 := k.below B1 k.lt
  have own1 := own_at own (w' := w.alloc (.cells #[.int .i64 a, .int .i64 b, .int .i64 c, .slice va n vc] 95)) (fun j hj => B1.block j (own.lt j hj).2)
  clear h hn
  go_enter Try.func22, Try.ntmps22
  go_upto_region 2 with fail
  generalize w.alloc (.cells #[.int .i64 a, .int .i64 b, .int .i64 c, .slice va n vc] 95) = w1 at *
  have c1 := k1.cell
  simp at c1
  have s1 := B1.size
  have hlt := K1.lt
  clear c0
  go_wp2_with fail
  refine (rec_Clone 0 n vc va l w1 own1 hl).mono ?_
  rintro e w2 ⟨v2, rfl, ⟨a2, c2, rfl⟩, own2, B2⟩
  have K2 := K1.below B2 K1.lt
  have d2 := K2.cell
  have f2 := K2.frozen
  have K3 := K2.set_ 3 (.slice a2 n c2)
  simp at d2 K3
  have BB := (below_then B1 B2 (Nat.le_refl _)).setCell (p := ⟨w.heap.size, 3, none⟩) (Nat.le_refl _) (.slice a2 n c2)
  have own3 := own_at own2 (w' := w2.setCell ⟨w.heap.size, 3, none⟩ (.slice a2 n c2)) (fun j hj => Below.heap_setCell _ ⟨w.heap.size, 3, none⟩ _ j (by have := (own2.lt j hj).1; simp; omega))
  have hne : ∀ k, (Value.slice a2 n c2).ownBlock = some k → w1.heap.size ≤ k := fun k hk => (own2.lt k hk).1
  clear c1
  go_wp2_with fail
  go_ret
  exact ⟨w.heap.size, rfl, _, ⟨K3, by rw [HN.out]; exact own_base own3, fun e => by have := hne _ e; omega⟩, Nat.le_refl _, fun k hk => by have := hne k hk; omega, BB⟩
end Go.Proofs.Ytonamlgipoannaa
