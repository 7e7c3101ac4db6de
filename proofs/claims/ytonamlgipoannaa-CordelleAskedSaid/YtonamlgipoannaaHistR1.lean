/- The document's history: its rows; New, Get, Put. No condition but that the row can be read. -/
import Derived.Test.YtonamlgipoannaaHist8
namespace Go.Proofs.Ytonamlgipoannaa
open Go.RowKit BigFrame
attribute [local go_sem ↓] Go.wp_at_zero Go.wp_at_succ

/-- A slice of records that can be read. -/
structure RowAt (W : World) (sa : Option Addr) (n sc : Nat) (l : List HR) : Prop where
  len : l.length = n
  cap : n ≤ sc
  most : sc ≤ 9223372036854775807
  lt : ∀ g off, sa = some ⟨g, off, none⟩ → g < W.heap.size
  cells : 0 < n → ∃ g off, sa = some ⟨g, off, none⟩ ∧ g < W.heap.size ∧ ∀ j u, (rowR l)[j]? = some u → W.cell? ⟨g, off + j, none⟩ = some u
theorem RowAt.below {W W' : World} {sa : Option Addr} {n sc : Nat} {l : List HR} (h : RowAt W sa n sc l) (hb : Below W.heap.size W W') : RowAt W' sa n sc l :=
  ⟨h.len, h.cap, h.most, fun g off e => Nat.lt_of_lt_of_le (h.lt g off e) hb.size, fun hn => by
    obtain ⟨g, off, e, hg, hc⟩ := h.cells hn
    exact ⟨g, off, e, Nat.lt_of_lt_of_le hg hb.size, fun j u hu => (hb.cell (p := ⟨g, off + j, none⟩) hg).trans (hc j u hu)⟩⟩
theorem RowAt.at_ {W W' : World} {sa : Option Addr} {n sc : Nat} {l : List HR} (h : RowAt W sa n sc l) (hs : W.heap.size ≤ W'.heap.size) (hk : ∀ g off, sa = some ⟨g, off, none⟩ → g < W.heap.size → W'.heap[g]? = W.heap[g]?) : RowAt W' sa n sc l :=
  ⟨h.len, h.cap, h.most, fun g off e => Nat.lt_of_lt_of_le (h.lt g off e) hs, fun hn => by
    obtain ⟨g, off, e, hg, hc⟩ := h.cells hn
    exact ⟨g, off, e, Nat.lt_of_lt_of_le hg hs, fun j u hu => (World.cell?_of_block (hk g off e hg)).trans (hc j u hu)⟩⟩
theorem RowAt.rec_ {W : World} {sa : Option Addr} {n sc : Nat} {l : List HR} (h : RowAt W sa n sc l) (hn : 0 < n) :
    ∃ g off, sa = some ⟨g, off, none⟩ ∧ g < W.heap.size ∧ ∀ k r, l[k]? = some r → W.cell? ⟨g, off + k * 4, none⟩ = some (.int .i64 r.seq) ∧ W.cell? ⟨g, off + k * 4 + 1, none⟩ = some (.int .i64 r.tries) ∧ W.cell? ⟨g, off + k * 4 + 2, none⟩ = some (.int .i64 r.path) ∧ W.cell? ⟨g, off + k * 4 + 3, none⟩ = some (.string r.data) := by
  obtain ⟨g, off, e, hg, hc⟩ := h.cells hn
  refine ⟨g, off, e, hg, fun k r hk => ?_⟩
  have key : ∀ j, j < 4 → ∀ u, r.cells[j]? = some u → W.cell? ⟨g, off + k * 4 + j, none⟩ = some u := fun j hj u hu => by
    rw [Nat.add_assoc]
    exact hc _ u ((rowR_get l k r hk j hj).trans hu)
  exact ⟨key 0 (by omega) _ rfl, key 1 (by omega) _ rfl, key 2 (by omega) _ rfl, key 3 (by omega) _ rfl⟩
theorem RowAt.news {W : World} {sa : Option Addr} {n sc : Nat} {l : List HR} (h : RowAt W sa n sc l) : 0 < n → ∃ a0, sa = some a0 ∧ ∀ j u, (rowR l)[j]? = some u → W.cell? (a0.add j) = some u := fun hn => by
  obtain ⟨g, off, e, hg, hc⟩ := h.cells hn
  refine ⟨_, e, fun j u hu => ?_⟩
  have hadd : (⟨g, off, none⟩ : Addr).add j = ⟨g, off + j, none⟩ := by unfold Addr.add; split <;> simp_all
  rw [hadd, hc j u hu]
theorem RowAt.of_own {W : World} {B T n sc : Nat} {sa : Option Addr} {l : List HR} (h : W.ownsRow B T 4 (.slice sa n sc) n (rowR l)) (hl : l.length = n) : RowAt W sa n sc l := by
  rcases h.2 with ⟨e, h0⟩ | ⟨g, cap, cur, e, hb, hg, hn, hm, hs, hx⟩
  · injection e with e1 e2 e3
    subst e1 e3
    exact ⟨hl, by omega, by omega, (fun g off e => by cases e), fun hp => by omega⟩
  · injection e with e1 e2 e3
    subst e1 e3
    rw [maxLen_eq] at hm
    refine ⟨hl, hn, hm, fun g' off e => (by injection e with e; injection e with e1 e2; subst e1; exact (h.lt _ rfl).2), fun hp => ⟨g, 0, rfl, (h.lt g rfl).2, fun j u hu => ?_⟩⟩
    have hj : j < n * 4 := by
      have h1 := (List.getElem?_eq_some_iff.1 hu).1
      rw [rowR_len] at h1
      omega
    rw [Nat.zero_add, World.ownsRow.cellAt h j hj, hu]
/-- Behind the first one. -/
theorem RowAt.drop1 {W : World} {g off n sc : Nat} {l : List HR} (h : RowAt W (some ⟨g, off, none⟩) (n + 1) sc l) : RowAt W (some ⟨g, off + 4, none⟩) n (sc - 1) (l.drop 1) := by
  have hc0 := h.cap
  have hm0 := h.most
  have hl0 := h.len
  refine ⟨by rw [List.length_drop]; omega, by omega, by omega, fun g' off' e => (by injection e with e; injection e with e1 e2; subst e1; exact h.lt _ _ rfl), fun hp => ?_⟩
  obtain ⟨g', off', e, hg, hc⟩ := h.cells (by omega)
  injection e with e
  injection e with e1 e2
  subst e1 e2
  refine ⟨g, off + 4, rfl, hg, fun j u hu => ?_⟩
  rw [show off + 4 + j = off + (4 + j) by omega]
  refine hc _ u ?_
  rw [rowR_split l 1, List.getElem?_append_right (by rw [rowR_len, List.length_take]; omega), rowR_len, List.length_take]
  rw [show 4 + j - min 1 l.length * 4 = j by omega]
  exact hu
/-- The document's history, as a value. -/
structure RR (W : World) (x : Value) (a b c : Int) (l : List HR) (sa : Option Addr) (sc : Nat) : Prop where
  eq : x = .agg #[.int .i64 a, .int .i64 b, .int .i64 c, .slice sa l.length sc]
  row : RowAt W sa l.length sc l
theorem RR.below {W W' : World} {x : Value} {a b c : Int} {l : List HR} {sa : Option Addr} {sc : Nat} (h : RR W x a b c l sa sc) (hb : Below W.heap.size W W') : RR W' x a b c l sa sc := ⟨h.eq, h.row.below hb⟩
theorem info_ref : ∃ i, Try.prog.info? 99 = some i ∧ i.zero = some (.agg zRec) ∧ i.size = 4 ∧ i.bytes = 40 := by
  have h : (Try.prog.info? 99).map (fun i => (i.zero, i.size, i.bytes)) = some (some (.agg zRec), 4, 40) := by kernel_rfl
  obtain ⟨i, hi, he⟩ := Option.map_eq_some_iff.1 h
  simp only [Prod.mk.injEq] at he
  exact ⟨i, hi, he.1, he.2.1, he.2.2⟩
theorem two_new (w : World) (A B : Array Value) (t u : TypeId) : Blk ((w.alloc (.cells A t)).alloc (.cells B u)) w.heap.size t A ∧ Blk ((w.alloc (.cells A t)).alloc (.cells B u)) (w.heap.size + 1) u B ∧ Below w.heap.size w ((w.alloc (.cells A t)).alloc (.cells B u)) :=
  ⟨(Blk.new w t A).alloc _, Blk.new1 w _ u B, ((Below.refl _ w).alloc (Nat.le_refl _) _).alloc (by simp) _⟩
set_option maxHeartbeats 1000000 in
theorem ref21_New (n m a b : Int) (ha : clipI n 1 65535 = a) (hb : clipI m 0 100 = b) (w : World) :
    Calls Try.prog 18 #[.int .i64 n, .int .i64 m] w fun e w' => e = .returned (.agg #[.int .i64 a, .int .i64 b, .int .i64 0, .slice none 0 0]) ∧ Below w.heap.size w w' := by
  obtain ⟨p, hp⟩ : ∃ p, (if 65535 < n then 65535 else n) = p := ⟨_, rfl⟩
  obtain ⟨q, hq⟩ : ∃ p, (if 100 < m then 100 else m) = p := ⟨_, rfl⟩
  have hpa : (if 1 < p then p else 1) = a := by rw [← ha, ← hp]; unfold clipI; split <;> split <;> omega
  have hqb : (if 0 < q then q else 0) = b := by rw [← hb, ← hq]; unfold clipI; split <;> split <;> omega
  have K := Blk.new w 43 #[.int .i64 0, .int .i64 0, .int .i64 0, .slice none 0 0]
  have B : Below w.heap.size w (w.alloc (.cells #[.int .i64 0, .int .i64 0, .int .i64 0, .slice none 0 0] 43)) := (Below.refl _ w).alloc (Nat.le_refl _) _
  clear ha hb
  go_enter Try.func18, Try.ntmps18
  go_upto_region 1 with fail
  generalize w.alloc (.cells #[.int .i64 0, .int .i64 0, .int .i64 0, .slice none 0 0] 43) = w1 at *
  obtain ⟨w5, e5, K5, B5, hk5⟩ := four_set K rfl (.int .i64 a) (.int .i64 b) (.int .i64 0) (.slice none 0 0) w.heap.size (Nat.le_refl _)
  have c2 := K.cell
  have f2 := K.frozen
  have c5 := K5.cell
  simp at c2 c5
  go_wp2_with fail
  refine bodyPost_ret (v := .agg #[.int .i64 a, .int .i64 b, .int .i64 0, .slice none 0 0]) ?_ rfl ⟨rfl, B.trans B5⟩
  simp [results, Try.results18, go_sem, c5]
  try rfl
set_option maxRecDepth 8000 in
set_option maxHeartbeats 4000000 in
theorem ref21_Get (x : Value) (a b c : Int) (l : List HR) (sa : Option Addr) (sc : Nat) (s : Int) (w : World) (R : RR w x a b c l sa sc) (hl : l.length ≤ 100000) :
    Calls Try.prog 45 #[x, .int .i64 s] w fun e w' => e = .returned (.tuple #[((getR l s).getD hrZero).val, .bool (getR l s).isSome]) ∧ Below w.heap.size w w' := by
  obtain ⟨rfl, row⟩ := R
  obtain ⟨n, hn⟩ : ∃ n, l.length = n := ⟨_, rfl⟩
  rw [hn] at row hl ⊢
  have HN := Lib.hid hn
  clear hn
  obtain ⟨o, ho⟩ : ∃ o, getR l s = o := ⟨_, rfl⟩
  rw [ho]
  have HO := Lib.hid ho
  have HROW := Lib.hid row
  have hsc := row.cap
  have hsm := row.most
  clear ho row
  obtain ⟨K1, K2, B1⟩ := two_new w #[.int .i64 a, .int .i64 b, .int .i64 c, .slice sa n sc] #[.int .i64 0, .int .i64 0, .int .i64 0, .string ⟨#[]⟩] 43 99
  go_enter Try.func45, Try.ntmps45
  go_upto_region 1 with fail
  generalize (w.alloc (.cells #[.int .i64 a, .int .i64 b, .int .i64 c, .slice sa n sc] 43)).alloc (.cells #[.int .i64 0, .int .i64 0, .int .i64 0, .string ⟨#[]⟩] 99) = w1 at *
  have c1 := K1.cell
  simp at c1
  have hlt1 := K2.lt
  have s1 := B1.size
  go_wp2_with fail
  go_loopw [11] (fun x11 wr => ∃ k : Nat, k ≤ n ∧ x11 = .int .i64 k ∧ (∀ j r, l[j]? = some r → j < k → r.seq ≠ s) ∧ Below w1.heap.size w1 wr) (fun x11 _ => n - (intOf x11).toNat)
  case atStart => exact ⟨0, by omega, rfl, fun j r _ h => absurd h (by omega), Below.refl _ _⟩
  case round =>
    obtain ⟨k, hk, rfl, hno, Bw⟩ := hrel
    have HNO := Lib.hid hno
    clear hno
    have K2r := K2.below Bw K2.lt
    by_cases hlt : k < n
    · obtain ⟨g, off, rfl, hg, hcell⟩ := (HROW.out).rec_ (by omega)
      have hql : k < l.length := by have := HN.out; omega
      obtain ⟨r, hrr⟩ : ∃ r, l[k]? = some r := ⟨_, List.getElem?_eq_getElem hql⟩
      obtain ⟨e0, e1, e2, e3⟩ := hcell k r hrr
      have Bx := below_then B1 Bw (Nat.le_refl _)
      have d0 := (Bx.cell (p := ⟨g, off + k * 4, none⟩) hg).trans e0
      have d1 := (Bx.cell (p := ⟨g, off + k * 4 + 1, none⟩) hg).trans e1
      have d2 := (Bx.cell (p := ⟨g, off + k * 4 + 2, none⟩) hg).trans e2
      have d3 := (Bx.cell (p := ⟨g, off + k * 4 + 3, none⟩) hg).trans e3
      have HRR := Lib.hid hrr
      have p0 : (0 : Int) ≤ (k : Int) := by omega
      have p1 : (k : Int) < (n : Int) := by omega
      have wk : IntKind.i64.wrap ((k : Int) + 1) = ((k + 1 : Nat) : Int) := by rw [IntWalk.i64_in _ (by omega)]; omega
      have Ka := Blk.new wr 99 #[.int .i64 r.seq, .int .i64 r.tries, .int .i64 r.path, .string r.data]
      have Ba : Below wr.heap.size wr (wr.alloc (.cells #[.int .i64 r.seq, .int .i64 r.tries, .int .i64 r.path, .string r.data] 99)) := (Below.refl _ wr).alloc (Nat.le_refl _) _
      have K2a := K2r.below Ba K2r.lt
      have Bw2 := below_then Bw Ba (Nat.le_refl _)
      clear e0 e1 e2 e3 hrr hcell hql
      go_upto_region 4 with fail
      clear d0 d1 d2 d3
      generalize wr.alloc (.cells #[.int .i64 r.seq, .int .i64 r.tries, .int .i64 r.path, .string r.data] 99) = wa at *
      have ca := Ka.cell
      simp at ca
      by_cases hs : r.seq = s
      · have hge : getR l s = some r := by
          unfold getR
          rw [List.find?_eq_some_iff_getElem]
          have hp := (List.getElem?_eq_some_iff.1 HRR.out)
          refine ⟨by simp [hs], k, hp.1, hp.2, fun j hj => ?_⟩
          have hjl : j < l.length := by have := hp.1; omega
          have := HNO.out j l[j] (List.getElem?_eq_getElem hjl) hj
          simp
          exact this
        obtain rfl : o = some r := by rw [← HO.out]; exact hge
        subst hs
        obtain ⟨w5, e5, K5, B5, hk5⟩ := four_set K2a rfl (.int .i64 r.seq) (.int .i64 r.tries) (.int .i64 r.path) (.string r.data) w.heap.size (by omega)
        have c2 := K2a.cell
        have f2 := K2a.frozen
        have c5 := K5.cell
        simp at c2 c5
        have BE := (below_then B1 Bw2 (Nat.le_refl _)).trans B5
        clear hge
        go_wp2_with fail
        refine bodyPost_ret (v := .tuple #[r.val, .bool true]) ?_ rfl ⟨rfl, BE⟩
        simp [results, Try.results45, go_sem, c5, HR.val]
        try rfl
      · have q1 : (r.seq == s) = false := by simp [hs]
        go_wp2_with fail
        go_roundw
        case rel =>
          refine ⟨k + 1, by omega, by go_num, fun j r' hj hjk => ?_, Bw2⟩
          rcases Nat.lt_or_ge j k with h1 | h1
          · exact HNO.out j r' hj h1
          · obtain rfl : j = k := by omega
            rw [HRR.out] at hj
            injection hj with hj
            rw [← hj]; exact hs
        case measure => simp only [intOf]; omega
    · obtain rfl : k = n := by omega
      have p1 : ¬ (k : Int) < (k : Int) := by omega
      have hge : getR l s = none := by
        unfold getR
        rw [List.find?_eq_none]
        intro r hm
        obtain ⟨i, hi, rfl⟩ := List.mem_iff_getElem.1 hm
        have := HNO.out i l[i] (List.getElem?_eq_getElem hi) (by have := HN.out; omega)
        simp [this]
      obtain rfl : o = none := by rw [← HO.out]; exact hge
      obtain ⟨w5, e5, K5, B5, hk5⟩ := four_set K2r rfl (.int .i64 0) (.int .i64 0) (.int .i64 0) (.string ⟨#[]⟩) w.heap.size (by omega)
      have c2 := K2r.cell
      have f2 := K2r.frozen
      have c5 := K5.cell
      simp at c2 c5
      have BE := (below_then B1 Bw (Nat.le_refl _)).trans B5
      clear hge
      go_wp2_with fail
      refine bodyPost_ret (v := .tuple #[hrZero.val, .bool false]) ?_ rfl ⟨rfl, BE⟩
      simp [results, Try.results45, go_sem, c5, HR.val, hrZero]
      try rfl
end Go.Proofs.Ytonamlgipoannaa
