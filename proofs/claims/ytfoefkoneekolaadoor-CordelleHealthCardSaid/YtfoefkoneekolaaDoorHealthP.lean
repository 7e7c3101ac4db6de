/- What CordelleHealth keeps between its rounds; the contracts at its literals. No condition. -/
import Derived.Test.YtfoefkoneekolaaDoorSourceCounts
import Derived.Test.YtfoefkoneekolaaDoorLossTally
import Derived.Test.YtfoefkoneekolaaDoorLife6
import Derived.Test.YtfoefkoneekolaaDoorShare
namespace Go.Proofs.YtfoefkoneekolaaDoor
open Go.RowKit BigFrame
attribute [local go_sem ↓] Go.wp_at_zero Go.wp_at_succ

theorem health_rep (x r : L3) (f m : Int) (hx : KnownL x) (h0 : 0 ≤ m) (h1 : m ≤ 1000) (h : repL x ⟨1000, 10, 100, 3⟩ f m = r) (W : World) (hT : Tabs W) :
    Calls Tryd.prog 11 #[.agg #[.int .i64 x.s, .int .i64 x.h, .int .i64 x.k], .agg #[.int .i64 1000, .int .i64 10, .int .i64 100, .int .i64 3], .int .i64 f, .int .i64 m] W fun e w' => ∃ y, e = .returned (.tuple #[.agg #[.int .i64 r.s, .int .i64 r.h, .int .i64 r.k], .bool y]) ∧ Below W.heap.size W w' := by
  have hk : CountC ⟨1000, 10, 100, 3⟩ := by unfold CountC; simp only; omega
  have hr : reportL x ⟨1000, 10, 100, 3⟩ f m = r := by
    unfold reportL
    rw [knownL_id x hx, clipC_id _ hk]
    have : tickI m = m := by unfold tickI clipI; omega
    rw [this]
    exact h
  exact (life_Report x r ⟨1000, 10, 100, 3⟩ f m _ hr rfl W hT).mono fun e w' h => ⟨_, h.1, h.2⟩
theorem health_sends (x : L3) (hx : KnownL x) (b : Bool) (hb : (x.s != 3) = b) (W : World) : Calls Tryd.prog 12 #[.agg #[.int .i64 x.s, .int .i64 x.h, .int .i64 x.k]] W fun e w' => e = .returned (.bool b) ∧ Below W.heap.size W w' := by
  have h := life_Sends x W
  rw [knownL_id x hx, hb] at h
  exact h
theorem health_weight (x : L3) (hx : KnownL x) (rate r q : Int) (hr : clipI rate 1 65535 = r) (hq : weightL x.s r = q) (W : World) :
    Calls Tryd.prog 14 #[.agg #[.int .i64 x.s, .int .i64 x.h, .int .i64 x.k], .int .i64 rate] W fun e w' => e = .returned (.int .i64 q) ∧ Below W.heap.size W w' :=
  life_Weight x rate r q hr (by rw [knownL_id x hx]; exact hq) W
theorem health_weights (x : L3) (hx : KnownL x) (rate r q : Int) (hr : clipI rate 1 65535 = r) (hq : weightL x.s r = q) :
    decide (0 < q) = (x.s != 3) ∧ q ≤ r ∧ 1 ≤ r ∧ r ≤ 65535 ∧ 0 ≤ q := by
  obtain ⟨r1, r2⟩ := clip_bd rate 1 65535 (by omega)
  rw [hr] at r1 r2
  subst hq
  unfold weightL
  rcases hx.1 with h | h | h | h <;> rw [h] <;> simp <;> omega

/-- What is known of a path's life: how many reports were bad in a row. -/
def LI (row : Int) (x : L3) : Prop := KnownL x ∧ (0 ≤ row ∧ row ≤ 3) ∧ (x.s = 3 ∨ (x.k = row ∧ row ≤ 2))
theorem LI_bad (row : Int) (x r : L3) (m : Int) (h : LI row x) (h0 : 0 ≤ m) (h1 : m ≤ 1000) (hr : repL x ⟨1000, 10, 100, 3⟩ 230 m = r) : LI (min (row + 1) 3) r ∧ (row = 2 → r.s = 3) := by
  have hm : m ≤ 1099511627776 := by omega
  obtain ⟨hx, hw, hs⟩ := h
  unfold KnownL at hx
  obtain ⟨a, b, c, d⟩ := hx
  obtain ⟨xs, xh, xk⟩ := x
  simp only at *
  subst hr
  unfold repL LI KnownL
  simp only
  rw [if_neg (by omega), if_pos (by omega)]
  split
  · refine ⟨⟨⟨by simp, h0, hm, by simp⟩, by omega, by simp⟩, fun _ => rfl⟩
  · split
    · refine ⟨⟨⟨by simp, h0, hm, by simp⟩, by omega, by simp⟩, fun _ => rfl⟩
    · refine ⟨⟨⟨?_, h0, hm, by simp only; omega⟩, by omega, .inr ⟨by simp only; omega, by omega⟩⟩, fun _ => ?_⟩
      · simp only
        split <;> omega
      · omega
theorem LI_good (row : Int) (x r : L3) (m : Int) (h : LI row x) (h0 : 0 ≤ m) (h1 : m ≤ 1000) (hr : repL x ⟨1000, 10, 100, 3⟩ 0 m = r) : LI 0 r ∧ (r.s != 3) = true := by
  have hm : m ≤ 1099511627776 := by omega
  subst hr
  unfold repL LI KnownL
  rw [if_pos (by simp)]
  simp only
  split
  · refine ⟨⟨⟨by simp, h0, hm, by simp⟩, by omega, .inr ⟨by simp, by omega⟩⟩, by decide⟩
  · refine ⟨⟨⟨by simp, h0, hm, by simp⟩, by omega, .inr ⟨by simp, by omega⟩⟩, by decide⟩

/-- Where the highest one stands, how many came: the j-th of ten packets, of which but the last one all are lost (y), or none. -/
def topY (y : Bool) (b : Int) (k j : Nat) : Int := if y then (if j < 10 then b + 10 * k else b + 10 * k + 10) else b + 10 * k + j
def cntY (y : Bool) (c : Int) (j : Nat) : Int := if y then (if j < 10 then c else c + 1) else c + j
def frY (y : Bool) : Int := if y then 230 else 0
theorem srcY_in (y : Bool) (b c : Int) (k j : Nat) (b0 : 0 ≤ b) (b1 : b ≤ 65535) (hk : k ≤ 40) (hc : (k : Int) ≤ c) (hj : j ≤ 10) (q : S6) (hq : q = cS (topY y b k j) b (cntY y c j)) : InS (cntY y c j + 1) q := by
  subst hq
  refine cS_in _ _ _ ?_ ?_ ?_ b0 b1
  all_goals
    try unfold topY
    try unfold cntY
    cases y <;> simp <;> (try split) <;> omega
theorem srcY_skip (b c : Int) (k j : Nat) (hj : j < 9) : topY true b k (j + 1) = topY true b k j ∧ cntY true c (j + 1) = cntY true c j := by
  unfold topY cntY
  simp only [if_true]
  rw [if_pos (by omega), if_pos (by omega), if_pos (by omega), if_pos (by omega)]
  exact ⟨rfl, rfl⟩
theorem srcY_upd (y : Bool) (b c : Int) (k j : Nat) (b0 : 0 ≤ b) (hj : j < 10) (hy : y = true → j = 9) : updS (cS (topY y b k j) b (cntY y c j)) ((b + (10 * k + (j + 1) : Nat)) % 65536) = (cS (topY y b k (j + 1)) b (cntY y c (j + 1)), true) := by
  cases y
  · have h := cS_upd (topY false b k j) b (cntY false c j) 1 (by unfold topY; simp; omega) (by omega) (by omega)
    have e1 : topY false b k j + 1 = b + (10 * k + (j + 1) : Nat) := by unfold topY; simp; omega
    have e2 : max (topY false b k j) (topY false b k j + 1) = topY false b k (j + 1) := by unfold topY; simp; omega
    have e3 : cntY false c j + 1 = cntY false c (j + 1) := by unfold cntY; simp; omega
    rw [e2, e3, e1] at h
    exact h
  · obtain rfl := hy rfl
    have h := cS_upd (topY true b k 9) b (cntY true c 9) 10 (by unfold topY; simp; omega) (by omega) (by omega)
    have e1 : topY true b k 9 + 10 = b + (10 * k + (9 + 1) : Nat) := by unfold topY; simp; omega
    have e2 : max (topY true b k 9) (topY true b k 9 + 10) = topY true b k (9 + 1) := by unfold topY; simp; omega
    have e3 : cntY true c 9 + 1 = cntY true c (9 + 1) := by unfold cntY; simp
    rw [e2, e3, e1] at h
    exact h
theorem srcY_end (y : Bool) (b c : Int) (k : Nat) (q : S6) (hq : q = cS (topY y b k 10) b (cntY y c 10)) : q = cS (b + 10 * (k + 1 : Nat)) b (cntY y c 10) ∧ expS q = 10 * (k : Int) + 11 ∧ q.rc = cntY y c 10 + 1 ∧ fracI (10 * (k : Int) + 11 - (10 * (k : Int) + 1)) (q.rc - (c + 1)) = frY y := by
  have ht : topY y b k 10 = b + 10 * (k + 1 : Nat) := by unfold topY; cases y <;> simp <;> omega
  rw [ht] at hq
  subst hq
  refine ⟨rfl, ?_, rfl, ?_⟩
  · unfold expS cS; simp only; rw [if_neg (by omega)]; omega
  · have e : (cS (b + 10 * (k + 1 : Nat)) b (cntY y c 10)).rc - (c + 1) = if y then 1 else 10 := by
      unfold cS cntY; simp only; cases y <;> simp <;> omega
    rw [e, show 10 * (k : Int) + 11 - (10 * (k : Int) + 1) = 10 by omega]
    cases y <;> decide
theorem srcY_start (y : Bool) (b c : Int) (k : Nat) : topY y b k 0 = b + 10 * k ∧ cntY y c 0 = c := by
  unfold topY cntY; cases y <;> simp
theorem cntY_bd (y : Bool) (c : Int) (j k : Nat) (hj : j ≤ 10) (h0 : (k : Int) ≤ c) (h1 : c ≤ 10 * k) : (k : Int) ≤ cntY y c j ∧ cntY y c j ≤ 10 * k + 10 ∧ (j = 10 → (k : Int) + 1 ≤ cntY y c j) := by
  unfold cntY; cases y <;> simp <;> (try split) <;> omega

/-- What stands between two rounds. -/
structure HW (w wx : World) (gs gt gl gh : Nat) (q : S6) (t0 t1 : Int) (x : L3) : Prop where
  c : Blk wx w.heap.size 25 #[.int .i64 1000, .int .i64 10, .int .i64 100, .int .i64 3]
  s : Blk wx gs 27 #[.int .u16 q.mx, .int .i64 q.cy, .int .i64 q.ba, .int .i64 q.bd, .int .i64 q.pr, .int .i64 q.rc]
  t : Blk wx gt 33 #[.int .i64 t0, .int .i64 t1]
  l : Blk wx gl 37 #[.int .i64 x.s, .int .i64 x.h, .int .i64 x.k]
  h : ∃ v, Blk wx gh 56 #[v] ∧ Ld wx v
  ls : w.heap.size ≤ gs
  lt : w.heap.size ≤ gt
  ll : w.heap.size ≤ gl
  lh : w.heap.size ≤ gh
  b : Below w.heap.size w wx
theorem HW.below {w wx wy : World} {gs gt gl gh : Nat} {q : S6} {t0 t1 : Int} {x : L3} (H : HW w wx gs gt gl gh q t0 t1 x) (hb : Below wx.heap.size wx wy) : HW w wy gs gt gl gh q t0 t1 x := by
  obtain ⟨v, h1, h2⟩ := H.h
  exact ⟨H.c.below hb H.c.lt, H.s.below hb H.s.lt, H.t.below hb H.t.lt, H.l.below hb H.l.lt, ⟨v, h1.below hb h1.lt, h2.below hb⟩, H.ls, H.lt, H.ll, H.lh, below_then H.b hb (Nat.le_refl _)⟩
theorem Blk.keep1 {w w' : World} {g g0 : Nat} {t t0 : TypeId} {cs cs0 : Array Value} (h : Blk w g t cs) (h0 : Blk w g0 t0 cs0) (hk : ∀ k, k ≠ g0 → w'.heap[k]? = w.heap[k]?) (hne : t ≠ t0) : Blk w' g t cs := (hk g (h.ne_ h0 hne)).trans h
theorem Ld.keep1 {w w' : World} {v : Value} {g0 : Nat} {t0 : TypeId} {cs0 : Array Value} (h : Ld w v) (h0 : Blk w g0 t0 cs0) (hk : ∀ k, k ≠ g0 → w'.heap[k]? = w.heap[k]?) (hne : 64 ≠ t0) : Ld w' v := by
  rcases h with h | ⟨g, c, q, e, cs, k, r⟩
  · exact .inl h
  · exact .inr ⟨g, c, q, e, cs, k.keep1 h0 hk hne, r⟩
theorem HW.setS {w wx w2 : World} {gs gt gl gh : Nat} {q r : S6} {t0 t1 : Int} {x : L3} (H : HW w wx gs gt gl gh q t0 t1 x) (k : Blk w2 gs 27 #[.int .u16 r.mx, .int .i64 r.cy, .int .i64 r.ba, .int .i64 r.bd, .int .i64 r.pr, .int .i64 r.rc]) (hk : ∀ k, k ≠ gs → w2.heap[k]? = wx.heap[k]?) (hb : Below w.heap.size wx w2) : HW w w2 gs gt gl gh r t0 t1 x := by
  obtain ⟨v, h1, h2⟩ := H.h
  exact ⟨H.c.keep1 H.s hk (by decide), k, H.t.keep1 H.s hk (by decide), H.l.keep1 H.s hk (by decide), ⟨v, h1.keep1 H.s hk (by decide), h2.keep1 H.s hk (by decide)⟩, H.ls, H.lt, H.ll, H.lh, H.b.trans hb⟩
theorem HW.setT {w wx w2 : World} {gs gt gl gh : Nat} {q : S6} {t0 t1 u0 u1 : Int} {x : L3} (H : HW w wx gs gt gl gh q t0 t1 x) (k : Blk w2 gt 33 #[.int .i64 u0, .int .i64 u1]) (hk : ∀ k, k ≠ gt → w2.heap[k]? = wx.heap[k]?) (hb : Below w.heap.size wx w2) : HW w w2 gs gt gl gh q u0 u1 x := by
  obtain ⟨v, h1, h2⟩ := H.h
  exact ⟨H.c.keep1 H.t hk (by decide), H.s.keep1 H.t hk (by decide), k, H.l.keep1 H.t hk (by decide), ⟨v, h1.keep1 H.t hk (by decide), h2.keep1 H.t hk (by decide)⟩, H.ls, H.lt, H.ll, H.lh, H.b.trans hb⟩
theorem HW.setL {w wx w2 : World} {gs gt gl gh : Nat} {q : S6} {t0 t1 : Int} {x y : L3} (H : HW w wx gs gt gl gh q t0 t1 x) (k : Blk w2 gl 37 #[.int .i64 y.s, .int .i64 y.h, .int .i64 y.k]) (hk : ∀ k, k ≠ gl → w2.heap[k]? = wx.heap[k]?) (hb : Below w.heap.size wx w2) : HW w w2 gs gt gl gh q t0 t1 y := by
  obtain ⟨v, h1, h2⟩ := H.h
  exact ⟨H.c.keep1 H.l hk (by decide), H.s.keep1 H.l hk (by decide), H.t.keep1 H.l hk (by decide), k, ⟨v, h1.keep1 H.l hk (by decide), h2.keep1 H.l hk (by decide)⟩, H.ls, H.lt, H.ll, H.lh, H.b.trans hb⟩
theorem HW.setH {w wx w2 : World} {gs gt gl gh : Nat} {q : S6} {t0 t1 : Int} {x : L3} {v' : Value} (H : HW w wx gs gt gl gh q t0 t1 x) (k : Blk w2 gh 56 #[v']) (hl : Ld w2 v') (hk : ∀ j, j < wx.heap.size → j ≠ gh → w2.heap[j]? = wx.heap[j]?) (hb : Below gh wx w2) : HW w w2 gs gt gl gh q t0 t1 x := by
  obtain ⟨v, h1, h2⟩ := H.h
  refine ⟨(hk _ H.c.lt (H.c.ne_ h1 (by decide))).trans H.c, (hk _ H.s.lt (H.s.ne_ h1 (by decide))).trans H.s, (hk _ H.t.lt (H.t.ne_ h1 (by decide))).trans H.t, (hk _ H.l.lt (H.l.ne_ h1 (by decide))).trans H.l, ⟨v', k, hl⟩, H.ls, H.lt, H.ll, H.lh, H.b.trans (hb.mono H.lh)⟩
/-- The contract of Set, on all that stands. -/
theorem health_Set {w wx : World} {gs gt gl gh h : Nat} {q : S6} {t0 t1 n : Int} {x : L3} (H : HW w wx gs gt gl gh q t0 t1 x) (k : Blk wx h 49 #[.int .i64 1, .int .i64 n]) :
    Calls Tryd.prog 13 #[.pointer (some ⟨gh, 0, none⟩), .slice (some ⟨h, 0, none⟩) 1 1] wx fun e w' => ∃ y, e = .returned (.bool y) ∧ HW w w' gs gt gl gh q t0 t1 x := by
  obtain ⟨v, h1, h2⟩ := H.h
  exact (share_Set gh h n v wx h1 h2 k).mono fun e w' ⟨y, v', e1, k', l', hk, hb⟩ => ⟨y, e1, H.setH k' l' hk hb⟩
end Go.Proofs.YtfoefkoneekolaaDoor
