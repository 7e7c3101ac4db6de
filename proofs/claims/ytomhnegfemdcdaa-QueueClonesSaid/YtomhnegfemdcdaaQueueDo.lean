/- The statements' do of queues: what holds behind it; Pop. No condition but that both stand. -/
import Derived.Test.YtomhnegfemdcdaaQueueIs
import Derived.Test.YtomhnegfemdcdaaCordellePaced
namespace Go.Proofs.Ytomhnegfemdcdaa
open Go.RowKit BigFrame
attribute [local go_sem ↓] Go.wp_at_zero Go.wp_at_succ

theorem three_new0 (w : World) (A B C : Array Value) (t u v : TypeId) :
    Blk (((w.alloc (.cells A t)).alloc (.cells B u)).alloc (.cells C v)) w.heap.size t A ∧ Blk (((w.alloc (.cells A t)).alloc (.cells B u)).alloc (.cells C v)) (w.heap.size + 1) u B ∧
    Blk (((w.alloc (.cells A t)).alloc (.cells B u)).alloc (.cells C v)) (w.heap.size + 1 + 1) v C ∧ Below w.heap.size w (((w.alloc (.cells A t)).alloc (.cells B u)).alloc (.cells C v)) ∧ (((w.alloc (.cells A t)).alloc (.cells B u)).alloc (.cells C v)).heap.size = w.heap.size + 3 :=
  ⟨((Blk.new w t A).alloc _).alloc _, (Blk.new1 w _ u B).alloc _, (by have := Blk.new1 (w.alloc (.cells A t)) (.cells B u) v C; simpa using this),
   (((Below.refl _ w).alloc (Nat.le_refl _) _).alloc (by simp) _).alloc (by simp; omega) _, by simp⟩
/-- Behind a call of both. -/
structure DoPost (w w' : World) (g : Nat) (a b : Int) (l : List ByteArray) (v sv : Value) (x' : Value) (l' : List ByteArray) (v' sv' : Value) : Prop where
  q : QV w' g a b l' (sumQ l') v'
  r : RQ w' x' a b l' sv'
  moved : Moved w w' g v v'
  fresh : ∀ k, sv'.ownBlock = some k → sv.ownBlock = some k ∨ w.heap.size ≤ k
  apart : ∀ k, sv'.ownBlock = some k → v'.ownBlock ≠ some k ∧ k ≠ g
theorem do_end {w wq w5 : World} {g : Nat} {a b : Int} {l l' : List ByteArray} {y : Int} {v sv v' sv' x' x : Value} (h : QV w g a b l y v) (R : RQ w x a b l sv) (hsep : ∀ k, sv.ownBlock = some k → v.ownBlock ≠ some k ∧ k ≠ g) (B : Below w.heap.size w wq)
    (R' : RQ wq x' a b l' sv') (hf : ∀ k, sv'.ownBlock = some k → sv.ownBlock = some k ∨ w.heap.size ≤ k) (hB : Below 0 wq w5)
    (keep : ∀ k, k < wq.heap.size → k ≠ g → v.ownBlock ≠ some k → (k < w.heap.size ∨ sv'.ownBlock = some k) → w5.heap[k]? = wq.heap[k]?)
    (row : ∀ k, v'.ownBlock = some k → v.ownBlock = some k ∨ wq.heap.size ≤ k) (q5 : QV w5 g a b l' (sumQ l') v') : DoPost w w5 g a b l v sv x' l' v' sv' := by
  have hg := h.blk.lt
  have hvl := fun k (e : v.ownBlock = some k) => (h.own.lt k e).2
  have hne : ∀ k, sv'.ownBlock = some k → v.ownBlock ≠ some k ∧ k ≠ g := fun k e => by
    rcases hf k e with h1 | h1
    · exact hsep k h1
    · exact ⟨fun e2 => by have := hvl k e2; omega, by omega⟩
  have s0 := B.size
  have R5 : RQ w5 x' a b l' sv' := R'.at_ (fun j hj hs => keep j hj (hne j hs).2 (hne j hs).1 (.inr hs))
  refine ⟨q5, R5, ⟨(B.mono (Nat.zero_le _)).trans hB, fun k hk1 h2 h3 => (keep k (by omega) h2 h3 (.inl hk1)).trans (B.block k hk1), fun k hk => ?_⟩, hf, fun k e => ⟨fun e2 => ?_, (hne k e).2⟩⟩
  · rcases row k hk with h1 | h1
    · exact .inl h1
    · right; omega
  · rcases row k e2 with h1 | h1
    · exact (hne k e).1 h1
    · have := (R'.own.lt k e).2
      omega

set_option maxHeartbeats 4000000 in
theorem law20_do1 (g : Nat) (x : Value) (a b N : Int) (l : List ByteArray) (v sv : Value) (la : Option Addr) (ll lc : Nat) (w : World) (h : QV w g a b l (sumQ l) v) (R : RQ w x a b l sv) (hsep : ∀ k, sv.ownBlock = some k → v.ownBlock ≠ some k ∧ k ≠ g) (hl : l.length ≤ 10000) (hy : sumQ l ≤ 1073741824) :
    Calls Try.prog 25 #[.pointer (some ⟨g, 0, none⟩), x, .agg #[.int .i64 1, .int .i64 N, .slice la ll lc]] w fun e w' => ∃ x', e = .returned (.tuple #[x', .bool true]) ∧ ∃ v' sv', DoPost w w' g a b l v sv x' (l.drop 1) v' sv' := by
  obtain ⟨y0, -⟩ := sumQ_bd l
  -- both Pops, none or one
  have HP : ∃ (s : ByteArray) (ok : Bool), (∀ W, QV W g a b l (sumQ l) v → Calls Try.prog 22 #[.pointer (some ⟨g, 0, none⟩)] W fun e w' => e = .returned (.tuple #[.string s, .bool ok]) ∧ ∃ v', QV w' g a b (l.drop 1) (sumQ (l.drop 1)) v' ∧ Moved W w' g v v') ∧
      (∀ W, RQ W x a b l sv → Calls Try.prog 39 #[x] W fun e w' => ∃ x', e = .returned (.tuple #[x', .string s, .bool ok]) ∧ ∃ sv', RQ w' x' a b (l.drop 1) sv' ∧ (∀ k, sv'.ownBlock = some k → sv.ownBlock = some k ∨ W.heap.size ≤ k) ∧ Below W.heap.size W w') := by
    cases l with
    | nil =>
      refine ⟨.empty, false, fun W q => (queue_Pop0 0 g a b _ W q.at).mono ?_, fun W r => (ref20_Pop0 x a b sv W r).mono ?_⟩
      · rintro e w' ⟨rfl, rfl⟩
        exact ⟨rfl, v, q, Moved.of_below (Below.refl _ _)⟩
      · rintro e w' ⟨rfl, hb⟩
        exact ⟨_, rfl, sv, r.below hb, fun k hk => .inl hk, hb⟩
    | cons s l =>
      simp only [List.length_cons] at hl
      obtain ⟨z0, -⟩ := sumQ_bd l
      have e1 : sumQ (s :: l) = sumQ [s] + sumQ l := by simp only [sumQ]; omega
      refine ⟨s, true, fun W q => (queue_PopV g a b _ s l v W q (by omega) y0 hy (by omega)).mono ?_, fun W r => (ref20_Pop x a b s l sv W r (by omega)).mono ?_⟩
      · rintro e w' ⟨rfl, v', q', M⟩
        refine ⟨rfl, v', ?_, M⟩
        have e2 : sumQ (s :: l) - sumQ [s] = sumQ l := by omega
        rw [e2] at q'
        exact q'
      · rintro e w' ⟨x', rfl, sv', r', hf, hb⟩
        exact ⟨x', rfl, sv', r', fun k hk => .inr (hf k hk), hb⟩
  obtain ⟨s, ok, HP0⟩ := HP
  have HP := Lib.hid HP0
  clear HP0
  obtain ⟨ra, rc, rfl, SL⟩ := R.slice_
  obtain ⟨xe, hxe⟩ : ∃ xe, x = xe := ⟨_, rfl⟩
  have hx0 := R.eq
  obtain ⟨n, hn⟩ : ∃ n, l.length = n := ⟨_, rfl⟩
  rw [hn] at hx0
  rw [hx0] at HP ⊢
  rw [hn] at HP ⊢
  clear SL hxe
  obtain ⟨K1, K2, K3, B1, z1⟩ := three_new0 w #[.int .i64 a, .int .i64 b, .slice ra n rc] #[.int .i64 1, .int .i64 N, .slice la ll lc] #[.int .i64 0, .int .i64 0, .slice none 0 0] 58 63 58
  rw [hx0] at R
  rw [hn] at R hsep
  go_enter Try.func25, Try.ntmps25
  go_upto_region 1 with fail
  generalize ((w.alloc (.cells #[.int .i64 a, .int .i64 b, .slice ra n rc] 58)).alloc (.cells #[.int .i64 1, .int .i64 N, .slice la ll lc] 63)).alloc (.cells #[.int .i64 0, .int .i64 0, .slice none 0 0] 58) = w1 at *
  have c1 := K1.cell
  have c2 := K2.cell
  simp at c1 c2
  have R1 := R.below B1
  go_upto_region 13 with fail
  go_wp2_with fail
  refine (HP.out.2 w1 R1).mono ?_
  rintro e w2 ⟨x', rfl, sv', R2, hf, B2⟩
  have B12 := below_then B1 B2 (Nat.le_refl _)
  have hx' := R2.eq
  obtain ⟨rb, rd, rfl, -⟩ := R2.slice_
  obtain ⟨m, hm⟩ : ∃ m, (l.drop 1).length = m := ⟨_, rfl⟩
  rw [hm] at hx' R2 hf
  subst hx'
  have s2 := B2.size
  have K4 := Blk.new w2 58 #[.int .i64 a, .int .i64 b, .slice rb m rd]
  have B3' : Below w2.heap.size w2 (w2.alloc (.cells #[.int .i64 a, .int .i64 b, .slice rb m rd] 58)) := (Below.refl _ w2).alloc (Nat.le_refl _) _
  clear c1 c2
  go_upto_region 14 with fail
  generalize w2.alloc (.cells #[.int .i64 a, .int .i64 b, .slice rb m rd] 58) = w3 at *
  have B13 := below_then B12 B3' (by omega)
  have q3 := h.below B13
  have R3 := R2.below B3'
  have s3 := B3'.size
  have hlt4 := K4.lt
  go_wp2_with fail
  refine (HP.out.1 w3 q3).mono ?_
  rintro e w4 ⟨rfl, v', q4, M⟩
  have ne4 : ∀ z, w.heap.size ≤ z → z < w3.heap.size → w4.heap[z]? = w3.heap[z]? := fun z h1 h2 => M.keep z h2 (by have := h.blk.lt; omega) (fun e => by have := (h.own.lt z e).2; omega)
  have K5 : Blk w4 w2.heap.size 58 #[.int .i64 a, .int .i64 b, .slice rb m rd] := (ne4 _ (by omega) hlt4).trans K4
  have K6 : Blk w4 (w.heap.size + 1 + 1) 58 #[.int .i64 0, .int .i64 0, .slice none 0 0] := (ne4 _ (by omega) (by omega)).trans (K3.below (below_then B2 B3' (Nat.le_refl _)) (by omega))
  have c5 := K5.cell
  simp at c5
  obtain ⟨w5, e5, K7, B7, hk7⟩ := three_set K6 rfl (.int .i64 a) (.int .i64 b) (.slice rb m rd) w.heap.size (by omega)
  have f6 := K6.frozen
  have c6 := K6.cell
  simp at c6
  have c7 := K7.cell
  simp at c7
  clear K1 K2 K3 K4 K5 hlt4
  go_wp2_with fail
  refine bodyPost_ret (v := .tuple #[.agg #[.int .i64 a, .int .i64 b, .slice rb m rd], .bool true]) ?_ rfl ⟨_, rfl, v', .slice rb m rd, ?_⟩
  · simp [results, Try.results25, go_sem, c7]
  · have hgw := h.blk.lt
    have hf' : ∀ k, (Value.slice rb m rd).ownBlock = some k → (Value.slice ra n rc).ownBlock = some k ∨ w.heap.size ≤ k := fun k hk => by
      rcases hf k hk with h1 | h1
      · exact .inl h1
      · right; omega
    refine do_end h R hsep B13 R3 hf' (M.below.trans (B7.mono (Nat.zero_le _))) (fun k hk h1 h2 h3 => (hk7 k ?_).trans (M.keep k hk h1 h2)) M.row (q4.kept (fun i _ hi => hk7 i hi) (by omega) (fun e => ?_))
    · rcases h3 with h3 | h3
      · omega
      · rcases hf k h3 with h4 | h4
        · have := (R.own.lt k h4).2; omega
        · omega
    · rcases M.row _ e with h4 | h4
      · have := (h.own.lt _ h4).2; omega
      · omega
end Go.Proofs.Ytomhnegfemdcdaa
