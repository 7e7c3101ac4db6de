/- The statements' do of histories: what holds behind it. No condition but that both stand. (Printed by gen_hdo.py.) -/
import Derived.Test.YtonamlgipoannaaHistIs
namespace Go.Proofs.Ytonamlgipoannaa
open Go.RowKit BigFrame
attribute [local go_sem ↓] Go.wp_at_zero Go.wp_at_succ
theorem rrec_eql (x0 y0 : Int) (x1 y1 : Int) (x2 y2 : Int) (x3 y3 : ByteArray) (w : World) : (binOp .eql 99 (.agg #[.int .i64 x0, .int .i64 x1, .int .i64 x2, .string x3]) (.agg #[.int .i64 y0, .int .i64 y1, .int .i64 y2, .string y3])).run Try.prog w = .ok (.bool ((x0 == y0) && (x1 == y1) && (x2 == y2) && (x3.toList == y3.toList))) w := by
  have hS : Try.prog.underlying 99 = some (.struct (Try.prog.fieldsOf 99)) := by kernel_rfl
  have hp : Try.prog.stoodInHeld 99 = false := by kernel_rfl
  have u3 := Try.underlying3
  have a3 := Try.isAgg3
  have z3 := Try.sizeOf3
  have u9 := Try.underlying9
  have a9 := Try.isAgg9
  have z9 := Try.sizeOf9
  rw [run_eql_struct, show (10000 : Nat) = 9999 + 1 from rfl, run_equalIn_agg w 9999 99 _ _ hS hp]
  simp only [Program.fieldsOf, Try.underlying99]
  go_simp
  by_cases h0 : x0 = y0
  rotate_left
  · simp [h0]
  subst h0
  by_cases h1 : x1 = y1
  rotate_left
  · simp [h1]
  subst h1
  by_cases h2 : x2 = y2
  rotate_left
  · simp [h2]
  subst h2
  cases h3 : (x3.toList == y3.toList)
  · (try simp [h3]); try simpa using h3
  (try simp [h3])
  try simpa using h3
theorem rrec_neq (x0 y0 : Int) (x1 y1 : Int) (x2 y2 : Int) (x3 y3 : ByteArray) (w : World) : (binOp .neq 99 (.agg #[.int .i64 x0, .int .i64 x1, .int .i64 x2, .string x3]) (.agg #[.int .i64 y0, .int .i64 y1, .int .i64 y2, .string y3])).run Try.prog w = .ok (.bool (!((x0 == y0) && (x1 == y1) && (x2 == y2) && (x3.toList == y3.toList)))) w := by
  have hS : Try.prog.underlying 99 = some (.struct (Try.prog.fieldsOf 99)) := by kernel_rfl
  have hp : Try.prog.stoodInHeld 99 = false := by kernel_rfl
  have u3 := Try.underlying3
  have a3 := Try.isAgg3
  have z3 := Try.sizeOf3
  have u9 := Try.underlying9
  have a9 := Try.isAgg9
  have z9 := Try.sizeOf9
  rw [run_neq_struct, show (10000 : Nat) = 9999 + 1 from rfl, run_equalIn_agg w 9999 99 _ _ hS hp]
  simp only [Program.fieldsOf, Try.underlying99]
  go_simp
  by_cases h0 : x0 = y0
  rotate_left
  · simp [h0]
  subst h0
  by_cases h1 : x1 = y1
  rotate_left
  · simp [h1]
  subst h1
  by_cases h2 : x2 = y2
  rotate_left
  · simp [h2]
  subst h2
  cases h3 : (x3.toList == y3.toList)
  · (try simp [h3]); try simpa using h3
  (try simp [h3])
  try simpa using h3
theorem rrec_guard (op : BinOp) (x y : Operand) (xs ys : Array Value) (w : World) : (eqGuard op 99 x y (.agg xs) (.agg ys)).run Try.prog w = .ok () w := run_eqGuard_agg w op 99 x y xs ys (by kernel_rfl)

attribute [local go_sem] rrec_eql rrec_neq rrec_guard

/-- Behind a call of both. -/
structure DoPostH (w w' : World) (g : Nat) (a b : Int) (v : Value) (sa : Option Addr) (x' : Value) (c' : Int) (l' : List HR) (v' : Value) (sa' : Option Addr) (sc' : Nat) : Prop where
  q : HV w' g a b c' l' v'
  r : RR w' x' a b c' l' sa' sc'
  moved : Moved w w' g v v'
  fresh : ∀ k o, sa' = some ⟨k, o, none⟩ → (∃ o', sa = some ⟨k, o', none⟩) ∨ w.heap.size ≤ k
  apart : ∀ k o, sa' = some ⟨k, o, none⟩ → v'.ownBlock ≠ some k ∧ k ≠ g
/-- Apart: the document's row and the history's blocks. -/
def SepH (g : Nat) (v : Value) (sa : Option Addr) : Prop := ∀ k o, sa = some ⟨k, o, none⟩ → v.ownBlock ≠ some k ∧ k ≠ g
theorem do_endH {w wq w5 : World} {g : Nat} {a b c c' : Int} {l l' : List HR} {v v' x x' : Value} {sa sa' : Option Addr} {sc sc' : Nat} (h : HV w g a b c l v) (R : RR w x a b c l sa sc) (hsep : SepH g v sa) (B : Below w.heap.size w wq)
    (R' : RR wq x' a b c' l' sa' sc') (hf : ∀ k o, sa' = some ⟨k, o, none⟩ → (∃ o', sa = some ⟨k, o', none⟩) ∨ w.heap.size ≤ k) (hB : Below 0 wq w5)
    (keep : ∀ k, k < wq.heap.size → k ≠ g → v.ownBlock ≠ some k → (k < w.heap.size ∨ ∃ o, sa' = some ⟨k, o, none⟩) → w5.heap[k]? = wq.heap[k]?)
    (row : ∀ k, v'.ownBlock = some k → v.ownBlock = some k ∨ wq.heap.size ≤ k) (q5 : HV w5 g a b c' l' v') : DoPostH w w5 g a b v sa x' c' l' v' sa' sc' := by
  have hg := h.blk.lt
  have hvl := fun k (e : v.ownBlock = some k) => (h.own.lt k e).2
  have hne : ∀ k o, sa' = some ⟨k, o, none⟩ → v.ownBlock ≠ some k ∧ k ≠ g := fun k o e => by
    rcases hf k o e with ⟨o', h1⟩ | h1
    · exact hsep k o' h1
    · exact ⟨fun e2 => by have := hvl k e2; omega, by omega⟩
  have s0 := B.size
  have R5 : RR w5 x' a b c' l' sa' sc' := ⟨R'.eq, R'.row.at_ hB.size (fun k o e hk => keep k hk (hne k o e).2 (hne k o e).1 (.inr ⟨o, e⟩))⟩
  refine ⟨q5, R5, ⟨(B.mono (Nat.zero_le _)).trans hB, fun k hk1 h2 h3 => (keep k (by omega) h2 h3 (.inl hk1)).trans (B.block k hk1), fun k hk => ?_⟩, hf, fun k o e => ⟨fun e2 => ?_, (hne k o e).2⟩⟩
  · rcases row k hk with h1 | h1
    · exact .inl h1
    · right; omega
  · rcases row k e2 with h1 | h1
    · exact (hne k o e).1 h1
    · have := R'.row.lt k o e
      omega
/-- While a call on the history (operation i) and the result's store (operation j) are drawn. -/
structure CCall (w0 : World) (g r : Nat) (a b c c' : Int) (l l' : List HR) (v : Value) (rt : TypeId) (zs cs : Array Value) (i j : Nat) (L : Nat → Bool) (G : Nat → Value) (W : World) : Prop where
  size : w0.heap.size ≤ W.heap.size
  below : Below 0 w0 W
  keep : ∀ k, k < w0.heap.size → k ≠ g → v.ownBlock ≠ some k → k ≠ r → W.heap[k]? = w0.heap[k]?
  q0 : L i = false → HV W g a b c l v
  q1 : L i = true → ∃ v', HV W g a b c' l' v' ∧ ∀ k, v'.ownBlock = some k → v.ownBlock = some k ∨ w0.heap.size ≤ k
  r0 : L j = false → Blk W r rt zs
  r1 : L j = true → Blk W r rt cs
section
variable {w0 W W' : World} {g r i j : Nat} {a b c c' : Int} {l l' : List HR} {v v' : Value} {rt : TypeId} {zs cs : Array Value} {L : Nat → Bool} {G : Nat → Value}
theorem CCall.start (h : HV w0 g a b c l v) (K : Blk w0 r rt zs) (G : Nat → Value) : CCall w0 g r a b c c' l l' v rt zs cs i j (fun _ => false) G w0.drew :=
  ⟨Nat.le_refl _, (Below.refl _ _).drew, fun _ _ _ _ _ => rfl, fun _ => h.below ((Below.refl _ _).drew), (fun e => by cases e), fun _ => K.drew, (fun e => by cases e)⟩
theorem CCall.quiet (h : CCall w0 g r a b c c' l l' v rt zs cs i j L G W) {z : Nat} (hi : z ≠ i) (hj : z ≠ j) : CCall w0 g r a b c c' l l' v rt zs cs i j (upd L z) G W := by
  refine ⟨h.size, h.below, h.keep, fun e => h.q0 ?_, fun e => h.q1 ?_, fun e => h.r0 ?_, fun e => h.r1 ?_⟩
  · rw [upd_ne L (Ne.symm hi)] at e; exact e
  · rw [upd_ne L (Ne.symm hi)] at e; exact e
  · rw [upd_ne L (Ne.symm hj)] at e; exact e
  · rw [upd_ne L (Ne.symm hj)] at e; exact e
theorem CCall.call (h : CCall w0 g r a b c c' l l' v rt zs cs i j L G W) (hij : i ≠ j) (hL : L i = false) (hr : r < w0.heap.size) (hrg : r ≠ g) (hvr : v.ownBlock ≠ some r) (q' : HV W' g a b c' l' v') (M : Moved W W' g v v') (u : Value) : CCall w0 g r a b c c' l l' v rt zs cs i j (upd L i) (upF G i u) W' := by
  have sW := h.size
  refine ⟨Nat.le_trans sW M.below.size, h.below.trans M.below, fun k h1 h2 h3 h4 => (M.keep k (by omega) h2 h3).trans (h.keep k h1 h2 h3 h4), (fun e => by rw [upd_at] at e; cases e), fun _ => ⟨v', q', fun k hk => ?_⟩, fun e => ?_, fun e => ?_⟩
  · rcases M.row k hk with h1 | h1
    · exact .inl h1
    · right; omega
  · rw [upd_ne L (Ne.symm hij)] at e
    exact (M.keep r (by omega) hrg hvr).trans (h.r0 e)
  · rw [upd_ne L (Ne.symm hij)] at e
    exact (M.keep r (by omega) hrg hvr).trans (h.r1 e)
theorem CCall.store (h : CCall w0 g r a b c c' l l' v rt zs cs i j L G W) (hij : i ≠ j) (hr : r < w0.heap.size) (hrg : r ≠ g) (hvr : v.ownBlock ≠ some r) (K : Blk W' r rt cs) (hB : Below 0 W W') (hk : ∀ k, k ≠ r → W'.heap[k]? = W.heap[k]?) (u : Value) : CCall w0 g r a b c c' l l' v rt zs cs i j (upd L j) (upF G j u) W' := by
  refine ⟨Nat.le_trans h.size hB.size, h.below.trans hB, fun k h1 h2 h3 h4 => (hk k h4).trans (h.keep k h1 h2 h3 h4), fun e => ?_, fun e => ?_, (fun e => by rw [upd_at] at e; cases e), fun _ => K⟩
  · rw [upd_ne L hij] at e
    exact (h.q0 e).far hk (Ne.symm hrg) hvr
  · rw [upd_ne L hij] at e
    obtain ⟨v', q', hr'⟩ := h.q1 e
    refine ⟨v', q'.far hk (Ne.symm hrg) (fun e2 => ?_), hr'⟩
    rcases hr' _ e2 with h1 | h1
    · exact hvr h1
    · omega
end
def GOne (i : Nat) (u : Value) (q : Nat) (v : Value) : Prop := q = i → v = u
set_option maxRecDepth 8000 in
set_option maxHeartbeats 8000000 in
theorem law21_do2 (g : Nat) (x : Value) (a b c : Int) (l : List HR) (v : Value) (sa : Option Addr) (sc : Nat)  (s pa : Int) (data : ByteArray) (w : World) (h : HV w g a b c l v) (R : RR w x a b c l sa sc) (hsep : SepH g v sa) (hr : Rising l) (hl : l.length ≤ 10000) :
    Calls Try.prog 19 #[.pointer (some ⟨g, 0, none⟩), x, .agg #[.int .i64 2, .int .i64 s, .int .i64 pa, .string data]] w fun e w' => ∃ x', e = .returned (.tuple #[x', .bool true]) ∧ ∃ v' sa' sc', DoPostH w w' g a b v sa x' c l v' sa' sc' := by
  obtain ⟨o, ho⟩ : ∃ o, getR l s = o := ⟨_, rfl⟩
  have HP := Lib.hid (fun (W : World) (q : HV W g a b c l v) => hist_Get g a b c l v s W q hr (by omega))
  have HR' := Lib.hid (fun (W : World) (r : RR W x a b c l sa sc) => ref21_Get x a b c l sa sc s W r (by omega))
  rw [ho] at HP HR'
  obtain ⟨q, hq⟩ : ∃ q, o.getD hrZero = q := ⟨_, rfl⟩
  obtain ⟨is, his⟩ : ∃ is, o.isSome = is := ⟨_, rfl⟩
  rw [hq, his] at HP HR'
  unfold HR.val at HP HR'
  clear ho hq his hr
  rw [R.eq] at HR'
  have hgw := h.blk.lt
  have hvl := fun k (e : v.ownBlock = some k) => (h.own.lt k e).2
  have R0 := R
  obtain ⟨rfl, row⟩ := R
  obtain ⟨n, hn⟩ : ∃ n, l.length = n := ⟨_, rfl⟩
  rw [hn] at R0 hl ⊢
  have HN := Lib.hid hn
  clear row hn
  have HSEP := Lib.hid hsep
  clear hsep
  obtain ⟨K1, K2, K3, B1, z1⟩ := three_new0 w #[.int .i64 a, .int .i64 b, .int .i64 c, .slice sa n sc] #[.int .i64 2, .int .i64 s, .int .i64 pa, .string data] #[.int .i64 0, .int .i64 0, .int .i64 0, .slice none 0 0] 43 29 43
  go_enter Try.func19, Try.ntmps19
  go_upto_region 1 with fail
  generalize ((w.alloc (.cells #[.int .i64 a, .int .i64 b, .int .i64 c, .slice sa n sc] 43)).alloc (.cells #[.int .i64 2, .int .i64 s, .int .i64 pa, .string data] 29)).alloc (.cells #[.int .i64 0, .int .i64 0, .int .i64 0, .slice none 0 0] 43) = w1 at *
  have c1 := K1.cell
  have c2 := K2.cell
  simp at c1 c2
  have R1 := R0.below B1
  have H1 := h.below B1
  rw [HN.out] at HR'
  go_upto_region 11 with fail
  go_wp2_with fail
  refine (HR'.out w1 R1).mono ?_
  rintro e w2 ⟨rfl, B2⟩
  have H2 := H1.below B2
  have B12 := below_then B1 B2 (Nat.le_refl _)
  have Kr := Blk.new w2 99 #[.int .i64 q.seq, .int .i64 q.tries, .int .i64 q.path, .string q.data]
  have Br : Below w2.heap.size w2 (w2.alloc (.cells #[.int .i64 q.seq, .int .i64 q.tries, .int .i64 q.path, .string q.data] 99)) := (Below.refl _ w2).alloc (Nat.le_refl _) _
  have s2 := B2.size
  have K1a := (K1.below B2 K1.lt).below Br (by have := K1.lt; omega)
  have K2a := (K2.below B2 K2.lt).below Br (by have := K2.lt; omega)
  have K3a := (K3.below B2 K3.lt).below Br (by have := K3.lt; omega)
  clear c1 c2
  go_upto_region 12 with fail
  obtain ⟨br, hbr⟩ : ∃ br, w2.heap.size = br := ⟨_, rfl⟩
  have HBR := Lib.hid hbr
  have H3 := H2.below Br
  have B13 := below_then B12 Br (Nat.le_refl _)
  rw [hbr] at Kr ⊢
  generalize w2.alloc (.cells #[.int .i64 q.seq, .int .i64 q.tries, .int .i64 q.path, .string q.data] 99) = w3 at *
  clear hbr K1 K2 K3 H1 H2
  have c2 := K2a.cell
  simp at c2
  go_wp2_with fail
  refine (HP.out w3 H3).mono ?_
  rintro e w4 ⟨rfl, B4⟩
  have H4 := H3.below B4
  have B14 := below_then B13 B4 (Nat.le_refl _)
  have Kh := Blk.new w4 33 #[.int .i64 q.seq, .int .i64 q.tries, .int .i64 q.path, .string q.data]
  have Bh : Below w4.heap.size w4 (w4.alloc (.cells #[.int .i64 q.seq, .int .i64 q.tries, .int .i64 q.path, .string q.data] 33)) := (Below.refl _ w4).alloc (Nat.le_refl _) _
  have s4 := B4.size
  have K1b := (K1a.below B4 K1a.lt).below Bh (by have := K1a.lt; omega)
  have K3b := (K3a.below B4 K3a.lt).below Bh (by have := K3a.lt; omega)
  have Krb := (Kr.below B4 Kr.lt).below Bh (by have := Kr.lt; omega)
  clear c2
  go_upto_region 13 with fail
  obtain ⟨bh, hbh⟩ : ∃ bh, w4.heap.size = bh := ⟨_, rfl⟩
  have HBH := Lib.hid hbh
  have H5 := H4.below Bh
  have B15 := below_then B14 Bh (Nat.le_refl _)
  rw [hbh] at Kh ⊢
  generalize w4.alloc (.cells #[.int .i64 q.seq, .int .i64 q.tries, .int .i64 q.path, .string q.data] 33) = w5 at *
  have hrl := Krb.lt
  clear hbh K1a K2a K3a Kr H3 H4
  have d1 := K1b.cell
  have d2 := Krb.cell
  have d3 := Kh.cell
  have d4 := K3b.cell
  have f4 := K3b.frozen
  simp at d1 d2 d3 d4
  go_region_with fail
  all_goals
    obtain ⟨w6, e6, K6, B6, hk6⟩ := four_set K3b rfl (.int .i64 a) (.int .i64 b) (.int .i64 c) (.slice sa n sc) w.heap.size (by omega)
    have g6 := K6.drew.cell
    simp at g6
    have hvr : v.ownBlock ≠ some (w.heap.size + 1 + 1) := fun e => by have := hvl _ e; omega
    have s5 := B15.size
    rw [e6]
    go_wp2_with fail
    refine bodyPost_ret (v := .tuple #[.agg #[.int .i64 a, .int .i64 b, .int .i64 c, .slice sa n sc], .bool true]) ?_ rfl ⟨_, rfl, v, sa, sc, do_endH h R0 HSEP.out B15 (R0.below B15) (fun k o e => .inl ⟨o, e⟩) ((B6.mono (Nat.zero_le _)).drew) (fun k hk h1 h2 h3 => hk6 k ?_) (fun k e => .inl e) ((H5.far hk6 (by omega) hvr).below (Below.refl _ w6).drew)⟩
    · simp [results, Try.results19, go_sem, g6]
      try rfl
    · rcases h3 with h3 | ⟨o', h3⟩
      · omega
      · have := R0.row.lt k o' h3
        omega

end Go.Proofs.Ytonamlgipoannaa
