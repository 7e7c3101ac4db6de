/- The statements' do of gaps, any kind; the region in which the statements call it, its order drawn. No condition but that both stand. -/
import Derived.Test.YtonamlgipoannaaGapsDo2
import Derived.Test.YtonamlgipoannaaGapsIs
namespace Go.Proofs.Ytonamlgipoannaa
open Go.RowKit BigFrame
attribute [local go_sem ↓] Go.wp_at_zero Go.wp_at_succ

/-- The gaps at g and the document's, alike. -/
structure GG (W : World) (g : Nat) (a b c d : Int) (y : Bool) (e u : Int) (l : List WR) (v : Value) (sa : Option Addr) (n sc : Nat) : Prop where
  q : GV W g a b c d y e u l v
  row : RowT W sa n sc l
  good : Good a b c d y e l
  wait : ∀ r ∈ l, WaitOk d r
theorem law22_do (g : Nat) (a b c d : Int) (y : Bool) (e' u : Int) (l : List WR) (v : Value) (sa : Option Addr) (n sc : Nat) (kd nn lt now : Int) (w : World) (H : GG w g a b c d y e' u l v sa n sc) :
    Calls Try.prog 33 #[.pointer (some ⟨g, 0, none⟩), gval a b c d y e' u sa n sc, .agg #[.int .i64 kd, .int .i64 nn, .int .i64 lt], .int .i64 now] w fun e w' => ∃ y2 e2 u2 l2 v2 sa2 n2 sc2, e = .returned (.tuple #[gval a b c d y2 e2 u2 sa2 n2 sc2, .bool true]) ∧ GG w' g a b c d y2 e2 u2 l2 v2 sa2 n2 sc2 ∧ Moved w w' g v v2 := by
  obtain ⟨h, R, G, hw⟩ := H
  obtain ⟨T, hT⟩ : ∃ T, clipI now 0 1099511627776 = T := ⟨_, rfl⟩
  have CAME : ∀ N0, ((kd = 0 ∧ IntKind.i64.wrap (e' + nn % 64) = N0) ∨ (kd = 1 ∧ nn = N0)) → Calls Try.prog 33 #[.pointer (some ⟨g, 0, none⟩), gval a b c d y e' u sa n sc, .agg #[.int .i64 kd, .int .i64 nn, .int .i64 lt], .int .i64 now] w fun e w' => ∃ y2 e2 u2 l2 v2 sa2 n2 sc2, e = .returned (.tuple #[gval a b c d y2 e2 u2 sa2 n2 sc2, .bool true]) ∧ GG w' g a b c d y2 e2 u2 l2 v2 sa2 n2 sc2 ∧ Moved w w' g v v2 := fun N0 h0 => by
    obtain ⟨N, hN⟩ : ∃ N, clipI N0 (-1099511627776) 1099511627776 = N := ⟨_, rfl⟩
    refine (law22_do0 g a b c d y e' u l v sa n sc kd nn lt now N T N0 h0 hN hT w h R G).mono ?_
    rintro e w' ⟨sa', n', sc', rfl, R', v', h', M⟩
    exact ⟨_, _, _, _, v', sa', n', sc', rfl, ⟨h', R', G.came hN, wait_came hw⟩, M⟩
  by_cases k0 : kd = 0
  · exact CAME _ (.inl ⟨k0, rfl⟩)
  by_cases k1 : kd = 1
  · exact CAME _ (.inr ⟨k1, rfl⟩)
  by_cases k2 : kd = 2
  · subst k2
    refine (law22_do2 g a b c d y e' u l v sa n sc nn lt now T hT w h R G hw).mono ?_
    rintro e w' ⟨sa', n', sc', rfl, R', v', h', M⟩
    exact ⟨_, _, _, _, v', sa', n', sc', rfl, ⟨h', R', G.due T, wait_due G.ok hw⟩, M⟩
  · obtain ⟨q, hq⟩ : ∃ q, clipI nn (-1099511627776) 1099511627776 = q := ⟨_, rfl⟩
    refine (law22_do3 g a b c d y e' u l v sa n sc kd nn lt now q k0 k1 k2 hq w h R G).mono ?_
    rintro e w' ⟨sa', n', sc', rfl, R', v', h', M⟩
    have F : ∀ r ∈ fgW nn l, r ∈ l := fun r hr => (List.mem_filter.1 hr).1
    have GF : Good a b c d y e' (fgW nn l) := ⟨G.a1, G.a2, G.b1, G.b2, G.c0, G.c1, G.d0, G.d1, G.e0, G.e1, by have h1 := G.len; have h2 : (fgW nn l).length ≤ l.length := List.length_filter_le _ _; omega, (rising_iff _).2 (((rising_iff _).1 G.rise).filter _), fun hy => by rw [G.empty hy]; rfl, fun r hr => G.lo r (F r hr), fun r hr => G.hi r (F r hr), fun r hr => G.ok r (F r hr), fun r hr => G.tr r (F r hr)⟩
    exact ⟨_, _, _, _, v', sa', n', sc', rfl, ⟨h', R', GF, fun r hr => hw r (F r hr)⟩, M⟩
/-- The gaps at g and the document's in the struct at xb. -/
structure BothG (W : World) (g xb : Nat) (a b c d : Int) (y : Bool) (e u : Int) (l : List WR) (v : Value) (sa : Option Addr) (n sc : Nat) : Prop where
  h : GG W g a b c d y e u l v sa n sc
  x : Blk W xb 70 #[.int .i64 a, .int .i64 b, .int .i64 c, .int .i64 d, .slice sa n sc, .bool y, .int .i64 e, .int .i64 u]
  vx : v.ownBlock ≠ some xb
  gx : g ≠ xb
section
variable {wl W W' : World} {g xb : Nat} {a b c d : Int} {y : Bool} {e0 u : Int} {l : List WR} {v : Value} {sa : Option Addr} {n sc : Nat} {L : Nat → Bool} {G : Nat → Value}
theorem GG.at_ (H : GG W g a b c d y e0 u l v sa n sc) (hs : W.heap.size ≤ W'.heap.size) (hg : W'.heap[g]? = W.heap[g]?) (hv : ∀ j, v.ownBlock = some j → W'.heap[j]? = W.heap[j]?) (hr : ∀ k cs, Blk W k 125 cs → W'.heap[k]? = W.heap[k]?) : GG W' g a b c d y e0 u l v sa n sc :=
  ⟨H.q.at_ hg hv, H.row.at_ hs hr, H.good, H.wait⟩
theorem GG.below (H : GG W g a b c d y e0 u l v sa n sc) (hb : Below W.heap.size W W') : GG W' g a b c d y e0 u l v sa n sc :=
  ⟨H.q.below hb, H.row.below hb, H.good, H.wait⟩
theorem BothG.below (H : BothG W g xb a b c d y e0 u l v sa n sc) (hb : Below W.heap.size W W') : BothG W' g xb a b c d y e0 u l v sa n sc :=
  ⟨H.h.below hb, H.x.below hb H.x.lt, H.vx, H.gx⟩
/-- What stands when neither g nor its row nor the struct is touched. -/
theorem BothG.far (H : BothG W g xb a b c d y e0 u l v sa n sc) (hs : W.heap.size ≤ W'.heap.size) (hk : ∀ k, k < W.heap.size → (k = g ∨ v.ownBlock = some k ∨ k = xb ∨ ∃ cs, Blk W k 125 cs) → W'.heap[k]? = W.heap[k]?) : BothG W' g xb a b c d y e0 u l v sa n sc :=
  ⟨H.h.at_ hs (hk g H.h.q.blk.lt (.inl rfl)) (fun j hj => hk j (H.h.q.own.lt j hj).2 (.inr (.inl hj))) (fun k cs K => hk k K.lt (.inr (.inr (.inr ⟨cs, K⟩)))), (hk xb H.x.lt (.inr (.inr (.inl rfl)))).trans H.x, H.vx, H.gx⟩
end
/-- While the call's parts are drawn. -/
structure CDoG (wl : World) (g xb : Nat) (a b c d : Int) (y : Bool) (e0 u : Int) (l : List WR) (v : Value) (sa : Option Addr) (n sc : Nat) (L : Nat → Bool) (G : Nat → Value) (W : World) : Prop where
  size : wl.heap.size ≤ W.heap.size
  below : Below 0 wl W
  keep : ∀ k, k < wl.heap.size → k ≠ g → v.ownBlock ≠ some k → k ≠ xb → W.heap[k]? = wl.heap[k]?
  anc : L 11 = true → L 1 = true ∧ L 7 = true
  st0 : L 7 = false → GG W g a b c d y e0 u l v sa n sc
  st1 : L 7 = true → ∃ y' e' u' l' v' sa' n' sc', G 7 = .tuple #[gval a b c d y' e' u' sa' n' sc', .bool true] ∧ GG W g a b c d y' e' u' l' v' sa' n' sc' ∧ ∀ k, v'.ownBlock = some k → v.ownBlock = some k ∨ wl.heap.size ≤ k
  x0 : L 11 = false → Blk W xb 70 #[.int .i64 a, .int .i64 b, .int .i64 c, .int .i64 d, .slice sa n sc, .bool y, .int .i64 e0, .int .i64 u]
  x1 : L 11 = true → ∃ y' e' u' sa' n' sc', G 7 = .tuple #[gval a b c d y' e' u' sa' n' sc', .bool true] ∧ Blk W xb 70 #[.int .i64 a, .int .i64 b, .int .i64 c, .int .i64 d, .slice sa' n' sc', .bool y', .int .i64 e', .int .i64 u']
structure GDoG (a b c d : Int) (x0 : Value) (q : Nat) (z : Value) : Prop where
  load : q = 1 → z = x0
  call : q = 7 → ∃ y' e' u' sa' n' sc', z = .tuple #[gval a b c d y' e' u' sa' n' sc', .bool true]
def G0DoG (a b c d : Int) (x0 : Value) (q : Nat) : Value := if q = 1 then x0 else .tuple #[gval a b c d true 0 0 none 0 0, .bool true]
theorem G0DoG_ok (a b c d : Int) (x0 : Value) (q : Nat) : GDoG a b c d x0 q (G0DoG a b c d x0 q) := ⟨fun e => by subst e; rfl, fun e => by subst e; exact ⟨true, 0, 0, none, 0, 0, rfl⟩⟩
section
variable {wl W W' : World} {g xb : Nat} {a b c d : Int} {y : Bool} {e0 u : Int} {l : List WR} {v : Value} {sa : Option Addr} {n sc : Nat} {L : Nat → Bool} {G : Nat → Value}
theorem CDoG.start (h : BothG wl g xb a b c d y e0 u l v sa n sc) (G : Nat → Value) : CDoG wl g xb a b c d y e0 u l v sa n sc (fun _ => false) G wl.drew :=
  ⟨Nat.le_refl _, (Below.refl _ _).drew, fun _ _ _ _ _ => rfl, (fun e => by cases e), fun _ => h.h.below ((Below.refl _ _).drew), (fun e => by cases e), fun _ => h.x.drew, (fun e => by cases e)⟩
theorem CDoG.quiet (h : CDoG wl g xb a b c d y e0 u l v sa n sc L G W) {z : Nat} (h1 : z ≠ 1) (h7 : z ≠ 7) (h11 : z ≠ 11) : CDoG wl g xb a b c d y e0 u l v sa n sc (upd L z) G W := by
  refine ⟨h.size, h.below, h.keep, fun e => ?_, fun e => h.st0 ?_, fun e => h.st1 ?_, fun e => h.x0 ?_, fun e => h.x1 ?_⟩
  · rw [upd_ne L (by omega)] at e ⊢
    rw [upd_ne L (by omega)]
    exact h.anc e
  all_goals (rw [upd_ne L (by omega)] at e; exact e)
theorem CDoG.xb0 (h : CDoG wl g xb a b c d y e0 u l v sa n sc L G W) (hL : L 1 = false) : L 11 = false := by
  cases e : L 11
  · rfl
  · have := (h.anc e).1
    rw [hL] at this
    cases this
theorem CDoG.loaded (h : CDoG wl g xb a b c d y e0 u l v sa n sc L G W) (hL : L 1 = false) (z : Value) : CDoG wl g xb a b c d y e0 u l v sa n sc (upd L 1) (upF G 1 z) W := by
  refine ⟨h.size, h.below, h.keep, fun e => ?_, fun e => h.st0 ?_, fun e => ?_, fun e => h.x0 ?_, fun e => ?_⟩
  · rw [upd_ne L (by decide)] at e
    rw [h.xb0 hL] at e
    cases e
  · rw [upd_ne L (by decide)] at e; exact e
  · rw [upd_ne L (by decide)] at e
    rw [upF_ne _ _ (by decide)]
    exact h.st1 e
  · rw [upd_ne L (by decide)] at e; exact e
  · rw [upd_ne L (by decide), h.xb0 hL] at e
    cases e
theorem CDoG.down (h : CDoG wl g xb a b c d y e0 u l v sa n sc L G W) {B : Nat} (hB : B ≤ wl.heap.size) (hg : B ≤ g) (hx : B ≤ xb) (hv : ∀ k, v.ownBlock = some k → B ≤ k) : Below B wl W :=
  ⟨h.below.os, h.below.tape, h.below.output, h.size, fun k hk => h.keep k (by omega) (by omega) (fun e => by have := hv k e; omega) (by omega)⟩
theorem CDoG.stored (h : CDoG wl g xb a b c d y e0 u l v sa n sc L G W) (H : BothG wl g xb a b c d y e0 u l v sa n sc) (h1 : L 1 = true) (h7 : L 7 = true) (h11 : L 11 = false) {y' : Bool} {e' u' : Int} {ra : Option Addr} {rn rc : Nat} (hG : G 7 = .tuple #[gval a b c d y' e' u' ra rn rc, .bool true]) (K : Blk W' xb 70 #[.int .i64 a, .int .i64 b, .int .i64 c, .int .i64 d, .slice ra rn rc, .bool y', .int .i64 e', .int .i64 u']) (hB : Below 0 W W') (hk : ∀ k, k ≠ xb → W'.heap[k]? = W.heap[k]?) (z : Value) : CDoG wl g xb a b c d y e0 u l v sa n sc (upd L 11) (upF G 11 z) W' := by
  have hx := H.x.lt
  refine ⟨Nat.le_trans h.size hB.size, h.below.trans hB, fun k h1 h2 h3 h4 => (hk k h4).trans (h.keep k h1 h2 h3 h4), fun _ => ?_, fun e => ?_, fun _ => ?_, (fun e => by rw [upd_at] at e; cases e), fun _ => ?_⟩
  · rw [upd_ne L (by decide), upd_ne L (by decide)]
    exact ⟨h1, h7⟩
  · rw [upd_ne L (by decide), h7] at e
    cases e
  · obtain ⟨y1, e1, u1, l', v', sa', n', sc', e, A, rowv⟩ := h.st1 h7
    rw [upF_ne _ _ (by decide)]
    have K0 := h.x0 h11
    refine ⟨y1, e1, u1, l', v', sa', n', sc', e, A.at_ hB.size (hk g H.gx) (fun j hj => hk j (fun e3 => ?_)) (fun k cs K1 => hk k (fun e3 => ?_)), rowv⟩
    · subst e3
      rcases rowv _ hj with h2 | h2
      · exact H.vx h2
      · omega
    · subst e3
      exact Blk.ne_ K1 K0 (by decide) rfl
  · rw [upF_ne _ _ (by decide)]
    exact ⟨_, _, _, _, _, _, hG, K⟩
theorem CDoG.call (h : CDoG wl g xb a b c d y e0 u l v sa n sc L G W) (H : BothG wl g xb a b c d y e0 u l v sa n sc) (hL : L 7 = false) (kd nn lt now : Int) :
    Calls Try.prog 33 #[.pointer (some ⟨g, 0, none⟩), gval a b c d y e0 u sa n sc, .agg #[.int .i64 kd, .int .i64 nn, .int .i64 lt], .int .i64 now] W fun e w' => ∃ z, e = .returned z ∧ GDoG a b c d (gval a b c d y e0 u sa n sc) 7 z ∧ CDoG wl g xb a b c d y e0 u l v sa n sc (upd L 7) (upF G 7 z) w' := by
  have hx := H.x.lt
  have sW := h.size
  refine (law22_do g a b c d y e0 u l v sa n sc kd nn lt now W (h.st0 hL)).mono ?_
  rintro e w' ⟨y', e', u', l', v', sa', n', sc', rfl, A, M⟩
  have hno : L 11 = true → False := fun e => by have := (h.anc e).2; rw [hL] at this; cases this
  refine ⟨_, rfl, ⟨(fun e => by cases e), fun _ => ⟨_, _, _, _, _, _, rfl⟩⟩, ⟨Nat.le_trans sW M.below.size, h.below.trans M.below, fun k h1 h2 h3 h4 => (M.keep k (by omega) h2 h3).trans (h.keep k h1 h2 h3 h4), fun e => ?_, (fun e => by rw [upd_at] at e; cases e), fun _ => ⟨y', e', u', l', v', sa', n', sc', upF_same _ _ _, A, fun k hk => ?_⟩, fun e => ?_, fun e => ?_⟩⟩
  · rw [upd_ne L (by decide)] at e
    exact absurd e (fun e => hno e)
  · rcases M.row k hk with h1 | h1
    · exact .inl h1
    · right; omega
  · rw [upd_ne L (by decide)] at e
    exact (M.keep xb (by omega) H.gx.symm H.vx).trans (h.x0 e)
  · rw [upd_ne L (by decide)] at e
    exact absurd e (fun e => hno e)
/-- Behind the region. -/
theorem CDoG.done (h : CDoG wl g xb a b c d y e0 u l v sa n sc L G W) (H : BothG wl g xb a b c d y e0 u l v sa n sc) (h7 : L 7 = true) (h11 : L 11 = true) {y1 : Bool} {e1 u1 : Int} {ra : Option Addr} {rn rc : Nat} (hG : G 7 = .tuple #[gval a b c d y1 e1 u1 ra rn rc, .bool true]) :
    ∃ l' v', BothG W g xb a b c d y1 e1 u1 l' v' ra rn rc ∧ (∀ k, v'.ownBlock = some k → v.ownBlock = some k ∨ wl.heap.size ≤ k) := by
  have hx := H.x.lt
  obtain ⟨y2, e2, u2, l', v', sa', n', sc', q1, A, rowv⟩ := h.st1 h7
  obtain ⟨y3, e3, u3, sa3, n3, sc3, q3, K⟩ := h.x1 h11
  rw [hG] at q1 q3
  simp only [gval, Value.tuple.injEq, Array.mk.injEq, List.cons.injEq, Value.agg.injEq, Value.slice.injEq, Value.int.injEq, Value.bool.injEq, and_true, true_and] at q1 q3
  obtain ⟨⟨rfl, rfl, rfl⟩, rfl, rfl, rfl⟩ := q1
  obtain ⟨⟨rfl, rfl, rfl⟩, rfl, rfl, rfl⟩ := q3
  refine ⟨l', v', ⟨A, K, fun e3 => ?_, H.gx⟩, rowv⟩
  rcases rowv _ e3 with h2 | h2
  · exact H.vx h2
  · omega
end
end Go.Proofs.Ytonamlgipoannaa
