/- Package source and its reference, walked further: each function computes the plain Lean function named here. No condition but the numbers' bounds. -/
import Derived.Test.YtfoefkoneekolaaDoorSource
import Derived.Deep.DeepCutAuto
namespace Go.Proofs.YtfoefkoneekolaaDoor
open Go.RowKit
attribute [local go_sem ↓] Go.wp_at_zero Go.wp_at_succ

theorem six_set {w : World} {g : Nat} {t : TypeId} {u0 u1 u2 u3 u4 u5 : Value} (h : Blk w g t #[u0, u1, u2, u3, u4, u5]) (a b c d e f : Value) (B : Nat) (hB : B ≤ g) :
    ∃ w2, (((((w.setCell ⟨g, 0, none⟩ a).setCell ⟨g, 1, none⟩ b).setCell ⟨g, 2, none⟩ c).setCell ⟨g, 3, none⟩ d).setCell ⟨g, 4, none⟩ e).setCell ⟨g, 5, none⟩ f = w2 ∧ Blk w2 g t #[a, b, c, d, e, f] ∧ Below B w w2 ∧ (∀ k, k ≠ g → w2.heap[k]? = w.heap[k]?) := by
  have h0 : Blk (w.setCell ⟨g, 0, none⟩ a) g t #[a, u1, u2, u3, u4, u5] := h.set_ 0 a
  have b0 : Below B w (w.setCell ⟨g, 0, none⟩ a) := (Below.refl _ _).setCell hB _
  have e0 : ∀ k, k ≠ g → (w.setCell ⟨g, 0, none⟩ a).heap[k]? = w.heap[k]? := fun k hk => Below.heap_setCell _ _ _ _ hk
  generalize w.setCell ⟨g, 0, none⟩ a = w0 at *
  have h1 : Blk (w0.setCell ⟨g, 1, none⟩ b) g t #[a, b, u2, u3, u4, u5] := h0.set_ 1 b
  have b1 : Below B w (w0.setCell ⟨g, 1, none⟩ b) := b0.setCell hB _
  have e1 : ∀ k, k ≠ g → (w0.setCell ⟨g, 1, none⟩ b).heap[k]? = w.heap[k]? := fun k hk => (Below.heap_setCell _ _ _ _ hk).trans (e0 k hk)
  generalize w0.setCell ⟨g, 1, none⟩ b = w1 at *
  have h2 : Blk (w1.setCell ⟨g, 2, none⟩ c) g t #[a, b, c, u3, u4, u5] := h1.set_ 2 c
  have b2 : Below B w (w1.setCell ⟨g, 2, none⟩ c) := b1.setCell hB _
  have e2 : ∀ k, k ≠ g → (w1.setCell ⟨g, 2, none⟩ c).heap[k]? = w.heap[k]? := fun k hk => (Below.heap_setCell _ _ _ _ hk).trans (e1 k hk)
  generalize w1.setCell ⟨g, 2, none⟩ c = w2 at *
  have h3 : Blk (w2.setCell ⟨g, 3, none⟩ d) g t #[a, b, c, d, u4, u5] := h2.set_ 3 d
  have b3 : Below B w (w2.setCell ⟨g, 3, none⟩ d) := b2.setCell hB _
  have e3 : ∀ k, k ≠ g → (w2.setCell ⟨g, 3, none⟩ d).heap[k]? = w.heap[k]? := fun k hk => (Below.heap_setCell _ _ _ _ hk).trans (e2 k hk)
  generalize w2.setCell ⟨g, 3, none⟩ d = w3 at *
  have h4 : Blk (w3.setCell ⟨g, 4, none⟩ e) g t #[a, b, c, d, e, u5] := h3.set_ 4 e
  have b4 : Below B w (w3.setCell ⟨g, 4, none⟩ e) := b3.setCell hB _
  have e4 : ∀ k, k ≠ g → (w3.setCell ⟨g, 4, none⟩ e).heap[k]? = w.heap[k]? := fun k hk => (Below.heap_setCell _ _ _ _ hk).trans (e3 k hk)
  generalize w3.setCell ⟨g, 4, none⟩ e = w4 at *
  exact ⟨_, rfl, h4.set_ 5 f, b4.setCell hB _, fun k hk => (Below.heap_setCell _ _ _ _ hk).trans (e4 k hk)⟩

set_option maxHeartbeats 4000000 in
theorem source_prove (s r : S6) (n : Int) (ok : Bool) (m0 : 0 ≤ s.mx) (m1 : s.mx ≤ 65535) (n0 : 0 ≤ n) (n1 : n ≤ 65535) (p1 : 1 ≤ s.pr) (p2 : s.pr ≤ 2) (h : proveS s n = (r, ok)) (w : World) :
    Calls Tryd.prog 18 #[.agg #[.int .u16 s.mx, .int .i64 s.cy, .int .i64 s.ba, .int .i64 s.bd, .int .i64 s.pr, .int .i64 s.rc], .int .u16 n] w fun e w' => e = .returned (.tuple #[.agg #[.int .u16 r.mx, .int .i64 r.cy, .int .i64 r.ba, .int .i64 r.bd, .int .i64 r.pr, .int .i64 r.rc], .bool ok]) ∧ Below w.heap.size w w' := by
  obtain ⟨x, hx⟩ : ∃ x, (s.mx + 1) % 65536 = x := ⟨_, rfl⟩
  have hw : IntKind.u16.wrap (s.mx + 1) = x := by rw [← hx]; simp [IntKind.wrap, IntKind.bits, IntKind.signed]
  unfold proveS at h
  rw [hx] at h
  clear hx
  obtain ⟨mx, cy, ba, bd, pr, rc⟩ := s
  simp only at *
  by_cases hn : n = x
  · rw [if_pos hn] at h
    have hne : (n != x) = false := by rw [hn]; simp
    clear hn
    by_cases hp : pr = 1
    · rw [if_pos hp] at h
      injection h with h1 h2
      subst h1 h2 hp
      have HA := Lib.hid (fun W => source_anew ⟨mx, cy, ba, bd, 0, rc⟩ ⟨n, 0, n, 65537, 0, 0⟩ n n0 n1 rfl W)
      go_enter Tryd.func18, Tryd.ntmps18
      go_wp2_with fail
      refine (HA.out _).mono ?_
      rintro e w1 ⟨rfl, hb⟩
      have k1 := ((Blk.new w 27 #[.int .u16 mx, .int .i64 cy, .int .i64 ba, .int .i64 bd, .int .i64 0, .int .i64 rc]).alloc (.cells #[.int .u16 0, .int .i64 0, .int .i64 0, .int .i64 0, .int .i64 0, .int .i64 0] 27)).below hb (by simp; omega)
      have k2 := (Blk.new1 w (.cells #[.int .u16 mx, .int .i64 cy, .int .i64 ba, .int .i64 bd, .int .i64 0, .int .i64 rc] 27) 27 #[.int .u16 0, .int .i64 0, .int .i64 0, .int .i64 0, .int .i64 0, .int .i64 0]).below hb (by simp)
      have B1 : Below w.heap.size w w1 := (((Below.refl _ w).alloc (Nat.le_refl _) _).alloc (by simp) _).trans (hb.mono (by simp; omega))
      clear hb
      obtain ⟨w2, e2, k1', B2, hk⟩ := six_set k1 (.int .u16 n) (.int .i64 0) (.int .i64 n) (.int .i64 65537) (.int .i64 0) (.int .i64 0) w.heap.size (Nat.le_refl _)
      have k2' := (hk (w.heap.size + 1) (by omega)).trans k2
      have B3 := B1.trans B2
      have c0 := k1.cell
      have f0 := k1.frozen
      simp at c0
      go_upto_region 9 with fail
      try rw [e2]
      clear e2 c0 f0 k1 k2 B2 hk B1
      have c0 := k1'.cell
      have f0 := k1'.frozen
      have c1 := (show Blk w2 (w.heap.size + 1) _ _ from k2').cell
      have f1 := (show Blk w2 (w.heap.size + 1) _ _ from k2').frozen
      have l1 := (show Blk w2 (w.heap.size + 1) _ _ from k2').lt
      simp at c0 c1
      go_wp2
      refine bodyPost_ret (v := .tuple #[.agg #[.int .u16 n, .int .i64 0, .int .i64 n, .int .i64 65537, .int .i64 0, .int .i64 1], .bool true]) ?_ rfl ⟨rfl, ?_⟩
      · simp [results, Tryd.results18, go_sem, c0, c1]
      · (repeat (first | with_reducible assumption | with_reducible exact Below.refl _ _ | with_reducible refine Below.drew ?_ | with_reducible refine Below.setCell ?_ (by first | exact Nat.le_refl _ | exact Nat.le_add_right _ _ | assumption | omega | (simp; done) | (simp; omega)) _ | with_reducible refine Below.alloc ?_ (by first | exact Nat.le_refl _ | exact Nat.le_add_right _ _ | assumption | omega | (simp; done) | (simp; omega)) _ | refine Below.drew ?_ | refine Below.setCell ?_ (by first | exact Nat.le_refl _ | exact Nat.le_add_right _ _ | assumption | omega | (simp; done) | (simp; omega)) _ | refine Below.alloc ?_ (by first | exact Nat.le_refl _ | exact Nat.le_add_right _ _ | assumption | omega | (simp; done) | (simp; omega)) _))
    · rw [if_neg hp] at h
      injection h with h1 h2
      subst h1 h2
      have hp2 : pr = 2 := by omega
      subst hp2
      clear hp
      go_enter Tryd.func18, Tryd.ntmps18
      go_wp2
      refine bodyPost_ret (v := .tuple #[.agg #[.int .u16 n, .int .i64 cy, .int .i64 ba, .int .i64 bd, .int .i64 1, .int .i64 rc], .bool false]) ?_ rfl ⟨rfl, ?_⟩
      · simp [results, Tryd.results18, go_sem]
      · (repeat (first | with_reducible assumption | with_reducible exact Below.refl _ _ | with_reducible refine Below.drew ?_ | with_reducible refine Below.setCell ?_ (by first | exact Nat.le_refl _ | exact Nat.le_add_right _ _ | assumption | omega | (simp; done) | (simp; omega)) _ | with_reducible refine Below.alloc ?_ (by first | exact Nat.le_refl _ | exact Nat.le_add_right _ _ | assumption | omega | (simp; done) | (simp; omega)) _ | refine Below.drew ?_ | refine Below.setCell ?_ (by first | exact Nat.le_refl _ | exact Nat.le_add_right _ _ | assumption | omega | (simp; done) | (simp; omega)) _ | refine Below.alloc ?_ (by first | exact Nat.le_refl _ | exact Nat.le_add_right _ _ | assumption | omega | (simp; done) | (simp; omega)) _))
  · rw [if_neg hn] at h
    injection h with h1 h2
    subst h1 h2
    have hne : (n != x) = true := by rw [bne_iff_ne]; exact hn
    clear hn
    go_enter Tryd.func18, Tryd.ntmps18
    go_wp2
    refine bodyPost_ret (v := .tuple #[.agg #[.int .u16 n, .int .i64 cy, .int .i64 ba, .int .i64 bd, .int .i64 1, .int .i64 rc], .bool false]) ?_ rfl ⟨rfl, ?_⟩
    · simp [results, Tryd.results18, go_sem]
    · (repeat (first | with_reducible assumption | with_reducible exact Below.refl _ _ | with_reducible refine Below.drew ?_ | with_reducible refine Below.setCell ?_ (by first | exact Nat.le_refl _ | exact Nat.le_add_right _ _ | assumption | omega | (simp; done) | (simp; omega)) _ | with_reducible refine Below.alloc ?_ (by first | exact Nat.le_refl _ | exact Nat.le_add_right _ _ | assumption | omega | (simp; done) | (simp; omega)) _ | refine Below.drew ?_ | refine Below.setCell ?_ (by first | exact Nat.le_refl _ | exact Nat.le_add_right _ _ | assumption | omega | (simp; done) | (simp; omega)) _ | refine Below.alloc ?_ (by first | exact Nat.le_refl _ | exact Nat.le_add_right _ _ | assumption | omega | (simp; done) | (simp; omega)) _))
end Go.Proofs.YtfoefkoneekolaaDoor
