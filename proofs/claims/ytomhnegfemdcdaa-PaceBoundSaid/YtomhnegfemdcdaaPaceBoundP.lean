/- The plain law of PaceBound: what is taken in any ticks, and what is left, is at most the burst and the rate for each tick. No program in sight. -/
import Derived.Test.YtomhnegfemdcdaaPacePlays
namespace Go.Proofs.Ytomhnegfemdcdaa
open Go.RowKit

def nowF (f : Nat → Int) : Nat → Int
  | 0 => 0
  | k + 1 => nowF f k + f k % 32
def stF (R B : Int) (f m : Nat → Int) : Nat → P4
  | 0 => ⟨R, B, B, 0⟩
  | k + 1 => (takeP (stF R B f m k) (nowF f (k + 1)) (m k % 65536)).1
def okF (R B : Int) (f m : Nat → Int) (k : Nat) : Bool := (takeP (stF R B f m k) (nowF f (k + 1)) (m k % 65536)).2
def tookF (R B : Int) (f m : Nat → Int) (k : Nat) : Int := if okF R B f m k then m k % 65536 else 0
/-- The last d of k numbers, added up from the last one. -/
def sumD (tk : Nat → Int) (k : Nat) : Nat → Int
  | 0 => 0
  | d + 1 => sumD tk k d + tk (k - 1 - d)

theorem now_bd (f : Nat → Int) (k : Nat) : 0 ≤ nowF f k ∧ nowF f k ≤ 31 * k := by
  induction k with
  | zero => exact ⟨Int.le_refl _, by simp [nowF]⟩
  | succ k ih => rw [nowF]; omega
theorem now_mono (f : Nat → Int) (k d : Nat) : nowF f k ≤ nowF f (k + d) := by
  induction d with
  | zero => exact Int.le_refl _
  | succ d ih => rw [show k + (d + 1) = (k + d) + 1 by omega, nowF]; omega
theorem sumD_succ (tk : Nat → Int) (k d : Nat) (h : d ≤ k) : sumD tk (k + 1) (d + 1) = tk k + sumD tk k d := by
  induction d with
  | zero => simp [sumD]
  | succ d ih =>
    rw [sumD, ih (by omega), sumD, show k + 1 - 1 - (d + 1) = k - 1 - d by omega]
    omega
theorem sumD_bd (tk : Nat → Int) (h : ∀ i, 0 ≤ tk i ∧ tk i ≤ 65535) (k d : Nat) : 0 ≤ sumD tk k d ∧ sumD tk k d ≤ 65535 * d := by
  induction d with
  | zero => simp [sumD]
  | succ d ih => rw [sumD]; have := h (k - 1 - d); omega

theorem take_step (p q : P4) (ok : Bool) (R B now d n : Int) (hr : p.r = R) (hb : p.b = B) (hl : p.l = now) (R0 : 1 ≤ R) (R1 : R ≤ 4096) (B0 : 1 ≤ B) (B1 : B ≤ 65536) (t0 : 0 ≤ p.t) (t1 : p.t ≤ B) (n0 : 0 ≤ now) (n1 : now ≤ 10000) (d0 : 0 ≤ d) (d1 : d ≤ 31) (m0 : 0 ≤ n)
    (h : takeP p (now + d) n = (q, ok)) :
    q.r = R ∧ q.b = B ∧ q.l = now + d ∧ 0 ≤ q.t ∧ q.t ≤ B ∧ (if ok then n else 0) + q.t ≤ B ∧ (if ok then n else 0) + q.t ≤ p.t + R * d := by
  obtain ⟨r, b, t, l⟩ := p
  simp only at hr hb hl t0 t1
  subst hr hb hl
  have hat : atP ⟨r, b, t, l⟩ (l + d) = ⟨r, b, min b (t + d * r), l + d⟩ := by
    unfold atP
    rw [fitP_id _ (by unfold FitP; simp only; omega)]
    have e1 : tickP ⟨r, b, t, l⟩ (l + d) = l + d := by unfold tickP clipI; simp only; omega
    rw [e1]
    simp only [P4.mk.injEq, true_and, and_true]
    rw [show min (l + d - l) 1048576 = d by omega]
  unfold takeP at h
  rw [hat] at h
  simp only at h
  have hn : max 0 n = n := by omega
  rw [hn] at h
  obtain ⟨x, hx⟩ : ∃ x, d * r = x := ⟨_, rfl⟩
  have hx0 : 0 ≤ x := by rw [← hx]; exact Int.mul_nonneg (by omega) (by omega)
  have hx2 : r * d = x := by rw [Int.mul_comm]; exact hx
  rw [hx] at h
  rw [hx2]
  simp only
  split at h
  · injection h with h1 h2
    subst h1 h2
    refine ⟨rfl, rfl, rfl, ?_, ?_, ?_, ?_⟩ <;> simp only [Bool.false_eq_true, if_false] <;> omega
  · injection h with h1 h2
    subst h1 h2
    refine ⟨rfl, rfl, rfl, ?_, ?_, ?_, ?_⟩ <;> simp only [if_true] <;> omega

theorem bound_inv (R B : Int) (f m : Nat → Int) (R0 : 1 ≤ R) (R1 : R ≤ 4096) (B0 : 1 ≤ B) (B1 : B ≤ 65536) : ∀ k : Nat, k ≤ 60 →
    (stF R B f m k).r = R ∧ (stF R B f m k).b = B ∧ (stF R B f m k).l = nowF f k ∧ 0 ≤ (stF R B f m k).t ∧ (stF R B f m k).t ≤ B ∧
    ∀ d, d < k → sumD (tookF R B f m) k (d + 1) + (stF R B f m k).t ≤ B + R * (nowF f k - nowF f (k - d)) := by
  intro k
  induction k with
  | zero => intro _; exact ⟨rfl, rfl, rfl, by show 0 ≤ B; omega, Int.le_refl _, fun d hd => absurd hd (by omega)⟩
  | succ k ih =>
    intro hk
    obtain ⟨h1, h2, h3, h4, h5, h6⟩ := ih (by omega)
    obtain ⟨n0, n1⟩ := now_bd f k
    obtain ⟨g1, g2, g3, g4, g5, g6, g7⟩ := take_step (stF R B f m k) (stF R B f m (k + 1)) (okF R B f m k) R B (nowF f k) (f k % 32) (m k % 65536) h1 h2 h3 R0 R1 B0 B1 h4 h5 n0 (by omega) (by omega) (by omega) (by omega) rfl
    refine ⟨g1, g2, g3, g4, g5, ?_⟩
    have ht : tookF R B f m k = if okF R B f m k then m k % 65536 else 0 := rfl
    rw [← ht] at g6 g7
    intro d hd
    rw [sumD_succ _ _ _ (by omega)]
    match d, hd with
    | 0, _ =>
      simp only [sumD, Nat.sub_zero, Int.sub_self, Int.mul_zero]
      omega
    | d + 1, hd =>
      have := h6 d (by omega)
      rw [show k + 1 - (d + 1) = k - d by omega, nowF, show nowF f k + f k % 32 - nowF f (k - d) = (nowF f k - nowF f (k - d)) + f k % 32 by omega, Int.mul_add]
      omega
theorem took_bd (R B : Int) (f m : Nat → Int) (i : Nat) : 0 ≤ tookF R B f m i ∧ tookF R B f m i ≤ 65535 := by
  unfold tookF; split <;> omega
end Go.Proofs.Ytomhnegfemdcdaa
