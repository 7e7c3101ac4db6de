/- Package nack: Of. No condition but the text's size. -/
import Derived.Test.YtmmoejnjajmnpaaNackE
import Derived.Test.YtmmoejnjajmnpaaPhase
namespace Go.Proofs.Ytmmoejnjajmnpaa
open Go.RowKit BigFrame
attribute [local go_sem ↓] Go.wp_at_zero Go.wp_at_succ

/-- Which error, if any. -/
def errOf (cnt kd : Int) (z : Nat) : Int := if kd ≠ 205 ∨ cnt ≠ 1 then 5 else if z < 12 then 2 else if z % 4 ≠ 0 ∨ 1208 < z then 1 else 0
/-- While one pair's parts are drawn. -/
def StOf (w0 : World) (B gi gn g2 m : Nat) (s1 s2 : ByteArray) (f a : Int) (xs : List Value) (q1 q2 : Nat) (k : Nat) (G : Nat → Value) (W : World) : Prop :=
  match k with
  | 0 => W = w0.drew
  | 1 => InAt W gi s1 0 ∧ OnlyAt w0 W gi
  | 2 => InAt W gi s2 0 ∧ OnlyAt w0 W gi
  | 3 => ∃ W2, InAt W2 gi s2 0 ∧ OnlyAt w0 W2 gi ∧ W = W2.alloc (.cells #[.int .u16 q1, .int .u16 q2] 30) ∧ G 9 = .slice (some ⟨W2.heap.size, 0, none⟩) 1 1
  | 4 => ∃ g4 cap, G 10 = .slice (some ⟨g4, 0, none⟩) (m + 1) cap ∧ W.ownsRow B 30 2 (.slice (some ⟨g4, 0, none⟩) (m + 1) cap) (m + 1) (xs ++ [.int .u16 q1, .int .u16 q2]) ∧ InAt W gi s2 0 ∧ Below B w0 W ∧ W.heap[gn]? = w0.heap[gn]? ∧ W.heap[g2]? = w0.heap[g2]?
  | 5 => ∃ g4 cap, G 10 = .slice (some ⟨g4, 0, none⟩) (m + 1) cap ∧ W.ownsRow B 30 2 (.slice (some ⟨g4, 0, none⟩) (m + 1) cap) (m + 1) (xs ++ [.int .u16 q1, .int .u16 q2]) ∧ InAt W gi s2 0 ∧ Below B w0 W ∧ Blk W gn 36 #[.int .u32 f, .int .u32 a, .slice (some ⟨g4, 0, none⟩) (m + 1) cap] ∧ W.heap[g2]? = w0.heap[g2]?
  | _ => False
structure COf (w0 : World) (B gi gn g2 m : Nat) (s1 s2 : ByteArray) (f a : Int) (xs : List Value) (q1 q2 : Nat) (L : Nat → Bool) (G : Nat → Value) (W : World) : Prop where
  ph : Phase [3, 6, 9, 10, 12] (StOf w0 B gi gn g2 m s1 s2 f a xs q1 q2) L G W
  anc : L 12 = true → L 1 = true
structure GOf (m : Nat) (sv : Value) (q1 q2 : Nat) (q : Nat) (v : Value) : Prop where
  a1 : q = 1 → v = sv
  a3 : q = 3 → v = .int .i64 q1
  a6 : q = 6 → v = .int .i64 q2
  a9 : q = 9 → ∃ g, v = .slice (some ⟨g, 0, none⟩) 1 1
  a10 : q = 10 → ∃ g cap, v = .slice (some ⟨g, 0, none⟩) (m + 1) cap
section
variable {w0 W W' : World} {B gi gn g2 m q1 q2 : Nat} {s1 s2 : ByteArray} {f a : Int} {xs : List Value} {L : Nat → Bool} {G : Nat → Value}
theorem COf.start (G : Nat → Value) : COf w0 B gi gn g2 m s1 s2 f a xs q1 q2 (fun _ => false) G w0.drew := ⟨Phase.start rfl, (fun e => by cases e)⟩
theorem COf.quiet (h : COf w0 B gi gn g2 m s1 s2 f a xs q1 q2 L G W) {z : Nat} (h1 : z ≠ 1) (h2 : z ∉ [3, 6, 9, 10, 12]) : COf w0 B gi gn g2 m s1 s2 f a xs q1 q2 (upd L z) G W := by
  refine ⟨h.ph.quiet (fun i e => h2 (List.mem_of_getElem? e)), fun e => ?_⟩
  rw [updL_ne L (fun e2 => h2 (by rw [← e2]; simp))] at e
  rw [updL_ne L (Ne.symm h1)]
  exact h.anc e
theorem StOf.old {k : Nat} (h : StOf w0 B gi gn g2 m s1 s2 f a xs q1 q2 k G W) (hk : k ≤ 4) (hn : gn ≠ gi) (hl : gn < w0.heap.size) : W.heap[gn]? = w0.heap[gn]? := by
  match k, hk with
  | 0, _ => rw [show W = w0.drew from h]; rfl
  | 1, _ => exact h.2.2 gn hn
  | 2, _ => exact h.2.2 gn hn
  | 3, _ =>
    obtain ⟨W2, _, hO, rfl, _⟩ := h
    exact (Below.heap_alloc _ _ _ (by have := hO.1.size; omega)).trans (hO.2 gn hn)
  | 4, _ =>
    obtain ⟨g4, cap, _, _, _, _, h1, _⟩ := h
    exact h1
theorem COf.load (h : COf w0 B gi gn g2 m s1 s2 f a xs q1 q2 L G W) (hL : L 1 = false) (hn : gn ≠ gi) (hl : gn < w0.heap.size) (u : Value) : W.heap[gn]? = w0.heap[gn]? ∧ COf w0 B gi gn g2 m s1 s2 f a xs q1 q2 (upd L 1) (upF G 1 u) W := by
  obtain ⟨⟨k, h1, h2⟩, h3⟩ := h
  have h12 : L 12 = false := by
    cases e : L 12
    · rfl
    · rw [h3 e] at hL; cases hL
  have hk : ¬ 4 < k := fun e => by
    have := (h1 4 12 rfl).2 e
    rw [h12] at this; cases this
  have hG9 : upF G 1 u 9 = G 9 := upF_ne _ _ (by decide)
  have hG10 : upF G 1 u 10 = G 10 := upF_ne _ _ (by decide)
  refine ⟨StOf.old h2 (by omega) hn hl, ⟨k, fun i z hz => ?_, ?_⟩, fun e => by rw [updL_at]⟩
  · have hz1 : z ≠ 1 := fun e => by
      have := List.mem_of_getElem? hz
      rw [e] at this
      simp at this
    rw [updL_ne L hz1]
    exact h1 i z hz
  · unfold StOf at h2 ⊢
    rw [hG9, hG10]
    exact h2
end
set_option maxRecDepth 8000 in
set_option maxHeartbeats 4000000 in
theorem nack_OfErr (cnt kd : Int) (s : ByteArray) (er : Int) (w : World) (h : errOf cnt kd s.size = er) (hne : er ≠ 0) (hs : s.size ≤ maxLen) :
    Calls Try.prog 22 #[.agg #[.int .i64 cnt, .int .i64 kd, .string s]] w fun e w' => e = .returned (.tuple #[.agg #[.int .u32 0, .int .u32 0, .slice none 0 0], .int .i64 er]) ∧ Below w.heap.size w w' := by
  rw [maxLen_eq] at hs
  obtain ⟨K1, K2, B1⟩ := two_newD w #[.int .i64 cnt, .int .i64 kd, .string s] #[.int .u32 0, .int .u32 0, .slice none 0 0] 48 36
  obtain ⟨z, hz⟩ : ∃ z, s.size = z := ⟨_, rfl⟩
  rw [hz] at h hs
  have hc : (kd ≠ 205 ∧ er = 5) ∨ (kd = 205 ∧ cnt ≠ 1 ∧ er = 5) ∨ (kd = 205 ∧ cnt = 1 ∧ z < 12 ∧ er = 2) ∨ (kd = 205 ∧ cnt = 1 ∧ 12 ≤ z ∧ z % 4 ≠ 0 ∧ er = 1) ∨ (kd = 205 ∧ cnt = 1 ∧ 12 ≤ z ∧ z % 4 = 0 ∧ 1208 < z ∧ er = 1) := by
    unfold errOf at h
    split at h
    · rename_i h1
      by_cases hk : kd = 205
      · exact .inr (.inl ⟨hk, by rcases h1 with h1 | h1; exact absurd hk h1; exact h1, h.symm⟩)
      · exact .inl ⟨hk, h.symm⟩
    · rename_i h1
      have h2 : kd = 205 ∧ cnt = 1 := by omega
      split at h
      · exact .inr (.inr (.inl ⟨h2.1, h2.2, by omega, h.symm⟩))
      · split at h
        · by_cases h4 : z % 4 = 0
          · exact .inr (.inr (.inr (.inr ⟨h2.1, h2.2, by omega, h4, by omega, h.symm⟩)))
          · exact .inr (.inr (.inr (.inl ⟨h2.1, h2.2, by omega, h4, h.symm⟩)))
        · exact absurd h.symm hne
  have wz : (z : Int).tmod 4 = ((z % 4 : Nat) : Int) := by rw [Int.tmod_eq_emod_of_nonneg (by omega)]; omega
  obtain ⟨z4, hz4⟩ : ∃ z4, z % 4 = z4 := ⟨_, rfl⟩
  rw [hz4] at wz hc
  have hz' : (s.size : Int) = (z : Int) := by rw [hz]
  clear h hne hz hz4
  rcases hc with ⟨h1, rfl⟩ | ⟨rfl, h1, rfl⟩ | ⟨rfl, rfl, h1, rfl⟩ | ⟨rfl, rfl, h1, h2, rfl⟩ | ⟨rfl, rfl, h1, h2, h3, rfl⟩
  all_goals
    try have e1 : (kd != 205) = true := by simp [h1]
    try have e1 : (cnt != 1) = true := by simp [h1]
    try have e1 : (z : Int) < 12 := by omega
    try have e1 : ¬ (z : Int) < 12 := by omega
    try have e2 : ((z4 : Int) != 0) = true := by simp; omega
    try have e2 : ((z4 : Int) != 0) = false := by simp; omega
    try have e3 : (1208 : Int) < (z : Int) := by omega
    go_enter Try.func22, Try.ntmps22
    go_upto_region 1 with fail
    generalize (w.alloc (.cells #[.int .i64 _, .int .i64 _, .string s] 48)).alloc (.cells #[.int .u32 0, .int .u32 0, .slice none 0 0] 36) = w1 at *
    have k1 := K1.cell
    have k2 := K2.cell
    have f2 := K2.frozen
    simp at k1 k2
    obtain ⟨w3, e3', K3, B3, hk3⟩ := three_set K2 rfl (.int .u32 0) (.int .u32 0) (.slice none 0 0) w.heap.size (by omega)
    have k3 := K3.cell
    simp at k3
    go_wp2_with fail
    refine bodyPost_ret ?_ rfl ⟨rfl, B1.trans B3⟩
    simp [results, Try.results22, go_sem, k3]
    try rfl
end Go.Proofs.Ytmmoejnjajmnpaa
