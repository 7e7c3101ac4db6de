/- What is wanting, as a list: what a packet, a tick, a forgetting make of it. Plain law. -/
import Derived.Test.YtonamlgipoannaaGaps10
namespace Go.Proofs.Ytonamlgipoannaa
open Go.RowKit

theorem rising_iff (l : List WR) : RisingW l ↔ l.Pairwise fun r s => r.n < s.n := by
  rw [List.pairwise_iff_getElem]
  constructor
  · intro h i j hi hj hij
    exact h i j _ _ hij (List.getElem?_eq_getElem hi) (List.getElem?_eq_getElem hj)
  · intro h i j r s hij hr hs
    obtain ⟨hi, rfl⟩ := List.getElem?_eq_some_iff.1 hr
    obtain ⟨hj, rfl⟩ := List.getElem?_eq_some_iff.1 hs
    exact h i j hi hj hij
structure Good (a b c d : Int) (y : Bool) (e : Int) (l : List WR) : Prop where
  a1 : 1 ≤ a
  a2 : a ≤ 1024
  b1 : 1 ≤ b
  b2 : b ≤ 100
  c0 : 0 ≤ c
  c1 : c ≤ 1048576
  d0 : 0 ≤ d
  d1 : d ≤ 1048576
  e0 : -1099511627776 ≤ e
  e1 : e ≤ 1099511627776
  len : (l.length : Int) ≤ a
  rise : RisingW l
  empty : y = false → l = []
  lo : ∀ r ∈ l, -1099511627776 < r.n
  hi : ∀ r ∈ l, r.n < e
  ok : ∀ r ∈ l, WOk r
  tr : ∀ r ∈ l, r.t ≤ b
theorem Good.small {a b c d e : Int} {y : Bool} {l : List WR} (h : Good a b c d y e l) : l.length ≤ 1024 := by have := h.len; have := h.a2; omega
theorem Good.start {a b c d A B C D : Int} (hA : clipI a 1 1024 = A) (hB : clipI b 1 100 = B) (hC : clipI c 0 1048576 = C) (hD : clipI d 1 1048576 = D) : Good A B C D false 0 [] := by
  have h1 := clip_bd a 1 1024 (by decide)
  have h2 := clip_bd b 1 100 (by decide)
  have h3 := clip_bd c 0 1048576 (by decide)
  have h4 := clip_bd d 1 1048576 (by decide)
  rw [hA] at h1
  rw [hB] at h2
  rw [hC] at h3
  rw [hD] at h4
  refine ⟨h1.1, h1.2, h2.1, h2.2, h3.1, h3.2, by omega, h4.2, by decide, by decide, by simp; omega, (rising_iff _).2 List.Pairwise.nil, fun _ => rfl, ?_, ?_, ?_, ?_⟩ <;> intro r hr <;> cases hr
def cameUp (a e : Int) (n0 : Nat) (N : Int) : Int := max 0 ((n0 : Int) + (N - e - 1) - a)
def cameSk (a e : Int) (n0 : Nat) (N : Int) : Int := max 0 (cameUp a e n0 N - (n0 : Int))
def cameLo (a e : Int) (n0 : Nat) (N : Int) : Int := e + 1 + cameSk a e n0 N
def cameK (a e : Int) (n0 : Nat) (N : Int) : Nat := (cameUp a e n0 N - cameSk a e n0 N).toNat
def cameCnt (a e : Int) (n0 : Nat) (N : Int) : Nat := (N - cameLo a e n0 N).toNat
def camL (a c d : Int) (y : Bool) (e : Int) (l : List WR) (N T : Int) : List WR :=
  if y then if N ≤ e then rmW l N else (l ++ numsW (cameLo a e l.length N) c d T (cameCnt a e l.length N)).drop (cameK a e l.length N) else l
def camR (a : Int) (y : Bool) (e : Int) (n0 : Nat) (N : Int) : Int := if y then if N ≤ e then 0 else cameUp a e n0 N else 0
def camE (y : Bool) (e N : Int) : Int := if y then if N ≤ e then e else N else N
def camU (a : Int) (y : Bool) (e u : Int) (n0 : Nat) (N : Int) : Int := if y then if N ≤ e then u else IntKind.i64.wrap (IntKind.i64.wrap (u + (cameK a e n0 N : Int)) + cameSk a e n0 N) else u
theorem numsW_mem {lo c d T : Int} {m : Nat} {r : WR} (h : r ∈ numsW lo c d T m) : ∃ i : Nat, i < m ∧ r = ⟨lo + (i : Int), T + c, 0, d⟩ := by
  unfold numsW at h
  rw [List.mem_map] at h
  obtain ⟨i, hi, rfl⟩ := h
  exact ⟨i, List.mem_range.1 hi, rfl⟩
theorem numsW_rise (lo c d T : Int) (m : Nat) : (numsW lo c d T m).Pairwise fun r s => r.n < s.n := by
  unfold numsW
  rw [List.pairwise_map]
  refine List.Pairwise.imp ?_ (List.pairwise_lt_range)
  intro i j h
  show lo + (i : Int) < lo + (j : Int)
  omega
/-- What is wanting behind a packet was wanting, or is between. -/
theorem camL_mem {a c d : Int} {y : Bool} {e : Int} {l : List WR} {N T : Int} {r : WR} (h : r ∈ camL a c d y e l N T) : r ∈ l ∨ (y = true ∧ e < r.n ∧ r.n < N ∧ r.at_ = T + c ∧ r.t = 0 ∧ r.w = d) := by
  unfold camL at h
  split at h
  · rename_i hy
    split at h
    · exact .inl (List.mem_filter.1 h).1
    · rename_i hle
      have h2 := List.drop_subset _ _ h
      rw [List.mem_append] at h2
      rcases h2 with h2 | h2
      · exact .inl h2
      · obtain ⟨i, hi, rfl⟩ := numsW_mem h2
        refine .inr ⟨hy, ?_, ?_, rfl, rfl, rfl⟩
        · show e < cameLo a e l.length N + (i : Int)
          unfold cameLo cameSk; omega
        · show cameLo a e l.length N + (i : Int) < N
          unfold cameCnt at hi; omega
  · exact .inl h
theorem cam_nums {a e : Int} {n0 : Nat} {N : Int} (hlen : (n0 : Int) ≤ a) (hgt : e < N) (ha : 0 ≤ a) : ((cameCnt a e n0 N : Nat) : Int) = N - cameLo a e n0 N ∧ ((cameK a e n0 N : Nat) : Int) = cameUp a e n0 N - cameSk a e n0 N ∧ (n0 : Int) + (cameCnt a e n0 N : Int) - (cameK a e n0 N : Int) ≤ a ∧ cameK a e n0 N ≤ n0 := by
  unfold cameCnt cameK cameLo cameSk cameUp
  omega
theorem Good.came {a b c d : Int} {y : Bool} {e : Int} {l : List WR} (h : Good a b c d y e l) {n N T : Int} (hN : clipI n (-1099511627776) 1099511627776 = N) : Good a b c d true (camE y e N) (camL a c d y e l N T) := by
  have nb := clip_bd n (-1099511627776) 1099511627776 (by decide)
  rw [hN] at nb
  have he : (y = true → e ≤ camE y e N) ∧ -1099511627776 ≤ camE y e N ∧ camE y e N ≤ 1099511627776 ∧ (y = true → N ≤ camE y e N) := by
    have h1 := h.e0
    have h2 := h.e1
    unfold camE
    cases y
    · simp; omega
    · simp only [if_true]; split <;> simp <;> omega
  have hl : ((camL a c d y e l N T).length : Int) ≤ a := by
    have h1 := h.len
    have h2 := h.a1
    unfold camL
    split
    · split
      · have := List.length_filter_le (fun r : WR => r.n != N) l
        unfold rmW; omega
      · rename_i hle
        have := cam_nums (a := a) (e := e) (n0 := l.length) (N := N) h1 (by omega) (by omega)
        rw [List.length_drop, List.length_append, numsW_len]
        omega
    · exact h1
  have hr : RisingW (camL a c d y e l N T) := by
    rw [rising_iff]
    have h1 := (rising_iff _).1 h.rise
    unfold camL
    split
    · split
      · exact h1.filter _
      · rename_i hle
        refine List.Pairwise.drop ?_
        rw [List.pairwise_append]
        refine ⟨h1, numsW_rise _ _ _ _ _, fun r hr s hs => ?_⟩
        obtain ⟨i, hi, rfl⟩ := numsW_mem hs
        have := h.hi r hr
        show r.n < cameLo a e l.length N + (i : Int)
        unfold cameLo cameSk; omega
    · exact h1
  refine ⟨h.a1, h.a2, h.b1, h.b2, h.c0, h.c1, h.d0, h.d1, he.2.1, he.2.2.1, hl, hr, (fun e => by cases e), ?_, ?_, ?_, ?_⟩
  · intro r hr
    rcases camL_mem hr with h1 | ⟨_, h1, _⟩
    · exact h.lo r h1
    · have := h.e0; omega
  · intro r hr
    rcases camL_mem hr with h1 | ⟨hy, _, h1, _⟩
    · have := h.hi r h1
      cases y
      · rw [h.empty rfl] at h1; cases h1
      · have := he.1 rfl; omega
    · have := he.2.2.2 hy; omega
  · intro r hr
    rcases camL_mem hr with h1 | ⟨_, _, _, _, h1, h2⟩
    · exact h.ok r h1
    · have := h.d0; have := h.d1
      exact ⟨by omega, by omega, by omega⟩
  · intro r hr
    rcases camL_mem hr with h1 | ⟨_, _, _, _, h1, h2⟩
    · exact h.tr r h1
    · have := h.b1; omega
/-- What is wanting behind a tick was. -/
theorem dueL_mem {b N : Int} {l : List WR} {r : WR} (h : r ∈ dueL b N l) : ∃ s ∈ l, r.n = s.n ∧ (r = s ∨ (r = s.ask N ∧ s.t < b)) := by
  unfold dueL at h
  obtain ⟨s, hs, h⟩ := List.mem_flatMap.1 h
  refine ⟨s, hs, ?_⟩
  unfold leftW at h
  split at h
  · rw [List.mem_singleton] at h; subst h; exact ⟨rfl, .inl rfl⟩
  · split at h
    · cases h
    · rw [List.mem_singleton] at h; subst h; exact ⟨rfl, .inr ⟨rfl, by omega⟩⟩
theorem dueL_sub (b N : Int) (l : List WR) : ((dueL b N l).map WR.n).Sublist (l.map WR.n) := by
  induction l with
  | nil => exact List.Sublist.slnil
  | cons r l ih =>
    have e : dueL b N (r :: l) = leftW b N r ++ dueL b N l := by unfold dueL; rw [List.flatMap_cons]
    rw [e, List.map_append, List.map_cons]
    unfold leftW
    split
    · exact ih.cons_cons _
    · split
      · exact ih.cons _
      · exact ih.cons_cons _
theorem rising_map (l : List WR) : RisingW l ↔ (l.map WR.n).Pairwise (· < ·) := by rw [rising_iff, List.pairwise_map]
theorem Good.due {a b c d : Int} {y : Bool} {e : Int} {l : List WR} (h : Good a b c d y e l) (N : Int) : Good a b c d y e (dueL b N l) := by
  have hs := dueL_sub b N l
  have hlen := hs.length_le
  rw [List.length_map, List.length_map] at hlen
  refine ⟨h.a1, h.a2, h.b1, h.b2, h.c0, h.c1, h.d0, h.d1, h.e0, h.e1, by have := h.len; omega, (rising_map _).2 (List.Pairwise.sublist hs ((rising_map _).1 h.rise)), fun hy => by rw [h.empty hy]; rfl, ?_, ?_, ?_, ?_⟩ <;> intro r hr <;> obtain ⟨s, hs, hn, hk⟩ := dueL_mem hr
  · rw [hn]; exact h.lo s hs
  · rw [hn]; exact h.hi s hs
  · have k := h.ok s hs
    rcases hk with rfl | ⟨rfl, _⟩
    · exact k
    · obtain ⟨k0, k1, k2⟩ := k
      refine ⟨?_, ?_, ?_⟩
      · show 0 ≤ s.t + 1; omega
      · show 0 ≤ min (2 * s.w) 1048576; omega
      · show min (2 * s.w) 1048576 ≤ 1048576; omega
  · have k := h.tr s hs
    rcases hk with rfl | ⟨rfl, h2⟩
    · exact k
    · show s.t + 1 ≤ b; omega
theorem Good.drop {a b c d : Int} {y : Bool} {e : Int} {l : List WR} (h : Good a b c d y e l) (k : Nat) : Good a b c d y e (l.drop k) :=
  ⟨h.a1, h.a2, h.b1, h.b2, h.c0, h.c1, h.d0, h.d1, h.e0, h.e1, by have := h.len; rw [List.length_drop]; omega, (rising_iff _).2 ((rising_iff _).1 h.rise).drop, fun hy => by rw [h.empty hy]; simp, fun r hr => h.lo r (List.drop_subset _ _ hr), fun r hr => h.hi r (List.drop_subset _ _ hr), fun r hr => h.ok r (List.drop_subset _ _ hr), fun r hr => h.tr r (List.drop_subset _ _ hr)⟩
end Go.Proofs.Ytonamlgipoannaa
