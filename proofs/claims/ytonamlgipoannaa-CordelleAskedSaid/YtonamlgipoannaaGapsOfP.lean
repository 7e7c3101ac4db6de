/- How often one is asked for. Plain law. -/
import Derived.Test.YtonamlgipoannaaGapsP
namespace Go.Proofs.Ytonamlgipoannaa
open Go.RowKit

theorem rise_inj {l : List WR} (h : RisingW l) {r s : WR} (hr : r ∈ l) (hs : s ∈ l) (e : r.n = s.n) : r = s := by
  obtain ⟨i, hi, rfl⟩ := List.mem_iff_getElem.1 hr
  obtain ⟨j, hj, rfl⟩ := List.mem_iff_getElem.1 hs
  rcases Nat.lt_trichotomy i j with h1 | h1 | h1
  · have := h i j _ _ h1 (List.getElem?_eq_getElem hi) (List.getElem?_eq_getElem hj); omega
  · subst h1; rfl
  · have := h j i _ _ h1 (List.getElem?_eq_getElem hj) (List.getElem?_eq_getElem hi); omega
/-- Which are asked for. -/
def dueN (b N : Int) (l : List WR) : List Int := (l.filter fun r => decide (¬ N < r.at_ ∧ r.t < b)).map WR.n
theorem dueO_eq (b N : Int) (l : List WR) : dueO b N l = (dueN b N l).map fun x => Value.int .i64 x := by
  unfold dueO dueN
  induction l with
  | nil => rfl
  | cons r l ih =>
    rw [List.flatMap_cons, ih, List.filter_cons]
    unfold outW
    by_cases h1 : N < r.at_
    · simp [h1]
    · by_cases h2 : b ≤ r.t
      · have : ¬ r.t < b := by omega
        simp [h1, h2, this]
      · have : r.t < b := by omega
        simp [h1, h2, this]
theorem dueN_mem {b N : Int} {l : List WR} {x : Int} (h : x ∈ dueN b N l) : ∃ r ∈ l, r.n = x ∧ ¬ N < r.at_ ∧ r.t < b := by
  unfold dueN at h
  obtain ⟨r, hr, rfl⟩ := List.mem_map.1 h
  rw [List.mem_filter] at hr
  have := hr.2
  simp only [decide_eq_true_eq] at this
  exact ⟨r, hr.1, rfl, this⟩
theorem dueN_in {b N : Int} {l : List WR} {r : WR} (h : r ∈ l) (h1 : ¬ N < r.at_) (h2 : r.t < b) : r.n ∈ dueN b N l := by
  unfold dueN
  refine List.mem_map.2 ⟨r, List.mem_filter.2 ⟨h, ?_⟩, rfl⟩
  simp only [decide_eq_true_eq]
  exact ⟨h1, h2⟩
theorem dueN_nodup {b N : Int} {l : List WR} (h : RisingW l) : (dueN b N l).Nodup := by
  unfold dueN
  have h1 : ((l.filter fun r => decide (¬ N < r.at_ ∧ r.t < b)).map WR.n).Pairwise (· < ·) := by
    rw [List.pairwise_map]
    exact ((rising_iff _).1 h).filter _
  exact h1.imp (fun h => by omega)
theorem dueL_mem2 {b N : Int} {l : List WR} {r : WR} (h : r ∈ dueL b N l) : ∃ s ∈ l, (N < s.at_ ∧ r = s) ∨ (¬ N < s.at_ ∧ s.t < b ∧ r = s.ask N) := by
  unfold dueL at h
  obtain ⟨s, hs, h⟩ := List.mem_flatMap.1 h
  refine ⟨s, hs, ?_⟩
  unfold leftW at h
  split at h
  · rename_i h1
    rw [List.mem_singleton] at h; exact .inl ⟨h1, h⟩
  · rename_i h1
    split at h
    · cases h
    · rename_i h2
      rw [List.mem_singleton] at h; exact .inr ⟨h1, by omega, h⟩
structure Oft (B : Int) (y : Bool) (e top : Int) (l : List WR) (f : Int → Int) (h : Int → Bool) : Prop where
  asked : ∀ r ∈ l, f r.n = r.t
  most : ∀ n, f n ≤ B
  f0 : ∀ n, 0 ≤ f n
  zero : ∀ n, (y = true → e ≤ n) → f n = 0
  came : ∀ r ∈ l, h r.n = false
  above : ∀ n, h n = true → y = true ∧ n ≤ e
  top : y = true → e ≤ top
theorem Oft.start {B : Int} (hB : 0 ≤ B) : Oft B false 0 0 [] (fun _ => 0) (fun _ => false) :=
  ⟨(fun r h => by cases h), fun _ => hB, fun _ => Int.le_refl _, fun _ _ => rfl, fun r h => (by cases h), fun n h => (by cases h), fun h => (by cases h)⟩
theorem camE_le {y : Bool} {e N : Int} : (y = true → e ≤ camE y e N) ∧ N ≤ camE y e N := by
  unfold camE
  cases y
  · simp
  · simp only [if_true]; split <;> omega
theorem Oft.cam {A B C D : Int} {y : Bool} {e top : Int} {l : List WR} {f : Int → Int} {h : Int → Bool} (O : Oft B y e top l f h) (G : Good A B C D y e l) (N T top' : Int) (ht : max top N = top') :
    Oft B true (camE y e N) top' (camL A C D y e l N T) f (fun j => if j = N then true else h j) := by
  have hE := camE_le (y := y) (e := e) (N := N)
  have hne : ∀ r ∈ camL A C D y e l N T, r.n ≠ N := by
    intro r hr
    cases y with
    | false => unfold camL at hr; simp at hr; rw [G.empty rfl] at hr; cases hr
    | true =>
      unfold camL at hr
      simp only [if_true] at hr
      split at hr
      · have := (List.mem_filter.1 hr).2
        simpa using this
      · rename_i hle
        have h2 := List.drop_subset _ _ hr
        rw [List.mem_append] at h2
        rcases h2 with h2 | h2
        · have := G.hi r h2; omega
        · obtain ⟨i, hi, rfl⟩ := numsW_mem h2
          show cameLo A e l.length N + (i : Int) ≠ N
          unfold cameCnt at hi; omega
  refine ⟨?_, O.most, O.f0, ?_, ?_, ?_, ?_⟩
  · intro r hr
    rcases camL_mem hr with h1 | ⟨hy, h1, _, _, h2, _⟩
    · exact O.asked r h1
    · rw [O.zero r.n (fun _ => by omega), h2]
  · intro n hn
    have h1 := hn rfl
    exact O.zero n (fun hy => by have := hE.1 hy; omega)
  · intro r hr
    have h1 := hne r hr
    simp only [if_neg h1]
    rcases camL_mem hr with h2 | ⟨hy, h2, _⟩
    · exact O.came r h2
    · cases e2 : h r.n
      · rfl
      · have := (O.above _ e2).2; omega
  · intro n hn
    refine ⟨rfl, ?_⟩
    by_cases e1 : n = N
    · rw [e1]; exact hE.2
    · simp only [if_neg e1] at hn
      obtain ⟨hy, h2⟩ := O.above n hn
      have := hE.1 hy; omega
  · intro _
    unfold camE
    cases y
    · simp; omega
    · have := O.top rfl
      simp only [if_true]; split <;> omega
def fAt (f : Int → Int) (L : List Int) (n : Int) : Int := f n + if n ∈ L then 1 else 0
theorem fAt_nil (f : Int → Int) : fAt f [] = f := by funext n; simp [fAt]
theorem fAt_snoc {f : Int → Int} {L : List Int} (hn : L.Nodup) {j : Nat} {x : Int} (hx : L[j]? = some x) : fAt f (L.take j) x = f x ∧ (fAt f (L.take (j + 1)) = fun n => if n = x then f x + 1 else fAt f (L.take j) n) := by
  have hnx : x ∉ L.take j := by
    intro h
    obtain ⟨i, hi, he⟩ := List.mem_iff_getElem.1 h
    rw [List.length_take] at hi
    rw [List.getElem_take] at he
    obtain ⟨hj, hx2⟩ := List.getElem?_eq_some_iff.1 hx
    have := (List.getElem_inj (h₀ := by omega) (h₁ := hj) hn).1 (he.trans hx2.symm)
    omega
  refine ⟨by simp [fAt, hnx], ?_⟩
  funext n
  unfold fAt
  rw [List.take_add_one, hx]
  by_cases e : n = x
  · subst e; simp
  · simp [e]
theorem Oft.due {A B C D : Int} {y : Bool} {e top : Int} {l : List WR} {f : Int → Int} {h : Int → Bool} (O : Oft B y e top l f h) (G : Good A B C D y e l) (N : Int) : Oft B y e top (dueL B N l) (fAt f (dueN B N l)) h := by
  refine ⟨?_, ?_, ?_, ?_, ?_, O.above, O.top⟩
  · intro r hr
    obtain ⟨s, hs, hk⟩ := dueL_mem2 hr
    rcases hk with ⟨h1, rfl⟩ | ⟨h1, h2, rfl⟩
    · have : r.n ∉ dueN B N l := fun hm => by
        obtain ⟨q, hq, hqn, h3, _⟩ := dueN_mem hm
        have := rise_inj G.rise hq hs hqn
        subst this
        exact h3 h1
      unfold fAt
      rw [if_neg this, O.asked r hs]; omega
    · unfold fAt
      have hin : s.n ∈ dueN B N l := dueN_in hs h1 h2
      rw [if_pos (show (s.ask N).n ∈ dueN B N l from hin)]
      show f s.n + 1 = s.t + 1
      rw [O.asked s hs]
  · intro n
    unfold fAt
    split
    · rename_i hm
      obtain ⟨q, hq, rfl, _, h3⟩ := dueN_mem hm
      rw [O.asked q hq]; omega
    · have := O.most n; omega
  · intro n
    unfold fAt
    have := O.f0 n
    split <;> omega
  · intro n hn
    unfold fAt
    rw [O.zero n hn, if_neg]; omega
    intro hm
    obtain ⟨q, hq, rfl, _, h3⟩ := dueN_mem hm
    have := G.hi q hq
    cases hy : y
    · rw [G.empty hy] at hq; cases hq
    · have := hn hy; omega
  · intro r hr
    obtain ⟨s, hs, hn, _⟩ := dueL_mem hr
    rw [hn]; exact O.came s hs
/-- One that is asked for may be, and didn't come. -/
theorem Oft.one {B : Int} {y : Bool} {e top : Int} {l : List WR} {f : Int → Int} {h : Int → Bool} (O : Oft B y e top l f h) {N x : Int} (hx : x ∈ dueN B N l) : f x + 1 ≤ B ∧ h x = false := by
  obtain ⟨q, hq, rfl, _, h3⟩ := dueN_mem hx
  rw [O.asked q hq]
  exact ⟨by omega, O.came q hq⟩
end Go.Proofs.Ytonamlgipoannaa
