/- What is asked for of packets that are lost: what holds, step by step. Plain law. -/
import Derived.Test.YtonamlgipoannaaGapsOfP
import Derived.Test.YtonamlgipoannaaHist7
namespace Go.Proofs.Ytonamlgipoannaa
open Go.RowKit

def datI (i : Nat) : ByteArray := strOfNums [(i : Int)]
/-- Behind the first k packets. -/
structure AS1 (lo : Nat → Bool) (k : Nat) (y : Bool) (e : Int) (l : List WR) (hl : List HR) (hd : Int → Bool) : Prop where
  good : Good 200 5 0 2 y e l
  hlen : hl.length = k
  hget : ∀ i, i < k → hl[i]? = some ⟨(i : Int), 0, 1, datI i⟩
  some_ : y = true → ∃ ei : Nat, e = ei ∧ ei < k ∧ lo ei = false ∧ ∀ i, ei < i → i < k → lo i = true
  none_ : y = false → ∀ i, i < k → lo i = true
  want : ∀ r ∈ l, ∃ i : Nat, r = ⟨(i : Int), 0, 0, 2⟩ ∧ lo i = true ∧ (i : Int) < e
  few : y = true → (l.length : Int) ≤ e
  had : ∀ i : Nat, hd (i : Int) = (decide (i < k) && !lo i)
  cov : y = true → ∀ i : Nat, (i : Int) ≤ e → (∃ i', i' ≤ i ∧ lo i' = false) → lo i = true → ∃ r ∈ l, r.n = (i : Int)
theorem AS1.start (lo : Nat → Bool) : AS1 lo 0 false 0 [] [] (fun _ => false) :=
  ⟨Good.start (a := 200) (b := 5) (c := 0) (d := 2) (by decide) (by decide) (by decide) (by decide), rfl, fun i h => absurd h (by omega), (fun h => by cases h), fun _ i h => absurd h (by omega), (fun r h => by cases h), (fun h => by cases h), fun i => by simp, (fun h => by cases h)⟩
theorem push_get {hl : List HR} {k : Nat} (hlen : hl.length = k) (r : HR) : ∀ i, i < k + 1 → (hl ++ [r])[i]? = if i = k then some r else hl[i]? := fun i hi => by
  by_cases e : i = k
  · subst e; rw [if_pos rfl, ← hlen]; simp
  · rw [if_neg e, List.getElem?_append_left (by omega)]
/-- One that is lost. -/
theorem AS1.lost {lo : Nat → Bool} {k : Nat} {y : Bool} {e : Int} {l : List WR} {hl : List HR} {hd : Int → Bool} (h : AS1 lo k y e l hl hd) (hk : lo k = true) : AS1 lo (k + 1) y e l (hl ++ [⟨(k : Int), 0, 1, datI k⟩]) hd := by
  refine ⟨h.good, by simp [h.hlen], fun i hi => ?_, fun hy => ?_, fun hy i hi => ?_, h.want, h.few, fun i => ?_, h.cov⟩
  · rw [push_get h.hlen _ i hi]
    by_cases e1 : i = k
    · rw [if_pos e1, e1]
    · rw [if_neg e1]; exact h.hget i (by omega)
  · obtain ⟨ei, e1, e2, e3, e4⟩ := h.some_ hy
    exact ⟨ei, e1, by omega, e3, fun i h1 h2 => by
      by_cases e5 : i = k
      · rw [e5]; exact hk
      · exact e4 i h1 (by omega)⟩
  · by_cases e5 : i = k
    · rw [e5]; exact hk
    · exact h.none_ hy i (by omega)
  · rw [h.had i]
    by_cases e5 : i = k
    · subst e5; simp [hk]
    · have : decide (i < k + 1) = decide (i < k) := by rw [decide_eq_decide]; omega
      rw [this]
/-- One that comes. -/
theorem AS1.came {lo : Nat → Bool} {k : Nat} {y : Bool} {e : Int} {l : List WR} {hl : List HR} {hd : Int → Bool} (h : AS1 lo k y e l hl hd) (hk : lo k = false) (hk60 : k < 60) :
    AS1 lo (k + 1) true (camE y e (k : Int)) (camL 200 0 2 y e l (k : Int) 0) (hl ++ [⟨(k : Int), 0, 1, datI k⟩]) (fun j => if j = (k : Int) then true else hd j) := by
  have G2 : Good 200 5 0 2 true (camE y e (k : Int)) (camL 200 0 2 y e l (k : Int) 0) := h.good.came (n := (k : Int)) (by unfold clipI; omega)
  have hget' : ∀ i, i < k + 1 → (hl ++ [⟨(k : Int), 0, 1, datI k⟩])[i]? = some ⟨(i : Int), 0, 1, datI i⟩ := fun i hi => by
    rw [push_get h.hlen _ i hi]
    by_cases e1 : i = k
    · rw [if_pos e1, e1]
    · rw [if_neg e1]; exact h.hget i (by omega)
  have had' : ∀ i : Nat, (if (i : Int) = (k : Int) then true else hd (i : Int)) = (decide (i < k + 1) && !lo i) := fun i => by
    by_cases e5 : i = k
    · subst e5; simp [hk]
    · rw [if_neg (by omega), h.had i]
      have : decide (i < k + 1) = decide (i < k) := by rw [decide_eq_decide]; omega
      rw [this]
  cases y with
  | false =>
    have hE : camE false e (k : Int) = (k : Int) := rfl
    have hl0 := h.good.empty rfl
    have hL : camL 200 0 2 false e l (k : Int) 0 = [] := by rw [hl0]; rfl
    rw [hE, hL] at G2 ⊢
    refine ⟨G2, by simp [h.hlen], hget', fun _ => ⟨k, rfl, by omega, hk, fun i h1 h2 => by omega⟩, (fun hy => by cases hy), (fun r hr => by cases hr), fun _ => by simp, had', fun _ i hi ⟨i', h1, h2⟩ h3 => ?_⟩
    have h5 : ¬ i' < k := fun h6 => by rw [h.none_ rfl i' h6] at h2; cases h2
    obtain rfl : i = k := by omega
    rw [hk] at h3; cases h3
  | true =>
    obtain ⟨ei, rfl, e2, e3, e4⟩ := h.some_ rfl
    have hf := h.few rfl
    have hE : camE true (ei : Int) (k : Int) = (k : Int) := by unfold camE; simp; omega
    have hup : cameUp 200 (ei : Int) l.length (k : Int) = 0 := by unfold cameUp; omega
    have hsk : cameSk 200 (ei : Int) l.length (k : Int) = 0 := by unfold cameSk; rw [hup]; omega
    have hlo : cameLo 200 (ei : Int) l.length (k : Int) = (ei : Int) + 1 := by unfold cameLo; rw [hsk]; omega
    have hK : cameK 200 (ei : Int) l.length (k : Int) = 0 := by unfold cameK; rw [hup, hsk]; rfl
    have hcnt : cameCnt 200 (ei : Int) l.length (k : Int) = k - ei - 1 := by unfold cameCnt; rw [hlo]; omega
    have hL : camL 200 0 2 true (ei : Int) l (k : Int) 0 = l ++ numsW ((ei : Int) + 1) 0 2 0 (k - ei - 1) := by
      unfold camL
      rw [if_pos rfl, if_neg (by omega), hlo, hK, hcnt, List.drop_zero]
    rw [hE, hL] at G2 ⊢
    refine ⟨G2, by simp [h.hlen], hget', fun _ => ⟨k, rfl, by omega, hk, fun i h1 h2 => by omega⟩, (fun hy => by cases hy), fun r hr => ?_, fun _ => ?_, had', fun _ i hi hc h3 => ?_⟩
    · rw [List.mem_append] at hr
      rcases hr with hr | hr
      · obtain ⟨i, h1, h2, h3⟩ := h.want r hr
        exact ⟨i, h1, h2, by omega⟩
      · obtain ⟨i, hi, rfl⟩ := numsW_mem hr
        refine ⟨ei + 1 + i, by simp, e4 _ (by omega) (by omega), by omega⟩
    · rw [List.length_append, numsW_len]; omega
    · rcases Nat.lt_or_ge ei i with h5 | h5
      · have h6 : i < k := by
          rcases Nat.lt_or_ge i k with h7 | h7
          · exact h7
          · obtain rfl : i = k := by omega
            rw [hk] at h3; cases h3
        refine ⟨⟨(i : Int), 0, 0, 2⟩, ?_, rfl⟩
        rw [List.mem_append]
        right
        unfold numsW
        rw [List.mem_map]
        refine ⟨i - ei - 1, List.mem_range.2 (by omega), ?_⟩
        simp; omega
      · obtain ⟨r, hr, hn⟩ := h.cov rfl i (by omega) hc h3
        exact ⟨r, List.mem_append.2 (.inl hr), hn⟩
/-- Behind r ticks. -/
structure AS2 (lo : Nat → Bool) (n : Nat) (T : Int) (r : Nat) (y : Bool) (e : Int) (l : List WR) (hl : List HR) (hd : Int → Bool) : Prop where
  good : Good 200 5 0 2 y e l
  hlen : hl.length = n
  hget : ∀ i, i < n → ∃ q, hl[i]? = some q ∧ q.seq = (i : Int) ∧ q.data = datI i ∧ 0 ≤ q.tries
  some_ : y = true → ∃ ei : Nat, e = ei ∧ ei < n ∧ lo ei = false ∧ ∀ i, ei < i → i < n → lo i = true
  none_ : y = false → ∀ i, i < n → lo i = true
  want : ∀ q ∈ l, ∃ i : Nat, q.n = (i : Int) ∧ i < n ∧ hd (i : Int) = false ∧ ∃ hr, hl[i]? = some hr ∧ ((r = 0 ∧ q.at_ = 0 ∧ q.t = 0 ∧ q.w = 2 ∧ hr.tries = 0) ∨ (1 ≤ r ∧ r ≤ 2 ∧ T = 2 ∧ q.at_ = 3 ∧ q.t = 1 ∧ q.w = 4 ∧ hr.tries = 1))
  cov : y = true → ∀ i : Nat, (i : Int) ≤ e → (∃ i', i' ≤ i ∧ lo i' = false) → hd (i : Int) = true ∨ ∃ q ∈ l, q.n = (i : Int)
theorem AS1.two {lo : Nat → Bool} {n : Nat} {y : Bool} {e : Int} {l : List WR} {hl : List HR} {hd : Int → Bool} (h : AS1 lo n y e l hl hd) (T : Int) : AS2 lo n T 0 y e l hl hd := by
  refine ⟨h.good, h.hlen, fun i hi => ⟨_, h.hget i hi, rfl, rfl, Int.le_refl _⟩, h.some_, h.none_, fun q hq => ?_, fun hy i hi hc => ?_⟩
  · obtain ⟨i, rfl, h1, h2⟩ := h.want q hq
    have hyt : y = true := by
      cases y
      · have := h.good.empty rfl; rw [this] at hq; cases hq
      · rfl
    obtain ⟨ei, e1, e2, _, _⟩ := h.some_ hyt
    exact ⟨i, rfl, by omega, by rw [h.had i, h1]; simp, _, h.hget i (by omega), .inl ⟨rfl, rfl, rfl, rfl, rfl⟩⟩
  · obtain ⟨ei, e1, e2, _, _⟩ := h.some_ hy
    cases hlo : lo i
    · left; rw [h.had i, hlo]; simp; omega
    · right; exact h.cov hy i hi hc hlo
theorem AS2.done {lo : Nat → Bool} {n : Nat} {T : Int} {r : Nat} {y : Bool} {e : Int} {l : List WR} {hl : List HR} {hd : Int → Bool} (h : AS2 lo n T r y e l hl hd) (hr : 3 ≤ r) : l = [] := by
  cases l with
  | nil => rfl
  | cons q l =>
    obtain ⟨i, _, _, _, hr', _, h1 | h1⟩ := h.want q List.mem_cons_self
    · omega
    · omega
/-- While those that are asked for are sent, at tick r + 1: N from j on are still to do. -/
structure AS3 (lo : Nat → Bool) (n : Nat) (T : Int) (r : Nat) (N : List Int) (j : Nat) (y : Bool) (e : Int) (l : List WR) (hl : List HR) (hd : Int → Bool) : Prop where
  good : Good 200 5 0 2 y e l
  hlen : hl.length = n
  hget : ∀ i, i < n → ∃ q, hl[i]? = some q ∧ q.seq = (i : Int) ∧ q.data = datI i ∧ 0 ≤ q.tries
  some_ : y = true → ∃ ei : Nat, e = ei ∧ ei < n ∧ lo ei = false ∧ ∀ i, ei < i → i < n → lo i = true
  none_ : y = false → ∀ i, i < n → lo i = true
  tp : N ≠ [] → (r = 0 ∧ 1 ≤ T) ∨ (1 ≤ r ∧ T = 2)
  want : ∀ q ∈ l, ∃ i : Nat, q.n = (i : Int) ∧ i < n ∧ hd (i : Int) = false ∧ ∃ hr, hl[i]? = some hr ∧ (r + 1 ≤ 2 → q.at_ = 3 ∧ q.t = 1 ∧ q.w = 4) ∧ ((q.n ∈ N.drop j ∧ hr.tries = if r = 0 then 0 else 1) ∨ (q.n ∉ N.drop j ∧ hr.tries = 1 ∧ T = 2 ∧ r + 1 ≤ 2))
  todo : ∀ x ∈ N.drop j, ∃ q ∈ l, q.n = x
  cov : y = true → ∀ i : Nat, (i : Int) ≤ e → (∃ i', i' ≤ i ∧ lo i' = false) → hd (i : Int) = true ∨ ∃ q ∈ l, q.n = (i : Int)
theorem dueL_in {b N : Int} {l : List WR} {s : WR} (h : s ∈ l) : (N < s.at_ → s ∈ dueL b N l) ∧ (¬ N < s.at_ → s.t < b → s.ask N ∈ dueL b N l) := by
  refine ⟨fun h1 => ?_, fun h1 h2 => ?_⟩
  · unfold dueL; rw [List.mem_flatMap]; exact ⟨s, h, by unfold leftW; rw [if_pos h1]; simp⟩
  · unfold dueL; rw [List.mem_flatMap]; exact ⟨s, h, by unfold leftW; rw [if_neg h1, if_neg (by omega)]; simp⟩
theorem AS2.three {lo : Nat → Bool} {n : Nat} {T : Int} {r : Nat} {y : Bool} {e : Int} {l : List WR} {hl : List HR} {hd : Int → Bool} (h : AS2 lo n T r y e l hl hd) (hT : 1 ≤ T) {N : List Int} (hN : ∀ x, x ∈ N ↔ x ∈ dueN 5 ((r : Int) + 1) l) : AS3 lo n T r N 0 y e (dueL 5 ((r : Int) + 1) l) hl hd := by
  refine ⟨h.good.due _, h.hlen, h.hget, h.some_, h.none_, fun hne => ?_, fun q hq => ?_, fun x hx => ?_, fun hy i hi hc => ?_⟩
  · obtain ⟨x, hx⟩ := List.exists_mem_of_ne_nil N hne
    obtain ⟨s, hs, _, _, _⟩ := dueN_mem ((hN x).1 hx)
    obtain ⟨i, _, _, _, hr, _, h1 | h1⟩ := h.want s hs
    · exact .inl ⟨h1.1, hT⟩
    · exact .inr ⟨h1.1, h1.2.2.1⟩
  · rw [List.drop_zero]
    obtain ⟨s, hs, hk⟩ := dueL_mem2 hq
    obtain ⟨i, hi, hin, hh, hr, hg, hp⟩ := h.want s hs
    rcases hk with ⟨h1, rfl⟩ | ⟨h1, h2, rfl⟩
    · have hnot : q.n ∉ N := fun hm => by
        obtain ⟨q', hq', hqn, h3, _⟩ := dueN_mem ((hN _).1 hm)
        have := rise_inj h.good.rise hq' hs hqn
        subst this
        exact h3 h1
      rcases hp with h3 | h3
      · omega
      · exact ⟨i, hi, hin, hh, hr, hg, fun _ => ⟨h3.2.2.2.1, h3.2.2.2.2.1, h3.2.2.2.2.2.1⟩, .inr ⟨hnot, h3.2.2.2.2.2.2, h3.2.2.1, by omega⟩⟩
    · have hin' : s.n ∈ N := (hN _).2 (dueN_in hs h1 h2)
      rcases hp with h3 | h3
      · refine ⟨i, hi, hin, hh, hr, hg, fun _ => ?_, .inl ⟨hin', by rw [if_pos h3.1]; exact h3.2.2.2.2⟩⟩
        unfold WR.ask
        obtain ⟨r0, a0, t0, w0, _⟩ := h3
        subst r0
        simp [t0, w0]
        decide
      · refine ⟨i, hi, hin, hh, hr, hg, fun h4 => ?_, .inl ⟨hin', by rw [if_neg (by omega)]; exact h3.2.2.2.2.2.2⟩⟩
        omega
  · rw [List.drop_zero] at hx
    obtain ⟨s, hs, hsn, h1, h2⟩ := dueN_mem ((hN x).1 hx)
    exact ⟨_, (dueL_in hs).2 h1 h2, hsn⟩
  · rcases h.cov hy i hi hc with h1 | ⟨q, hq, hqn⟩
    · exact .inl h1
    · right
      by_cases h2 : ((r : Int) + 1) < q.at_
      · exact ⟨q, (dueL_in hq).1 h2, hqn⟩
      · obtain ⟨_, _, _, _, _, _, h3 | h3⟩ := h.want q hq
        · exact ⟨_, (dueL_in hq).2 h2 (by omega), hqn⟩
        · exact ⟨_, (dueL_in hq).2 h2 (by omega), hqn⟩
theorem AS3.two {lo : Nat → Bool} {n : Nat} {T : Int} {r : Nat} {N : List Int} {j : Nat} {y : Bool} {e : Int} {l : List WR} {hl : List HR} {hd : Int → Bool} (h : AS3 lo n T r N j y e l hl hd) (hj : N.length ≤ j) : AS2 lo n T (r + 1) y e l hl hd := by
  refine ⟨h.good, h.hlen, h.hget, h.some_, h.none_, fun q hq => ?_, h.cov⟩
  obtain ⟨i, hi, hin, hh, hr, hg, hp, hw⟩ := h.want q hq
  rw [List.drop_of_length_le hj] at hw
  rcases hw with hw | ⟨_, h1, h2, h3⟩
  · exact absurd hw.1 (by simp)
  · obtain ⟨p1, p2, p3⟩ := hp h3
    exact ⟨i, hi, hin, hh, hr, hg, .inr ⟨by omega, h3, h2, p1, p2, p3, h1⟩⟩
/-- The next one to be sent. -/
theorem AS3.next {lo : Nat → Bool} {n : Nat} {T : Int} {r : Nat} {N : List Int} {j : Nat} {y : Bool} {e : Int} {l : List WR} {hl : List HR} {hd : Int → Bool} (h : AS3 lo n T r N j y e l hl hd) {x : Int} (hx : N[j]? = some x) :
    ∃ (i : Nat) (hr : HR), x = (i : Int) ∧ i < n ∧ hd (i : Int) = false ∧ hl[i]? = some hr ∧ hr.seq = (i : Int) ∧ hr.data = datI i ∧ 0 ≤ hr.tries ∧ hr.tries < T ∧ (i : Int) < e ∧ y = true ∧ (hr.tries + 1 ≠ T → r = 0 ∧ hr.tries = 0 ∧ T ≠ 1) := by
  have hjl := (List.getElem?_eq_some_iff.1 hx).1
  have hne : N ≠ [] := fun e => by rw [e] at hjl; simp at hjl
  have hxd : x ∈ N.drop j := by
    rw [List.drop_eq_getElem_cons hjl, ← (List.getElem?_eq_some_iff.1 hx).2]
    exact List.mem_cons_self
  obtain ⟨q, hq, hqx⟩ := h.todo x hxd
  obtain ⟨i, hi, hin, hh, hr, hg, hp, hw⟩ := h.want q hq
  rw [hqx] at hw hi
  have ht : hr.tries = if r = 0 then 0 else 1 := by
    rcases hw with hw | hw
    · exact hw.2
    · exact absurd hxd hw.1
  obtain ⟨q2, hq2, s1, s2, s3⟩ := h.hget i hin
  rw [hg] at hq2
  injection hq2 with hq2
  subst hq2
  have hyt : y = true := by
    cases y
    · have := h.good.empty rfl; rw [this] at hq; cases hq
    · rfl
  have hie := h.good.hi q hq
  refine ⟨i, hr, hi, hin, hh, hg, s1, s2, s3, ?_, by omega, hyt, fun hne1 => ?_⟩
  · rcases h.tp hne with ⟨h1, h2⟩ | ⟨h1, h2⟩
    · rw [ht, if_pos h1]; omega
    · rw [ht, if_neg (by omega)]; omega
  · rcases h.tp hne with ⟨h1, h2⟩ | ⟨h1, h2⟩
    · rw [if_pos h1] at ht; exact ⟨h1, ht, by omega⟩
    · rw [ht, if_neg (by omega)] at hne1; omega
theorem drop_mem {N : List Int} {j : Nat} {x z : Int} (hx : N[j]? = some x) (hnd : N.Nodup) : (z ∈ N.drop j ↔ z = x ∨ z ∈ N.drop (j + 1)) ∧ x ∉ N.drop (j + 1) := by
  have hjl := (List.getElem?_eq_some_iff.1 hx).1
  have he := (List.getElem?_eq_some_iff.1 hx).2
  have hd : N.drop j = x :: N.drop (j + 1) := by rw [List.drop_eq_getElem_cons hjl, he]
  refine ⟨by rw [hd, List.mem_cons], ?_⟩
  have h2 : (N.drop j).Nodup := hnd.sublist (List.drop_sublist _ _)
  rw [hd] at h2
  exact (List.nodup_cons.1 h2).1
theorem set_get {hl : List HR} {i : Nat} {hr hr' : HR} (h : hl[i]? = some hr) (k : Nat) : (hl.set i hr')[k]? = if k = i then some hr' else hl[k]? := by
  have := (List.getElem?_eq_some_iff.1 h).1
  by_cases e : k = i
  · subst e; rw [if_pos rfl, List.getElem?_set_self this]
  · rw [if_neg e, List.getElem?_set_ne (by omega)]
theorem rmW_mem {l : List WR} {x : Int} {q : WR} : q ∈ rmW l x ↔ q ∈ l ∧ q.n ≠ x := by
  unfold rmW; rw [List.mem_filter]; simp
/-- It comes this time. -/
theorem AS3.came {lo : Nat → Bool} {n : Nat} {T : Int} {r : Nat} {N : List Int} {j : Nat} {y : Bool} {e : Int} {l : List WR} {hl : List HR} {hd : Int → Bool} (h : AS3 lo n T r N j y e l hl hd) {i : Nat} (hx : N[j]? = some (i : Int)) (hnd : N.Nodup) {hr : HR} (hg : hl[i]? = some hr) (pa : Int) (hi : (i : Int) < e) :
    AS3 lo n T r N (j + 1) y e (rmW l (i : Int)) (hl.set i (hr.again pa)) (fun k => if k = (i : Int) then true else hd k) := by
  refine ⟨?_, by simp [h.hlen], fun k hk => ?_, h.some_, h.none_, h.tp, fun q hq => ?_, fun z hz => ?_, fun hy k hk hc => ?_⟩
  · have G := h.good
    have F : ∀ q ∈ rmW l (i : Int), q ∈ l := fun q hq => (rmW_mem.1 hq).1
    exact ⟨G.a1, G.a2, G.b1, G.b2, G.c0, G.c1, G.d0, G.d1, G.e0, G.e1, by have h1 := G.len; have h2 : (rmW l (i : Int)).length ≤ l.length := List.length_filter_le _ _; omega, (rising_iff _).2 (((rising_iff _).1 G.rise).filter _), fun hy => by rw [G.empty hy]; rfl, fun r hr => G.lo r (F r hr), fun r hr => G.hi r (F r hr), fun r hr => G.ok r (F r hr), fun r hr => G.tr r (F r hr)⟩
  · rw [set_get hg]
    by_cases e1 : k = i
    · subst e1
      obtain ⟨q, hq, s1, s2, s3⟩ := h.hget k hk
      rw [hg] at hq
      injection hq with hq
      subst hq
      exact ⟨_, if_pos rfl, s1, s2, by show 0 ≤ hr.tries + 1; omega⟩
    · rw [if_neg e1]; exact h.hget k hk
  · obtain ⟨hq, hqn⟩ := rmW_mem.1 hq
    obtain ⟨k, hk, hkn, hh, hr2, hg2, hp, hw⟩ := h.want q hq
    have hki : k ≠ i := fun e1 => hqn (by rw [hk, e1])
    refine ⟨k, hk, hkn, by simp only [if_neg (show ¬ (k : Int) = (i : Int) by omega)]; exact hh, hr2, by rw [set_get hg, if_neg hki]; exact hg2, hp, ?_⟩
    rcases hw with ⟨h1, h2⟩ | ⟨h1, h2⟩
    · left
      rcases ((drop_mem hx hnd).1).1 h1 with h3 | h3
      · exact absurd h3 hqn
      · exact ⟨h3, h2⟩
    · right
      exact ⟨fun h3 => h1 (((drop_mem hx hnd).1).2 (.inr h3)), h2⟩
  · obtain ⟨q, hq, hqz⟩ := h.todo z (((drop_mem hx hnd).1).2 (.inr hz))
    refine ⟨q, rmW_mem.2 ⟨hq, fun e1 => ?_⟩, hqz⟩
    rw [hqz] at e1
    exact (drop_mem (z := z) hx hnd).2 (e1 ▸ hz)
  · by_cases e1 : (k : Int) = (i : Int)
    · left; simp [e1]
    · rcases h.cov hy k hk hc with h1 | ⟨q, hq, hqn⟩
      · left; rw [if_neg e1]; exact h1
      · right; exact ⟨q, rmW_mem.2 ⟨hq, by rw [hqn]; exact e1⟩, hqn⟩
/-- It doesn't come this time. -/
theorem AS3.waits {lo : Nat → Bool} {n : Nat} {T : Int} {r : Nat} {N : List Int} {j : Nat} {y : Bool} {e : Int} {l : List WR} {hl : List HR} {hd : Int → Bool} (h : AS3 lo n T r N j y e l hl hd) {i : Nat} (hx : N[j]? = some (i : Int)) (hnd : N.Nodup) {hr : HR} (hg : hl[i]? = some hr) (pa : Int) (h0 : r = 0 ∧ hr.tries = 0 ∧ T = 2) :
    AS3 lo n T r N (j + 1) y e l (hl.set i (hr.again pa)) hd := by
  obtain ⟨r0, t0, T2⟩ := h0
  refine ⟨h.good, by simp [h.hlen], fun k hk => ?_, h.some_, h.none_, h.tp, fun q hq => ?_, fun z hz => ?_, h.cov⟩
  · rw [set_get hg]
    by_cases e1 : k = i
    · subst e1
      obtain ⟨q, hq, s1, s2, s3⟩ := h.hget k hk
      rw [hg] at hq
      injection hq with hq
      subst hq
      exact ⟨_, if_pos rfl, s1, s2, by show 0 ≤ hr.tries + 1; omega⟩
    · rw [if_neg e1]; exact h.hget k hk
  · obtain ⟨k, hk, hkn, hh, hr2, hg2, hp, hw⟩ := h.want q hq
    by_cases hki : k = i
    · subst hki
      refine ⟨k, hk, hkn, hh, hr.again pa, by rw [set_get hg, if_pos rfl], hp, .inr ⟨?_, ?_, T2, by omega⟩⟩
      · rw [hk]; exact (drop_mem (z := 0) hx hnd).2
      · show hr.tries + 1 = 1; omega
    · refine ⟨k, hk, hkn, hh, hr2, by rw [set_get hg, if_neg hki]; exact hg2, hp, ?_⟩
      rcases hw with ⟨h1, h2⟩ | ⟨h1, h2⟩
      · left
        rcases ((drop_mem hx hnd).1).1 h1 with h3 | h3
        · rw [hk] at h3; omega
        · exact ⟨h3, h2⟩
      · right
        exact ⟨fun h3 => h1 (((drop_mem hx hnd).1).2 (.inr h3)), h2⟩
  · exact h.todo z (((drop_mem hx hnd).1).2 (.inr hz))
theorem AS3.rising {lo : Nat → Bool} {n : Nat} {T : Int} {r : Nat} {N : List Int} {j : Nat} {y : Bool} {e : Int} {l : List WR} {hl : List HR} {hd : Int → Bool} (h : AS3 lo n T r N j y e l hl hd) : Rising hl := fun i j a b hij ha hb => by
  have hi := (List.getElem?_eq_some_iff.1 ha).1
  have hj := (List.getElem?_eq_some_iff.1 hb).1
  rw [h.hlen] at hi hj
  obtain ⟨q, hq, s1, _⟩ := h.hget i hi
  obtain ⟨q2, hq2, s2, _⟩ := h.hget j hj
  rw [ha] at hq
  rw [hb] at hq2
  injection hq with hq
  injection hq2 with hq2
  subst hq hq2
  omega
end Go.Proofs.Ytonamlgipoannaa
