/- A region that draws its order: its head only reads, or calls what only adds blocks; its tail goes in a planned order, of which moves may be taken ahead. No condition. -/
import Derived.Test.YtagponhnkodjhaaRegion
namespace Go.Proofs.Ytagponhnkodjhaa
open Go.RowKit

section
variable {P : Program} {ops : Array Oper} {md : Region.Mode} {C : World → Prop}

/-- Each of the tail behind its first waits for one of the tail ahead of it. -/
def chainP (md : Region.Mode) (ops : Array Oper) (n : Nat) : Bool :=
  (List.range ops.size).all fun t => decide (t ≤ n) || (List.range t).any fun t' => decide (n ≤ t') && Region.waitsFor md ops t t'
theorem tail_waitsP {n : Nat} {listed : Array Bool} (hs : Region.sinkB md ops n = true) (hc : chainP md ops n = true) (hn : n < ops.size) (inv : HeadInv md ops n listed) :
    ∀ (d i : Nat), n - i = d → i < n → listed.getD i true = false → ∀ t, n ≤ t → t ∉ Region.ready md ops listed := by
  intro d
  induction d using Nat.strongRecOn with
  | _ d ih =>
    intro i hd hi hun t ht hr
    obtain ⟨_, ot, hot, hall⟩ := mem_ready.1 hr
    have htlt : t < ops.size := (Array.getElem?_eq_some_iff.1 hot).1
    by_cases htn : t = n
    · subst htn
      have h1 := List.all_eq_true.1 hs i (List.mem_range.2 hi)
      obtain ⟨j, hj, hj2⟩ := List.any_eq_true.1 h1
      simp only [Bool.and_eq_true, decide_eq_true_eq] at hj2
      obtain ⟨oj, hoj, e, he, hb, hon⟩ := Region.waitsFor_spec hj2.2
      have hjle : j ≤ t := by have := List.mem_range.1 hj; omega
      by_cases hjt : j = t
      · subst hjt
        have : oj = ot := Option.some.inj (hoj.symm.trans hot)
        subst this
        have h2 := hall e he hb
        rw [hon, getD_both hun] at h2
        cases h2
      · cases hl : listed.getD j false with
        | true =>
          have h2 := inv.closed j oj hoj hl e he hb
          rw [hon, getD_both hun] at h2
          cases h2
        | false =>
          have hjs : j < listed.size := by rw [inv.size]; omega
          exact ih (t - j) (by omega) j rfl (by omega) (getD_in hjs hl) t (Nat.le_refl _) hr
    · have h1 := List.all_eq_true.1 hc t (List.mem_range.2 htlt)
      simp only [Bool.or_eq_true, decide_eq_true_eq, List.any_eq_true, Bool.and_eq_true] at h1
      rcases h1 with h1 | ⟨t', ht', h3, h4⟩
      · omega
      · obtain ⟨o', ho', e, he, hb, hon⟩ := Region.waitsFor_spec h4
        have : o' = ot := Option.some.inj (ho'.symm.trans hot)
        subst this
        have h2 := hall e he hb
        have htl : t' < t := List.mem_range.1 ht'
        rw [hon, getD_both (inv.tail t' h3 (by omega))] at h2
        cases h2

theorem headQ_firstP {n i : Nat} {oi : Oper} {v : Value} {L : Array Bool → Act → Prop} (hi : ops[i]? = some oi) (hsel : ∀ (j : Nat) (o : Oper) cs b, ops[j]? = some o → o.op ≠ .select cs b)
    (hs : Region.sinkB md ops n = true) (hc : chainP md ops n = true) (hn : n < ops.size) (hin : i < n)
    (hdone : ∀ listed a, L listed a → ∀ j ∈ Region.ready md ops listed, n ≤ j) :
    ∀ (f : Nat) (listed : Array Bool) (a : Act), HeadInv md ops n listed →
      (∀ j oj, ops[j]? = some oj → j ≠ i → listed.getD j true = false → (∀ e ∈ oj.after, Region.binds md e = true → e.on ≠ i) → oi.apart ops oj = true) →
      i ∈ Region.ready md ops listed → YieldsIn P ops C oi v a →
      headQ P md ops C n L f (listed.setIfInBounds i true) (a.put oi.dst v) → headQ P md ops C n L (f + 1) listed a := by
  intro f
  induction f with
  | zero =>
    intro listed a inv _ hr hy H
    have hun := (mem_ready.1 hr).1
    refine ⟨fun h => (by rw [h] at hr; cases hr), fun j hj => ?_⟩
    have hjn : j < n := by
      rcases Nat.lt_or_ge j n with h | h
      · exact h
      · exact absurd hj (tail_waitsP hs hc hn inv _ i rfl hin hun j h)
    refine ⟨hjn, ?_⟩
    by_cases hji : j = i
    · subst hji; exact hy.qOp hi H
    · have := hdone _ _ H j (ready_mono hj hji)
      omega
  | succ f ih =>
    intro listed a inv hfree hr hy H
    have hun := (mem_ready.1 hr).1
    refine ⟨fun h => (by rw [h] at hr; cases hr), fun j hj => ?_⟩
    have hjn : j < n := by
      rcases Nat.lt_or_ge j n with h | h
      · exact h
      · exact absurd hj (tail_waitsP hs hc hn inv _ i rfl hin hun j h)
    refine ⟨hjn, ?_⟩
    by_cases hji : j = i
    · subst hji; exact hy.qOp hi H
    · have h1 := (H.2 j (ready_mono hj hji)).2
      obtain ⟨hjun, oj, hoj, hall⟩ := mem_ready.1 hj
      have hnot : ∀ e ∈ oj.after, Region.binds md e = true → e.on ≠ i := fun e he hb heq => by
        have h1 := hall e he hb
        rw [heq, getD_both hun] at h1
        cases h1
      have h2 := qOp_put hoj (hfree j oj hoj hji hjun hnot) (fun cs b => hsel i oi cs b hi) (fun cs b => hsel j oj cs b hoj) hy h1
      have hfree' : ∀ k ok, ops[k]? = some ok → k ≠ i → (listed.setIfInBounds j true).getD k true = false →
          (∀ e ∈ ok.after, Region.binds md e = true → e.on ≠ i) → oi.apart ops ok = true := fun k ok hk hki hu hno => by
        refine hfree k ok hk hki ?_ hno
        by_cases hjk : j = k
        · subst hjk; exact hjun
        · rw [getD_set_ne true hjk] at hu; exact hu
      refine qOp_mono (fun a' h3 => ih (listed.setIfInBounds j true) a' (inv.set hj hjn) hfree' (ready_mono hr (Ne.symm hji)) h3.1 ?_) h2
      rw [Array.setIfInBounds_comm _ _ hji]
      exact h3.2

def moveB (o : Oper) : Bool := match o.op with | .move _ | .assign _ => true | _ => false
/-- A plan of the tail: which comes next; 'true': a move, that may be taken ahead of others. -/
def planB (md : Region.Mode) (ops : Array Oper) (n : Nat) : List (Nat × Bool) → Array Bool → Bool
  | [], listed => (Region.ready md ops listed).isEmpty
  | (k, true) :: p, listed => (Region.ready md ops listed).contains (n + k) && Region.free md ops listed (n + k) && (((ops[n + k]?).map moveB).getD false) && planB md ops n p (listed.setIfInBounds (n + k) true)
  | (k, false) :: p, listed => decide (Region.ready md ops listed = [n + k]) && planB md ops n p (listed.setIfInBounds (n + k) true)
def lexHeadP (md : Region.Mode) (ops : Array Oper) (n : Nat) (p : List (Nat × Bool)) : Nat → Nat → Array Bool → Bool
  | 0, _, listed => ((Region.ready md ops listed).all fun j => decide (n ≤ j)) && planB md ops n p listed
  | f + 1, k, listed => (Region.ready md ops listed).contains k && Region.free md ops listed k && lexHeadP md ops n p f (k + 1) (listed.setIfInBounds k true)
def planTailB (md : Region.Mode) (ops : Array Oper) (n : Nat) (p : List (Nat × Bool)) : Bool :=
  Region.noSelect ops && decide (n < ops.size) && Region.sinkB md ops n && chainP md ops n && lexHeadP md ops n p n 0 (Array.replicate ops.size false)

theorem headQ_lexP {n : Nat} {p : List (Nat × Bool)} {Lq : Act → Prop} (hsel : Region.noSelect ops = true) (hs : Region.sinkB md ops n = true) (hc : chainP md ops n = true) (hn : n < ops.size) :
    ∀ (l : List Oper) (k : Nat) (listed : Array Bool) (a : Act), (∀ j, j < l.length → l[j]? = ops[k + j]?) → k + l.length = n → HeadInv md ops n listed →
    lexHeadP md ops n p l.length k listed = true → wpQuiet P ops C Lq l a →
    headQ P md ops C n (fun listed' a' => (((Region.ready md ops listed').all fun j => decide (n ≤ j)) = true ∧ planB md ops n p listed' = true) ∧ Lq a') l.length listed a
  | [], k, listed, a, _, hk, _, hB, h => by
    simp only [List.length_nil, lexHeadP, Bool.and_eq_true] at hB
    exact ⟨hB, h⟩
  | o :: l, k, listed, a, hl, hk, inv, hB, h => by
    have h0 : ops[k]? = some o := by simpa using (hl 0 (by simp)).symm
    simp only [List.length_cons, lexHeadP, Bool.and_eq_true] at hB
    obtain ⟨⟨hr, hf⟩, hB'⟩ := hB
    have hkn : k < n := by simp only [List.length_cons] at hk; omega
    have hr' : k ∈ Region.ready md ops listed := by simpa using hr
    have hst : qOp P ops C k (wpQuiet P ops C Lq l) a := by unfold qOp; simp only [h0]; exact h
    obtain ⟨v, hy, hK⟩ := yieldsIn_of_qOp h0 hst
    exact headQ_firstP h0 (Region.noSelect_spec hsel) hs hc hn hkn (fun listed' a' hL j hj => by simpa using List.all_eq_true.1 hL.1.1 j hj) l.length listed a inv (Region.free_spec h0 hf) hr' hy
      (headQ_lexP hsel hs hc hn l (k + 1) _ _ (fun j hj => by have := hl (j + 1) (by simp; omega); simpa [Nat.add_assoc, Nat.add_comm 1 j] using this) (by simp only [List.length_cons] at hk; omega) (inv.set hr' hkn) hB' hK)

/-- Nothing panics. -/
def Calm (Q : Exit → Act → World → Prop) : Exit → Act → World → Prop
  | .normal, a, w => Q .normal a w
  | _, _, _ => False
theorem Calm.imp {Q : Exit → Act → World → Prop} : ∀ (e : Exit) (a : Act) (w : World), Calm Q e a w → Q e a w := fun e a w h => by
  cases e <;> first | exact h | exact h.elim

def planL (tl : List Oper) (p : List (Nat × Bool)) : List Oper := p.filterMap fun e => tl[e.1]?
theorem yields_move {o : Oper} {a : Act} (h : moveB o = true) : ∃ v, Yields P ops o v a := by
  unfold Yields
  by_cases hw : Region.wanted o (yielded ops a.tmps) = true
  · obtain ⟨dst, op, type, pos, after, guard⟩ := o
    cases op
    case move x => exact ⟨a.eval x, .inl ⟨hw, fun w => by simp [execOp]⟩⟩
    case assign x => exact ⟨a.eval x, .inl ⟨hw, fun w => by simp [execOp]⟩⟩
    all_goals simp [moveB] at h
  · exact ⟨undef, .inr ⟨by simpa using hw, rfl⟩⟩
theorem wpAny_of_plan {Q' : Exit → Act → World → Prop} {n : Nat} {tl : List Oper} (htl : ∀ k, tl[k]? = ops[n + k]?) (hsel : Region.noSelect ops = true) : ∀ (p : List (Nat × Bool)) (listed : Array Bool) (a : Act) (w : World),
    planB md ops n p listed = true → wpList P ops (Calm Q') (planL tl p) a w → wpAny P md ops (Calm Q') p.length listed a w
  | [], listed, a, w, hB, h => ⟨by simpa [planB] using hB, h⟩
  | (k, true) :: p, listed, a, w, hB, h => by
    simp only [planB, Bool.and_eq_true] at hB
    obtain ⟨⟨⟨hr, hf⟩, hmv⟩, hB'⟩ := hB
    obtain ⟨_, o, ho, _⟩ := mem_ready.1 (by simpa using hr : n + k ∈ Region.ready md ops listed)
    have hmo : moveB o = true := by rw [ho] at hmv; simpa using hmv
    have hl : planL tl ((k, true) :: p) = o :: planL tl p := by simp [planL, htl, ho]
    rw [hl] at h
    obtain ⟨v, hy⟩ := yields_move (P := P) (ops := ops) (a := a) hmo
    refine wpAny_take ho hsel hf hr (fun c a w hh => hh.elim) hy ?_
    refine wpAny_of_plan htl hsel p _ _ _ hB' ?_
    simp only [wpList] at h
    rcases hy with ⟨hw, hv⟩ | ⟨hw, rfl⟩
    · rw [if_pos hw] at h
      rcases h with h | ⟨_, ⟨a', w', hh⟩⟩
      · unfold Oper.wp at h
        rw [hv] at h
        exact h
      · exact hh.elim
    · rw [if_neg (by rw [hw]; exact Bool.false_ne_true)] at h
      exact h
  | (k, false) :: p, listed, a, w, hB, h => by
    simp only [planB, Bool.and_eq_true, decide_eq_true_eq] at hB
    have hk : n + k ∈ Region.ready md ops listed := by rw [hB.1]; simp
    obtain ⟨_, o, ho, _⟩ := mem_ready.1 hk
    have hl : planL tl ((k, false) :: p) = o :: planL tl p := by simp [planL, htl, ho]
    rw [hl] at h
    refine ⟨fun h1 => (by rw [hB.1] at h1; cases h1), fun i hi => ?_⟩
    rw [hB.1] at hi
    have hik : i = n + k := by simpa using hi
    subst hik
    have hw : wpOp P ops (Calm Q') (n + k) (wpList P ops (Calm Q') (planL tl p)) a w := by unfold wpOp; simp only [ho]; exact h
    exact wpOp_mono (fun a' w' h' => wpAny_of_plan htl hsel p _ a' w' hB.2 h') hw

/-- The law. -/
theorem wp_region_ext_plan {P : Program} {id : Nat} {Q : Exit → Act → World → Prop} {a : Act} {w : World} {l : List Oper} (n : Nat) (p : List (Nat × Bool)) (hm : P.follows .mixedOrders = true) (hB : (planTailB .any l.toArray n p && decide (p.length = l.length - n)) = true)
    (h : wpQuiet P l.toArray (fun w' => ∃ g : Ext w, w' = g.world) (fun a' => ∀ w', (∃ g : Ext w, w' = g.world) → wpList P l.toArray (Calm Q) (planL (l.drop n) p) a' w') (l.take n) a) : (Code.region id l.toArray true).wp P Q a w := by
  refine Code.wp_mono Calm.imp ?_
  simp only [planTailB, Bool.and_eq_true, decide_eq_true_eq] at hB
  obtain ⟨⟨⟨⟨⟨hsel, hn⟩, hs⟩, hc⟩, hlex⟩, hlen⟩ := hB
  have hn' : n < l.length := by simpa using hn
  have htl : (l.take n).length = n := by simp; omega
  have inv0 : HeadInv .any l.toArray n (Array.replicate l.toArray.size false) :=
    ⟨by simp, fun j oj _ hl => (by rw [getD_replicate_false] at hl; cases hl), fun t _ ht => getD_in (by simpa using ht) (getD_replicate_false _ _)⟩
  have H := headQ_lexP (C := fun w' => ∃ g : Ext w, w' = g.world) (md := .any) (p := p) hsel hs hc hn (l.take n) 0 _ a (fun j hj => by
    have hj' : j < n := by rw [htl] at hj; exact hj
    simp [hj']) (by simpa using htl) inv0 (by rw [htl]; exact hlex) h
  refine wp_region_any hm ?_
  have := any_of_headQ (Q' := Calm Q) (g := p.length) (fun listed a' hL w' hw' => wpAny_of_plan (fun k => by simp [List.getElem?_drop]) hsel p listed a' w' hL.1.2 (hL.2 w' hw')) _ _ _ _ (ext_first w) H
  rw [htl] at this
  have e : n + p.length = l.toArray.size := by simp; omega
  rw [e] at this
  exact this
end
end Go.Proofs.Ytagponhnkodjhaa
