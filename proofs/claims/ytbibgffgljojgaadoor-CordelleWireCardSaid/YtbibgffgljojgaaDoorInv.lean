/- A region that draws its order, walked by what holds whichever operations have come up: one goal for each operation. No condition. -/
import Derived.Test.YtbibgffgljojgaaDoorKit
namespace Go.Proofs.YtbibgffgljojgaaDoor
open Go.RowKit

section
variable {P : Program} {ops : Array Oper}

/-- What is marked, i too. -/
def upd (L : Nat → Bool) (i : Nat) : Nat → Bool := fun j => if j = i then true else L j
/-- Must j come up ahead of i? -/
def waitsB (ops : Array Oper) (i j : Nat) : Bool := ((ops[i]?).map fun o => o.after.toList.any fun e => Region.binds .any e && e.on == j).getD false
/-- Does each operation wait for earlier ones alone? -/
def earlierB (ops : Array Oper) : Bool := (List.range ops.size).all fun i => ((ops[i]?).map fun o => o.after.toList.all fun e => !Region.binds .any e || decide (e.on < i)).getD true

theorem waits_listed {listed : Array Bool} {i j : Nat} (hr : i ∈ Region.ready .any ops listed) (hw : waitsB ops i j = true) : listed.getD j false = true := by
  obtain ⟨_, o, ho, hall⟩ := mem_ready.1 hr
  unfold waitsB at hw
  rw [ho] at hw
  simp only [Option.map_some, Option.getD_some, List.any_eq_true] at hw
  obtain ⟨e, hk, he⟩ := hw
  simp only [Bool.and_eq_true, beq_iff_eq] at he
  have := hall _ (Array.mem_toList_iff.1 hk) he.1
  rw [he.2] at this
  exact this

theorem getD_upd {listed : Array Bool} {i : Nat} (hi : i < listed.size) : (fun j => (listed.setIfInBounds i true).getD j false) = upd (fun j => listed.getD j false) i := by
  funext j
  unfold upd
  simp only [Array.getD_eq_getD_getElem?, Array.getElem?_setIfInBounds]
  by_cases h : i = j
  · subst h; simp [hi]
  · have h' : ¬ j = i := fun e => h e.symm
    simp [h, h']

theorem least_ready {listed : Array Bool} (hs : listed.size = ops.size) (hE : earlierB ops = true) (hr : Region.ready .any ops listed = []) : ∀ j, j < ops.size → listed.getD j false = true := by
  intro j
  induction j using Nat.strongRecOn with
  | ind j ih =>
    intro hj
    cases hb : listed.getD j false with
    | true => rfl
    | false =>
      exfalso
      have hmem : j ∈ Region.ready .any ops listed := by
        refine mem_ready.2 ⟨?_, ops[j], Array.getElem?_eq_getElem hj, fun e he hbind => ?_⟩
        · simp only [Array.getD_eq_getD_getElem?, Array.getElem?_eq_getElem (show j < listed.size by omega), Option.getD_some] at hb ⊢
          exact hb
        · have h1 := (List.all_eq_true.1 hE) j (List.mem_range.2 hj)
          rw [Array.getElem?_eq_getElem hj] at h1
          simp only [Option.map_some, Option.getD_some, List.all_eq_true] at h1
          have h2 := h1 e (Array.mem_toList_iff.2 he)
          rw [hbind] at h2
          simp at h2
          exact ih e.on h2 (by omega)
      rw [hr] at hmem
      cases hmem

/-- THE LAW: what holds at the start, abides each operation that may come up, and is enough when all have. -/
theorem wp_region_inv {id : Nat} {Q : Exit → Act → World → Prop} {a : Act} {w : World} (I : (Nat → Bool) → Act → World → Prop) (hm : P.follows .mixedOrders = true) (hE : earlierB ops = true)
    (h0 : I (fun _ => false) a w.drew)
    (hs : ∀ (L : Nat → Bool) (i : Nat) (o : Oper), ops[i]? = some o → L i = false → (∀ j, waitsB ops i j = true → L j = true) → ∀ a w, I L a w →
      ∀ K : Act → World → Prop, (∀ a' w', I (upd L i) a' w' → K a' w') → if Region.wanted o (yielded ops a.tmps) = true then Oper.wp P o a w K Q else K (a.put o.dst undef) w)
    (hd : ∀ a w, (∀ L : Nat → Bool, (∀ j, j < ops.size → L j = true) → I L a w → Q .normal a w)) : (Code.region id ops true).wp P Q a w := by
  refine wp_region_any hm ?_
  have key : ∀ (f : Nat) (listed : Array Bool) (a : Act) (w : World), listed.size = ops.size → ((List.range ops.size).filter fun j => !listed.getD j false).length = f → I (fun j => listed.getD j false) a w → wpAny P .any ops Q f listed a w := by
    intro f
    induction f with
    | zero =>
      intro listed a w hsz hc hI
      have hall : ∀ j, j < ops.size → listed.getD j false = true := by
        intro j hj
        cases hb : listed.getD j false with
        | true => rfl
        | false =>
          have : j ∈ (List.range ops.size).filter fun j => !listed.getD j false := List.mem_filter.2 ⟨List.mem_range.2 hj, by rw [hb]; rfl⟩
          rw [List.length_eq_zero_iff.1 hc] at this
          cases this
      refine ⟨?_, hd a w _ hall hI⟩
      rcases hr : Region.ready .any ops listed with _ | ⟨x, xs⟩
      · rfl
      · exfalso
        have hx : x ∈ Region.ready .any ops listed := by rw [hr]; exact List.mem_cons_self
        obtain ⟨h1, o, ho, _⟩ := mem_ready.1 hx
        have hlt : x < ops.size := (Array.getElem?_eq_some_iff.1 ho).1
        have h2 := hall x hlt
        simp only [Array.getD_eq_getD_getElem?, Array.getElem?_eq_getElem (show x < listed.size by omega), Option.getD_some] at h1 h2
        rw [h1] at h2
        cases h2
    | succ f ih =>
      intro listed a w hsz hc hI
      refine ⟨fun hr => hd a w _ (least_ready hsz hE hr) hI, fun i hi => ?_⟩
      obtain ⟨h1, o, ho, _⟩ := mem_ready.1 hi
      have hlt : i < ops.size := (Array.getElem?_eq_some_iff.1 ho).1
      have hun : listed.getD i false = false := by
        simp only [Array.getD_eq_getD_getElem?, Array.getElem?_eq_getElem (show i < listed.size by omega), Option.getD_some] at h1 ⊢
        exact h1
      refine wpOp_step ho fun K hK => hs _ i o ho hun (fun j hw => waits_listed hi hw) a w hI K fun a' w' hI' => hK _ _ (ih _ a' w' (by simp [hsz]) ?_ ?_)
      · have hcnt : ∀ (l : List Nat), l.Nodup → i ∈ l → (l.filter fun j => !listed.getD j false).length = (l.filter fun j => !(listed.setIfInBounds i true).getD j false).length + 1 := by
          intro l hnd hmem
          have hset : ∀ j, (listed.setIfInBounds i true).getD j false = upd (fun j => listed.getD j false) i j := fun j => congrFun (getD_upd (by omega)) j
          induction l with
          | nil => cases hmem
          | cons x xs ihl =>
            rcases List.mem_cons.1 hmem with rfl | hm'
            · have hx : ∀ y ∈ xs, y ≠ i := fun y hy he => (List.nodup_cons.1 hnd).1 (he ▸ hy)
              have e1 : (xs.filter fun j => !(listed.setIfInBounds i true).getD j false) = xs.filter fun j => !listed.getD j false := by
                refine List.filter_congr fun y hy => ?_
                rw [hset]; unfold upd; rw [if_neg (hx y hy)]
              rw [List.filter_cons, List.filter_cons, e1, hset i, hun]
              simp [upd]
            · have hne : x ≠ i := fun he => (List.nodup_cons.1 hnd).1 (he ▸ hm')
              have := ihl (List.nodup_cons.1 hnd).2 hm'
              rw [List.filter_cons, List.filter_cons, hset x]
              unfold upd
              rw [if_neg hne]
              split <;> simp_all
        have := hcnt (List.range ops.size) List.nodup_range (List.mem_range.2 hlt)
        omega
      · rw [getD_upd (by omega)]; exact hI'
  refine key _ _ _ _ (by simp) ?_ ?_
  · have : ((List.range ops.size).filter fun j => !(Array.replicate ops.size false).getD j false) = List.range ops.size := by
      refine List.filter_eq_self.2 fun j hj => ?_
      have := List.mem_range.1 hj
      simp [Array.getD_eq_getD_getElem?, this]
    rw [this, List.length_range]
  · have : (fun j => (Array.replicate ops.size false).getD j false) = fun _ => false := by
      funext j
      simp only [Array.getD_eq_getD_getElem?, Array.getElem?_replicate]
      split <;> rfl
    rw [this]; exact h0
end

/-- The operation o leads on to K. -/
structure StepsTo (P : Program) (ops : Array Oper) (Q : Exit → Act → World → Prop) (o : Oper) (a : Act) (w : World) (K : Act → World → Prop) : Prop where
  step : if Region.wanted o (yielded ops a.tmps) = true then Oper.wp P o a w K Q else K (a.put o.dst undef) w
/-- Some slots hold these. -/
def setAll (a : Act) : List (Nat × Value) → Act
  | [] => a
  | (i, v) :: l => setAll (a.put (some i) v) l
/-- The same law, the frame being the one at the start but for some slots. -/
theorem wp_region_slots {P : Program} {ops : Array Oper} {id : Nat} {Q : Exit → Act → World → Prop} {a : Act} {w : World} (slots : List Nat) (I : (Nat → Bool) → List Value → World → Prop) (vs0 : List Value) (hm : P.follows .mixedOrders = true) (hE : earlierB ops = true)
    (h0 : setAll a (slots.zip vs0) = a) (hI0 : I (fun _ => false) vs0 w.drew)
    (hs : ∀ (L : Nat → Bool) (i : Nat) (o : Oper), ops[i]? = some o → L i = false → (∀ j, waitsB ops i j = true → L j = true) → ∀ vs w, I L vs w →
      ∀ K : Act → World → Prop, (∀ vs' a' w', a' = setAll a (slots.zip vs') → I (upd L i) vs' w' → K a' w') →
        StepsTo P ops Q o (setAll a (slots.zip vs)) w K)
    (hd : ∀ vs w, (∀ L : Nat → Bool, (∀ j, j < ops.size → L j = true) → I L vs w → Q .normal (setAll a (slots.zip vs)) w)) : (Code.region id ops true).wp P Q a w := by
  refine wp_region_inv (fun L a' w' => ∃ vs, a' = setAll a (slots.zip vs) ∧ I L vs w') hm hE ⟨vs0, h0.symm, hI0⟩ ?_ ?_
  · rintro L i o ho hu hw _ w' ⟨vs, rfl, hI⟩ K hK
    refine StepsTo.step (hs L i o ho hu hw vs w' hI K ?_)
    exact fun vs' a'' w'' he hI' => hK _ _ ⟨vs', he, hI'⟩
  · rintro a' w' L hL ⟨vs, rfl, hI⟩
    exact hd vs w' L hL hI
end Go.Proofs.YtbibgffgljojgaaDoor
