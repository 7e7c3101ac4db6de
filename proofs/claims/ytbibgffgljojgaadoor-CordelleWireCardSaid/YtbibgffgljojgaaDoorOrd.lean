/- A region that draws its order and holds calls, stores and new blocks: one walk, in an order of one's own choice, serves every order. No condition. -/
import Derived.Test.YtbibgffgljojgaaDoorInv
import Derived.Deep.Quiet
namespace Go.Proofs.YtbibgffgljojgaaDoor
open Go.RowKit

section
variable {P : Program} {ops : Array Oper}

/-- An operation that calls no function: it yields a value or stops. -/
def plainB (o : Oper) : Bool :=
  match o.op with
  | .move _ | .assign _ | .pick _ _ _ | .nilCheck _ | .load _ _ | .fieldAddr _ _ _ | .indexAddr _ _ _ | .index _ _ _ | .field _ _ _ | .extract _ _ | .unOp _ _ _ | .binOp _ _ _ _ _ | .convert _ _ _ | .build _ _ | .lookup _ _ _ _ | .slice _ _ _ _ _ | .makeInterface _ _ | .makeFunc _ _ _ => true
  | .call c => (match c.callee with | .builtin .len | .builtin .min | .builtin .max => true | _ => false)
  | _ => false
theorem run_value_of (s : Sem Value) (w : World) : (∃ v w', (do pure (Next.value (← s)) : Sem Next).run P w = .ok (.value v) w') ∨ (∃ x w', (do pure (Next.value (← s)) : Sem Next).run P w = .halt x w') := by
  simp only [Sem.run_bind]
  cases s.run P w with
  | ok v w' => exact .inl ⟨v, w', by simp [Result.andThen]⟩
  | halt x w' => exact .inr ⟨x, w', by simp [Result.andThen]⟩
theorem plain_runs {o : Oper} (h : plainB o = true) (ρ : Operand → Value) (w : World) : (∃ v w', (execOp ρ o).run P w = .ok (.value v) w') ∨ (∃ x w', (execOp ρ o).run P w = .halt x w') := by
  obtain ⟨dst, op, type, pos, after, guard⟩ := o
  cases op
  case call c =>
    obtain ⟨callee, args, argTypes⟩ := c
    cases callee with
    | builtin b =>
      cases b
      case len | min | max =>
        simp only [execOp, resolve, invoke]
        unfold builtin
        exact run_value_of _ w
      all_goals simp [plainB] at h
    | _ => simp [plainB] at h
  case pick c a b =>
    simp only [execOp, Sem.run_bind]
    cases (asBool (ρ c)).run P w with
    | ok v w' => exact .inl ⟨_, w', by simp [Result.andThen]; rfl⟩
    | halt x w' => exact .inr ⟨x, w', by simp [Result.andThen]⟩
  case move x => exact .inl ⟨ρ x, w, by simp [execOp]⟩
  case assign x => exact .inl ⟨ρ x, w, by simp [execOp]⟩
  case nilCheck x =>
    simp only [execOp]
    split
    · exact .inr ⟨_, _, rfl⟩
    · exact .inr ⟨_, _, rfl⟩
    · exact .inr ⟨_, _, rfl⟩
    · split
      · exact .inr ⟨_, _, rfl⟩
      · simp only [Sem.run_bind]
        generalize (program).run P w = r1
        cases r1 with
        | halt x w1 => exact .inr ⟨x, w1, by simp [Result.andThen]⟩
        | ok p w1 =>
          simp only [Result.andThen]
          generalize (nilAhead _ _ _ _).run P w1 = r2
          cases r2 with
          | halt x w2 => exact .inr ⟨x, w2, by simp [Result.andThen]⟩
          | ok b w2 =>
            by_cases hb : (b != some false) = true
            · exact .inr ⟨_, _, by simp [Result.andThen, hb]; exact ⟨rfl, rfl⟩⟩
            · exact .inl ⟨_, w2, by simp [Result.andThen, hb]; rfl⟩
      · exact .inl ⟨_, w, rfl⟩
    · exact .inl ⟨_, w, rfl⟩
  all_goals first
    | (simp [plainB] at h; done)
    | exact run_value_of _ w

/-! What an operation waits for, also through others -/
def depsL (ops : Array Oper) (i : Nat) : List Nat := ((ops[i]?).map fun o => (o.after.toList.filter fun e => Region.binds .any e).map (·.on)).getD []
theorem mem_depsL {i j : Nat} : j ∈ depsL ops i ↔ waitsB ops i j = true := by
  unfold depsL waitsB
  cases ops[i]? with
  | none => simp
  | some o =>
    simp only [Option.map_some, Option.getD_some, List.mem_map, List.mem_filter, List.any_eq_true, Bool.and_eq_true, beq_iff_eq]
    constructor
    · rintro ⟨e, ⟨h1, h2⟩, h3⟩; exact ⟨e, h1, h2, h3⟩
    · rintro ⟨e, h1, h2, h3⟩; exact ⟨e, ⟨h1, h2⟩, h3⟩
def ancTab (ops : Array Oper) : List (List Nat) :=
  (List.range ops.size).foldl (fun t i => t ++ [(depsL ops i ++ (depsL ops i).flatMap fun d => t.getD d []).eraseDups]) []
def ancOk (ops : Array Oper) (T : List (List Nat)) : Bool :=
  (List.range ops.size).all fun i => (T.getD i []).all fun j => (depsL ops i).contains j || (depsL ops i).any fun d => decide (d < i) && (T.getD d []).contains j
theorem anc_listed {T : List (List Nat)} (hT : ancOk ops T = true) {L : Nat → Bool} (hL : ∀ i j, L i = true → waitsB ops i j = true → L j = true) :
    ∀ i, i < ops.size → (∀ j, waitsB ops i j = true → L j = true) → ∀ j, j ∈ T.getD i [] → L j = true := by
  intro i
  induction i using Nat.strongRecOn with
  | ind i ih =>
    intro hi hw j hj
    have h1 := List.all_eq_true.1 (List.all_eq_true.1 hT i (List.mem_range.2 hi)) j hj
    simp only [Bool.or_eq_true, List.contains_iff_mem, List.any_eq_true, Bool.and_eq_true, decide_eq_true_eq] at h1
    rcases h1 with h1 | ⟨d, h1, h2, h3⟩
    · exact hw j (mem_depsL.1 h1)
    · have hd := hw d (mem_depsL.1 h1)
      exact ih d h2 (by omega) (fun e he => hL d e hd he) j h3

/-! Puts, and who sees them -/
def dstOf (ops : Array Oper) (i : Nat) : Option Tmp := (ops[i]?).bind (·.dst)
def Sees (ops : Array Oper) (o : Oper) (a b : Act) : Prop := execOp a.eval o = execOp b.eval o ∧ Region.wanted o (yielded ops a.tmps) = Region.wanted o (yielded ops b.tmps)
theorem Sees.refl {o : Oper} {a : Act} : Sees ops o a a := ⟨rfl, rfl⟩
theorem Sees.trans {o : Oper} {a b c : Act} (h : Sees ops o a b) (k : Sees ops o b c) : Sees ops o a c := ⟨h.1.trans k.1, h.2.trans k.2⟩
theorem Sees.symm {o : Oper} {a b : Act} (h : Sees ops o a b) : Sees ops o b a := ⟨h.1.symm, h.2.symm⟩
/-- The slot is not looked at. -/
def Blind (ops : Array Oper) (o : Oper) (d : Option Tmp) : Prop := ∀ x, d = some x → x ∉ o.looksAt ops
theorem Sees.put {o : Oper} (hs : ∀ cs b, o.op ≠ .select cs b) {d : Option Tmp} (hd : Blind ops o d) (a : Act) (v : Value) : Sees ops o (a.put d v) a :=
  ⟨execOp_put o hs a d v hd, wanted_put o a d v hd⟩
def putsA (a : Act) : List (Option Tmp × Value) → Act
  | [] => a
  | (d, v) :: l => putsA (a.put d v) l
theorem put_put (a : Act) (d : Option Tmp) (v u : Value) : (a.put d v).put d u = a.put d u := by
  cases d with
  | none => rfl
  | some t => simp [Act.put]
theorem puts_push (d : Option Tmp) (v u : Value) : ∀ (ps : List (Option Tmp × Value)) (a : Act), (putsA (a.put d v) ps).put d u = (putsA a ps).put d u
  | [], a => put_put a d v u
  | (d', v') :: ps, a => by
    simp only [putsA]
    by_cases h : d' = d
    · subst h; rw [put_put]
    · have : (a.put d v).put d' v' = (a.put d' v').put d v := by
        cases d with
        | none => rfl
        | some t => exact Act.put_comm a v v' (fun x hx => by injection hx with hx; subst hx; exact h)
      rw [this]
      exact puts_push d v u ps _
/-- Alike for o, whatever is put into both. -/
def Rel (ops : Array Oper) (o : Oper) (a b : Act) : Prop := ∀ ps, Sees ops o (putsA a ps) (putsA b ps)
theorem Rel.put_right {o : Oper} (hs : ∀ cs b, o.op ≠ .select cs b) {d : Option Tmp} (hd : Blind ops o d) {a b : Act} (h : Rel ops o a b) (v : Value) : Rel ops o a (b.put d v) := by
  intro ps
  have h1 := h ps
  have h2 := Sees.put hs hd (putsA (b.put d v) ps) undef
  rw [puts_push] at h2
  exact h1.trans ((Sees.put hs hd (putsA b ps) undef).symm.trans h2)
theorem Rel.both {o : Oper} {a b : Act} (h : Rel ops o a b) (d : Option Tmp) (v : Value) : Rel ops o (a.put d v) (b.put d v) := fun ps => h ((d, v) :: ps)

/-- The listed ones' values, put one behind the other. -/
def actOf (ops : Array Oper) (L : Nat → Bool) : List (Nat × Value) → Act → Act
  | [], a => a
  | (i, v) :: l, a => actOf ops L l (if L i = true then a.put (dstOf ops i) v else a)
theorem actOf_append (L : Nat → Bool) : ∀ (l k : List (Nat × Value)) (a : Act), actOf ops L (l ++ k) a = actOf ops L k (actOf ops L l a)
  | [], _, _ => rfl
  | (i, v) :: l, k, a => by simp only [List.cons_append, actOf]; exact actOf_append L l k _
theorem actOf_congr (L L' : Nat → Bool) : ∀ (l : List (Nat × Value)) (a : Act), (∀ e ∈ l, L e.1 = L' e.1) → actOf ops L l a = actOf ops L' l a
  | [], _, _ => rfl
  | (i, v) :: l, a, h => by
    simp only [actOf]
    rw [h (i, v) List.mem_cons_self]
    exact actOf_congr L L' l _ (fun e he => h e (List.mem_cons_of_mem _ he))
theorem sees_post {o : Oper} (hs : ∀ cs b, o.op ≠ .select cs b) (L : Nat → Bool) : ∀ (post : List (Nat × Value)) (a : Act), (∀ e ∈ post, L e.1 = false ∨ Blind ops o (dstOf ops e.1)) → Sees ops o (actOf ops L post a) a
  | [], _, _ => Sees.refl
  | (i, v) :: l, a, h => by
    simp only [actOf]
    refine (sees_post hs L l _ (fun e he => h e (List.mem_cons_of_mem _ he))).trans ?_
    split
    · rename_i hL
      rcases h (i, v) List.mem_cons_self with h1 | h1
      · rw [hL] at h1; cases h1
      · exact Sees.put hs h1 a v
    · exact Sees.refl
theorem rel_pre {o : Oper} (hs : ∀ cs b, o.op ≠ .select cs b) (L : Nat → Bool) : ∀ (pre : List (Nat × Value)) (a b : Act), Rel ops o a b → (∀ e ∈ pre, L e.1 = true ∨ Blind ops o (dstOf ops e.1)) → Rel ops o (actOf ops L pre a) (actOf ops (fun _ => true) pre b)
  | [], _, _, hab, _ => hab
  | (i, v) :: l, a, b, hab, h => by
    simp only [actOf, if_true]
    refine rel_pre hs L l _ _ ?_ (fun e he => h e (List.mem_cons_of_mem _ he))
    split
    · exact hab.both _ _
    · rename_i hL
      rcases h (i, v) List.mem_cons_self with h1 | h1
      · exact absurd h1 hL
      · exact hab.put_right hs h1 v
theorem actOf_put (L : Nat → Bool) (d : Option Tmp) (v : Value) : ∀ (post : List (Nat × Value)) (a : Act), (∀ e ∈ post, L e.1 = false ∨ ∀ x, d = some x → dstOf ops e.1 ≠ some x) → actOf ops L post (a.put d v) = (actOf ops L post a).put d v
  | [], _, _ => rfl
  | (i, u) :: l, a, h => by
    simp only [actOf]
    have hr := fun b => actOf_put L d v l b (fun e he => h e (List.mem_cons_of_mem _ he))
    split
    · rename_i hL
      rcases h (i, u) List.mem_cons_self with h1 | h1
      · rw [hL] at h1; cases h1
      · rw [← hr]
        rw [Act.put_comm a v u h1]
    · exact hr a

def apartB (ops : Array Oper) (i j : Nat) : Bool :=
  match ops[i]?, ops[j]? with
  | some x, some y => x.apart ops y
  | _, _ => false
def pairsB (ops : Array Oper) (T : List (List Nat)) : List Nat → Bool
  | [] => true
  | i :: r => (r.all fun j => i != j && ((T.getD j []).contains i || apartB ops i j)) && pairsB ops T r
theorem pairs_split {T : List (List Nat)} : ∀ {pre post : List Nat} {i : Nat}, pairsB ops T (pre ++ i :: post) = true →
    (∀ j ∈ pre, j ≠ i ∧ (j ∈ T.getD i [] ∨ apartB ops j i = true)) ∧ (∀ j ∈ post, i ≠ j ∧ (i ∈ T.getD j [] ∨ apartB ops i j = true))
  | [], post, i, h => by
    simp only [List.nil_append, pairsB, Bool.and_eq_true, List.all_eq_true] at h
    refine ⟨fun j hj => (by cases hj), fun j hj => ?_⟩
    have := h.1 j hj
    simp only [Bool.or_eq_true, bne_iff_ne, ne_eq, List.contains_iff_mem] at this
    exact ⟨this.1, this.2⟩
  | k :: pre, post, i, h => by
    simp only [List.cons_append, pairsB, Bool.and_eq_true, List.all_eq_true] at h
    obtain ⟨h1, h2⟩ := pairs_split h.2
    refine ⟨fun j hj => ?_, h2⟩
    rcases List.mem_cons.1 hj with rfl | hj
    · have := h.1 i (by simp)
      simp only [Bool.or_eq_true, bne_iff_ne, ne_eq, List.contains_iff_mem] at this
      exact ⟨this.1, this.2⟩
    · exact h1 j hj
theorem apart_blind {i j : Nat} {x y : Oper} (hx : ops[i]? = some x) (hy : ops[j]? = some y) (h : apartB ops i j = true) :
    Blind ops y (dstOf ops i) ∧ Blind ops x (dstOf ops j) ∧ (∀ d, dstOf ops i = some d → dstOf ops j ≠ some d) := by
  unfold apartB at h
  rw [hx, hy] at h
  obtain ⟨h1, h2, h3⟩ := Oper.apart_spec h
  unfold Blind dstOf
  rw [hx, hy]
  exact ⟨h1, h3, h2⟩

/-- At its place in any order, an operation sees what it sees in the canonical one; and its value may be put behind all the others. -/
theorem any_place {T : List (List Nat)} (hT : ancOk ops T = true) (hsel : ∀ (i : Nat) (o : Oper), ops[i]? = some o → ∀ cs b, o.op ≠ .select cs b) {tr : List (Nat × Value)} (hp : pairsB ops T (tr.map (·.1)) = true) {L : Nat → Bool}
    (hL : ∀ i j, L i = true → waitsB ops i j = true → L j = true) (hLs : ∀ i, L i = true → i < ops.size) {i : Nat} {o : Oper} (ho : ops[i]? = some o) (hu : L i = false) (hw : ∀ j, waitsB ops i j = true → L j = true)
    (htr : ∀ e ∈ tr, e.1 < ops.size) (a : Act) {pre post : List (Nat × Value)} {v : Value} (he : tr = pre ++ (i, v) :: post) :
    Sees ops o (actOf ops L tr a) (actOf ops (fun _ => true) pre a) ∧ actOf ops (upd L i) tr a = (actOf ops L tr a).put (dstOf ops i) v := by
  subst he
  rw [List.map_append, List.map_cons] at hp
  obtain ⟨h1, h2⟩ := pairs_split hp
  have hi : i < ops.size := (Array.getElem?_eq_some_iff.1 ho).1
  have hanc := anc_listed hT hL i hi hw
  have hpost : ∀ e ∈ post, L e.1 = false ∨ apartB ops i e.1 = true := fun e he => by
    have hm : e.1 ∈ post.map (·.1) := List.mem_map.2 ⟨e, he, rfl⟩
    rcases (h2 e.1 hm).2 with h | h
    · left
      cases hLe : L e.1 with
      | false => rfl
      | true =>
        have := anc_listed hT hL e.1 (hLs _ hLe) (fun j hj => hL e.1 j hLe hj) i h
        rw [hu] at this
        cases this
    · exact .inr h
  have hpre : ∀ e ∈ pre, L e.1 = true ∨ apartB ops e.1 i = true := fun e he => by
    have hm : e.1 ∈ pre.map (·.1) := List.mem_map.2 ⟨e, he, rfl⟩
    rcases (h1 e.1 hm).2 with h | h
    · exact .inl (hanc _ h)
    · exact .inr h
  have get : ∀ e : Nat × Value, e ∈ pre ++ (i, v) :: post → ∃ x, ops[e.1]? = some x := fun e he => ⟨_, Array.getElem?_eq_getElem (htr e he)⟩
  have bpost : ∀ e ∈ post, L e.1 = false ∨ Blind ops o (dstOf ops e.1) := fun e he => by
    rcases hpost e he with h | h
    · exact .inl h
    · obtain ⟨x, hx⟩ := get e (by simp [he])
      exact .inr (apart_blind ho hx h).2.1
  have bpre : ∀ e ∈ pre, L e.1 = true ∨ Blind ops o (dstOf ops e.1) := fun e he => by
    rcases hpre e he with h | h
    · exact .inl h
    · obtain ⟨x, hx⟩ := get e (by simp [he])
      exact .inr (apart_blind hx ho h).1
  have hs := hsel i o ho
  refine ⟨?_, ?_⟩
  · rw [actOf_append]
    simp only [actOf, hu, Bool.false_eq_true, if_false]
    exact (sees_post hs L post _ bpost).trans (rel_pre hs L pre a a (fun _ => Sees.refl) bpre [])
  · rw [actOf_append, actOf_append]
    have e1 : actOf ops (upd L i) pre a = actOf ops L pre a := actOf_congr _ _ _ _ (fun e he => by
      have := (h1 e.1 (List.mem_map.2 ⟨e, he, rfl⟩)).1
      unfold upd; rw [if_neg this])
    rw [e1]
    have hui : upd L i i = true := by simp [upd]
    simp only [actOf, hui, hu, if_true, Bool.false_eq_true, if_false]
    have e2 : ∀ b, actOf ops (upd L i) post b = actOf ops L post b := fun b => actOf_congr _ _ _ _ (fun e he => by
      have := (h2 e.1 (List.mem_map.2 ⟨e, he, rfl⟩)).1
      unfold upd; rw [if_neg (fun h => this h.symm)])
    rw [e2]
    refine actOf_put L _ v post _ (fun e he => ?_)
    rcases hpost e he with h | h
    · exact .inl h
    · obtain ⟨x, hx⟩ := get e (by simp [he])
      exact .inr (apart_blind ho hx h).2.2

/-- In w operation o, its operands as in a, yields v and leaves a world of D. -/
def movesUpon (P : Program) (v : Value) (D : World → Prop) : Result Next → Prop
  | .ok (.value u) w' => u = v ∧ D w'
  | .ok .skip w' => v = undef ∧ D w'
  | .ok (.enter f args) w' => Calls P f args w' (fun e w'' => e = .returned v ∧ D w'')
  | _ => False
structure Moves (P : Program) (o : Oper) (a : Act) (w : World) (v : Value) (D : World → Prop) : Prop where
  run : movesUpon P v D ((execOp a.eval o).run P w)
theorem Moves.wp {o : Oper} {a : Act} {w : World} {v : Value} {D : World → Prop} (h : Moves P o a w v D) {K : Act → World → Prop} {Q : Exit → Act → World → Prop} {b : Act} (hab : execOp b.eval o = execOp a.eval o) (hK : ∀ w', D w' → K (b.put o.dst v) w') : Oper.wp P o b w K Q := by
  have h := h.run
  unfold Oper.wp
  rw [hab]
  generalize (execOp a.eval o).run P w = r at *
  cases r with
  | ok n w' =>
    cases n <;> simp only [movesUpon] at h <;> simp only [Oper.upon]
    case value u =>
      obtain ⟨e1, h2⟩ := h
      rw [e1]
      exact hK _ h2
    case skip =>
      obtain ⟨e1, h2⟩ := h
      rw [← e1]
      exact hK _ h2
    case enter f args => exact h.mono fun e w'' ⟨he, hw''⟩ => by subst he; exact hK _ hw''
  | halt x w' => simp only [movesUpon] at h

/-- A world of the class. -/
structure UW (C : (Nat → Bool) → (Nat → Nat) → World → Prop) where
  L : Nat → Bool
  G : Nat → Nat
  world : World
  holds : C L G world

section
variable (P ops) (T : List (List Nat)) (C : (Nat → Bool) → (Nat → Nat) → World → Prop)
/-- What is shown of operation i in the canonical order, in state a, at whatever new blocks. -/
def StepOk (M : List Nat) (Γ : (Nat → Nat) → Prop) (i : Nat) (v : Value) (a : Act) : Prop :=
  ∃ o, ops[i]? = some o ∧
    ((Region.wanted o (yielded ops a.tmps) = false ∧ v = undef ∧ (i ∈ M → ∀ L G w, Γ G → L i = false → C L G w → C (upd L i) G w)) ∨
     (Region.wanted o (yielded ops a.tmps) = true ∧ i ∈ M ∧ ∀ L G w, Γ G → L i = false → (∀ j, (T.getD i []).contains j = true → L j = true) → C L G w → Moves P o a w v (C (upd L i) G)) ∨
     (Region.wanted o (yielded ops a.tmps) = true ∧ i ∉ M ∧ plainB o = true ∧ ∀ w, (∃ g : UW C, w = g.world) → o.quietAt P a (fun w' => ∃ g : UW C, w' = g.world) w v))
end

def updN' {α : Type} (h : Nat → α) (k : Nat) (x : α) : Nat → α := fun i => if i = k then x else h i
def ptrOf (G : Nat → Nat) (q : Nat) : Value := .pointer (some ⟨G q, 0, none⟩)
def trG (N : List Nat) (base : List (Nat × Value)) (G : Nat → Nat) : List (Nat × Value) := base.map fun e => if N.contains e.1 then (e.1, ptrOf G e.1) else e
theorem trG_fst (N : List Nat) (base : List (Nat × Value)) (G : Nat → Nat) : (trG N base G).map (·.1) = base.map (·.1) := by
  unfold trG
  rw [List.map_map]
  refine List.map_congr_left fun e _ => ?_
  simp only [Function.comp]
  split <;> rfl
theorem trG_actOf (N : List Nat) (L : Nat → Bool) (G : Nat → Nat) (q g : Nat) (hq : L q = false) : ∀ (base : List (Nat × Value)) (a : Act), actOf ops L (trG N base (updN' G q g)) a = actOf ops L (trG N base G) a
  | [], _ => rfl
  | (i, v) :: l, a => by
    have ih := fun b => trG_actOf N L G q g hq l b
    unfold trG at ih ⊢
    simp only [List.map_cons]
    by_cases hN : N.contains i = true
    · simp only [hN, if_true, actOf]
      rw [ih]
      by_cases hi : i = q
      · subst hi; simp [hq]
      · have : ptrOf (updN' G q g) i = ptrOf G i := by unfold ptrOf updN'; rw [if_neg hi]
        rw [this]
    · simp only [hN, if_false, actOf, Bool.false_eq_true]
      exact ih _

/-- THE LAW, by a trace. -/
theorem wp_region_trace {id : Nat} {Q : Exit → Act → World → Prop} {a : Act} {w : World} (T : List (List Nat)) (M N : List Nat) (C : (Nat → Bool) → (Nat → Nat) → World → Prop) (base : List (Nat × Value)) (G0 : Nat → Nat)
    (hm : P.follows .mixedOrders = true) (hE : earlierB ops = true) (hT : ancOk ops T = true) (hsel : ∀ (i : Nat) (o : Oper), ops[i]? = some o → ∀ cs b, o.op ≠ .select cs b)
    (hp : pairsB ops T (base.map (·.1)) = true) (hlt : ∀ e ∈ base, e.1 < ops.size) (hall : ∀ i, i < ops.size → ∃ v, (i, v) ∈ base)
    (hC : ∀ i, i ∉ M → i ∉ N → ∀ L G w, C L G w → C (upd L i) G w) (h0 : C (fun _ => false) G0 w.drew)
    (hnew : ∀ q o, q ∈ N → ops[q]? = some o → o.guard = none ∧ ∀ L G w, L q = false → C L G w → ∃ w', (∀ b : Act, (execOp b.eval o).run P w = .ok (.value (.pointer (some ⟨w.heap.size, 0, none⟩))) w') ∧ C (upd L q) (updN' G q w.heap.size) w')
    (hstep : ∀ pre i v post, base = pre ++ (i, v) :: post → i ∉ N → ∀ G, StepOk P ops T C M (fun G' => G' = G) i v (actOf ops (fun _ => true) (trG N pre G) a))
    (hfin : ∀ L G w, (∀ j, j < ops.size → L j = true) → C L G w → Q .normal (actOf ops (fun _ => true) (trG N base G) a) w) : (Code.region id ops true).wp P Q a w := by
  refine wp_region_inv (fun L b w' => (∀ i j, i < ops.size → L i = true → waitsB ops i j = true → L j = true) ∧ ∃ G, C L G w' ∧ b = actOf ops L (trG N base G) a) hm hE ?_ ?_ ?_
  · refine ⟨fun i j _ h => (by cases h), G0, h0, ?_⟩
    have : ∀ (l : List (Nat × Value)) (b : Act), actOf ops (fun _ => false) l b = b := by
      intro l
      induction l with
      | nil => intro b; rfl
      | cons e l ih => intro b; obtain ⟨i, v⟩ := e; simp only [actOf, Bool.false_eq_true, if_false]; exact ih b
    exact (this _ _).symm
  · rintro L i o ho hu hw b w' ⟨hL, G, hCw, rfl⟩ K hK
    have hi : i < ops.size := (Array.getElem?_eq_some_iff.1 ho).1
    -- the listed ones, below the size
    have hLB : ∀ x y, (fun j => L j && decide (j < ops.size)) x = true → waitsB ops x y = true → (fun j => L j && decide (j < ops.size)) y = true := by
      intro x y hx hxy
      simp only [Bool.and_eq_true, decide_eq_true_eq] at hx ⊢
      refine ⟨hL x y hx.2 hx.1 hxy, ?_⟩
      have h1 := (List.all_eq_true.1 hE) x (List.mem_range.2 hx.2)
      rw [Array.getElem?_eq_getElem hx.2] at h1
      simp only [Option.map_some, Option.getD_some, List.all_eq_true] at h1
      have h2 := mem_depsL.2 hxy
      unfold depsL at h2
      rw [Array.getElem?_eq_getElem hx.2] at h2
      simp only [Option.map_some, Option.getD_some, List.mem_map, List.mem_filter] at h2
      obtain ⟨e, ⟨he, hb⟩, rfl⟩ := h2
      have := h1 e he
      rw [hb] at this
      simp at this
      omega
    have hLB2 : ∀ x, (fun j => L j && decide (j < ops.size)) x = true → x < ops.size := fun x hx => by
      simp only [Bool.and_eq_true, decide_eq_true_eq] at hx; exact hx.2
    have hwB : ∀ j, waitsB ops i j = true → (fun j => L j && decide (j < ops.size)) j = true := by
      intro j hj
      simp only [Bool.and_eq_true, decide_eq_true_eq]
      refine ⟨hw j hj, ?_⟩
      have h1 := (List.all_eq_true.1 hE) i (List.mem_range.2 hi)
      rw [Array.getElem?_eq_getElem hi] at h1
      simp only [Option.map_some, Option.getD_some, List.all_eq_true] at h1
      have h2 := mem_depsL.2 hj
      unfold depsL at h2
      rw [Array.getElem?_eq_getElem hi] at h2
      simp only [Option.map_some, Option.getD_some, List.mem_map, List.mem_filter] at h2
      obtain ⟨e, ⟨he, hb⟩, rfl⟩ := h2
      have := h1 e he
      rw [hb] at this
      simp at this
      omega
    have hanc := anc_listed hT hLB i hi hwB
    have hc1 : ∀ G', actOf ops (fun j => L j && decide (j < ops.size)) (trG N base G') a = actOf ops L (trG N base G') a := fun G' => actOf_congr _ _ _ _ (fun e he => by
      have hm1 : e.1 ∈ (trG N base G').map (·.1) := List.mem_map.2 ⟨e, he, rfl⟩
      rw [trG_fst] at hm1
      obtain ⟨e', he', e1⟩ := List.mem_map.1 hm1
      have := hlt e' he'
      simp only [← e1, this, decide_true, Bool.and_true])
    have hc2 : ∀ G', actOf ops (upd (fun j => L j && decide (j < ops.size)) i) (trG N base G') a = actOf ops (upd L i) (trG N base G') a := fun G' => actOf_congr _ _ _ _ (fun e he => by
      have hm1 : e.1 ∈ (trG N base G').map (·.1) := List.mem_map.2 ⟨e, he, rfl⟩
      rw [trG_fst] at hm1
      obtain ⟨e', he', e1⟩ := List.mem_map.1 hm1
      have := hlt e' he'
      unfold upd
      simp only [← e1, this, decide_true, Bool.and_true])
    have hu' : (fun j => L j && decide (j < ops.size)) i = false := by simp [hu]
    obtain ⟨v, hv⟩ := hall i hi
    obtain ⟨pre, post, hbase⟩ := List.append_of_mem hv
    have place : ∀ G', Sees ops o (actOf ops L (trG N base G') a) (actOf ops (fun _ => true) (trG N pre G') a) ∧ actOf ops (upd L i) (trG N base G') a = (actOf ops L (trG N base G') a).put o.dst (if N.contains i = true then ptrOf G' i else v) := by
      intro G'
      have htr2 : trG N base G' = trG N pre G' ++ (i, if N.contains i = true then ptrOf G' i else v) :: trG N post G' := by
        rw [hbase]
        unfold trG
        rw [List.map_append, List.map_cons]
        congr 2
        simp only
        split <;> rfl
      have h := any_place (L := fun j => L j && decide (j < ops.size)) hT hsel (tr := trG N base G') (by rw [trG_fst]; exact hp) hLB hLB2 ho hu' hwB (fun e he => by
        have hm1 : e.1 ∈ (trG N base G').map (·.1) := List.mem_map.2 ⟨e, he, rfl⟩
        rw [trG_fst] at hm1
        obtain ⟨e', he', e1⟩ := List.mem_map.1 hm1
        rw [← e1]
        exact hlt e' he') a htr2
      rw [hc1, hc2] at h
      have hd : dstOf ops i = o.dst := by unfold dstOf; rw [ho]; rfl
      rw [hd] at h
      exact h
    have hnext : ∀ x y, x < ops.size → upd L i x = true → waitsB ops x y = true → upd L i y = true := by
      intro x y hx h1 h2
      unfold upd at h1 ⊢
      by_cases e : y = i
      · rw [if_pos e]
      · rw [if_neg e]
        by_cases e2 : x = i
        · subst e2; exact hw y h2
        · rw [if_neg e2] at h1; exact hL x y hx h1 h2
    by_cases hN : i ∈ N
    · obtain ⟨hg, hn⟩ := hnew i o hN ho
      obtain ⟨w2, hrun, hC2⟩ := hn L G w' hu hCw
      have hwant : Region.wanted o (yielded ops (actOf ops L (trG N base G) a).tmps) = true := by unfold Region.wanted; rw [hg]
      rw [if_pos hwant]
      have hNc : N.contains i = true := by simpa using hN
      obtain ⟨_, h2⟩ := place (updN' G i w'.heap.size)
      rw [if_pos hNc, trG_actOf N L G i w'.heap.size hu] at h2
      have hptr : ptrOf (updN' G i w'.heap.size) i = .pointer (some ⟨w'.heap.size, 0, none⟩) := by simp [ptrOf, updN']
      rw [hptr] at h2
      unfold Oper.wp
      rw [hrun]
      simp only [Oper.upon]
      exact hK _ _ ⟨hnext, _, hC2, h2.symm⟩
    · have hNc : ¬ N.contains i = true := by simpa using hN
      obtain ⟨hsee, h2⟩ := place G
      rw [if_neg hNc] at h2
      obtain ⟨o', ho', hst⟩ := hstep pre i v post hbase hN G
      rw [ho] at ho'
      injection ho' with ho'
      subst ho'
      rcases hst with ⟨h3, rfl, h4⟩ | ⟨h3, hM, h4⟩ | ⟨h3, hM, hpl, h4⟩
      · rw [hsee.2, if_neg (by rw [h3]; exact Bool.false_ne_true)]
        refine hK _ _ ⟨hnext, G, ?_, h2.symm⟩
        by_cases hM : i ∈ M
        · exact h4 hM L G w' rfl hu hCw
        · exact hC i hM hN L G w' hCw
      · rw [hsee.2, if_pos h3]
        have hmv := h4 L G w' rfl hu (fun j hj => by
          have := hanc j (by simpa using hj)
          simp only [Bool.and_eq_true] at this
          exact this.1) hCw
        exact hmv.wp hsee.1 (fun w2 hC2 => hK _ _ ⟨hnext, G, hC2, h2.symm⟩)
      · rw [hsee.2, if_pos h3]
        have hq := h4 w' ⟨⟨L, G, w', hCw⟩, rfl⟩
        unfold Oper.wp
        rw [hsee.1]
        unfold Oper.quietAt at hq
        rcases plain_runs hpl (actOf ops (fun _ => true) (trG N pre G) a).eval w' with ⟨u, w2, hr⟩ | ⟨x, w2, hr⟩
        · rw [hr] at hq ⊢
          simp only [Oper.quietUpon] at hq
          obtain ⟨e1, e2⟩ := hq
          subst e1 e2
          simp only [Oper.upon]
          exact hK _ _ ⟨hnext, G, hC i hM hN L G _ hCw, h2.symm⟩
        · rw [hr] at hq
          simp only [Oper.quietUpon] at hq
  · rintro b w' L hL ⟨_, G, hCw, rfl⟩
    have : actOf ops L (trG N base G) a = actOf ops (fun _ => true) (trG N base G) a := actOf_congr _ _ _ _ (fun e he => by
      have hm1 : e.1 ∈ (trG N base G).map (·.1) := List.mem_map.2 ⟨e, he, rfl⟩
      rw [trG_fst] at hm1
      obtain ⟨e', he', e1⟩ := List.mem_map.1 hm1
      rw [← e1]
      exact hL _ (hlt e' he'))
    rw [this]
    exact hfin L G w' hL hCw

/-! The walk -/
section
variable (P ops) (T : List (List Nat)) (C : (Nat → Bool) → (Nat → Nat) → World → Prop)
/-- A mover: it may change the class. -/
def MoverStep (m : Nat) (a : Act) (K : Act → Prop) : Prop :=
  ∃ o, ops[m]? = some o ∧
    ((Region.wanted o (yielded ops a.tmps) = true ∧ ∃ v, (∀ L G w, L m = false → (∀ j, (T.getD m []).contains j = true → L j = true) → C L G w → Moves P o a w v (C (upd L m) G)) ∧ K (a.put o.dst v)) ∨
     (Region.wanted o (yielded ops a.tmps) = false ∧ (∀ L G w, L m = false → C L G w → C (upd L m) G w) ∧ K (a.put o.dst undef)))
/-- Pieces of the text (from, how many), each with a mover behind it or none. -/
def walkI : List (Nat × Nat × Option Nat) → Act → (Act → Prop) → Prop
  | [], a, fin => fin a
  | (lo, n, none) :: r, a, fin => wpQuiet P ops (fun w' => ∃ g : UW C, w' = g.world) (fun b => walkI r b fin) ((ops.toList.drop lo).take n) a
  | (lo, n, some m) :: r, a, fin => wpQuiet P ops (fun w' => ∃ g : UW C, w' = g.world) (fun b => MoverStep P ops T C m b (fun c => walkI r c fin)) ((ops.toList.drop lo).take n) a
/-- A store into a new block. -/
def StoreStep (s : Nat) (b : Act) (G : Nat → Nat) : Prop :=
  ∃ o, ops[s]? = some o ∧ ∀ L w, L s = false → (∀ j, (T.getD s []).contains j = true → L j = true) → C L G w → Moves P o b w undef (C (upd L s) G)
def newsPut (G : Nat → Nat) : List Nat → Act → Act
  | [], a => a
  | q :: r, a => newsPut G r (a.put (dstOf ops q) (ptrOf G q))
end
def idxI : List (Nat × Nat × Option Nat) → List Nat
  | [] => []
  | (lo, n, none) :: r => (List.range n).map (lo + ·) ++ idxI r
  | (lo, n, some m) :: r => (List.range n).map (lo + ·) ++ m :: idxI r
def quietI : List (Nat × Nat × Option Nat) → List Nat
  | [] => []
  | (lo, n, _) :: r => (List.range n).map (lo + ·) ++ quietI r
def moversI : List (Nat × Nat × Option Nat) → List Nat
  | [] => []
  | (_, _, none) :: r => moversI r
  | (_, _, some m) :: r => m :: moversI r

theorem quiet_trace {T : List (List Nat)} {M : List Nat} {C : (Nat → Bool) → (Nat → Nat) → World → Prop} {K : Act → Prop} :
    ∀ (seg : List Oper) (lo : Nat) (a : Act), (∀ k, k < seg.length → seg[k]? = ops[lo + k]? ∧ (lo + k) ∉ M ∧ ∀ o, ops[lo + k]? = some o → plainB o = true) → wpQuiet P ops (fun w' => ∃ g : UW C, w' = g.world) K seg a →
    ∃ base : List (Nat × Value), base.map (·.1) = (List.range seg.length).map (lo + ·) ∧ (∀ pre i v post, base = pre ++ (i, v) :: post → StepOk P ops T C M (fun _ => True) i v (actOf ops (fun _ => true) pre a)) ∧ K (actOf ops (fun _ => true) base a)
  | [], lo, a, _, h => ⟨[], rfl, fun pre i v post e => by simp at e, h⟩
  | o :: seg, lo, a, hseg, h => by
    obtain ⟨h1, h2, h3⟩ := hseg 0 (by simp)
    have ho : ops[lo]? = some o := by simpa using h1.symm
    have hM : lo ∉ M := by simpa using h2
    have hpl : plainB o = true := h3 o (by simpa using ho)
    have hd : dstOf ops lo = o.dst := by unfold dstOf; rw [ho]; rfl
    have key : ∀ v, StepOk P ops T C M (fun _ => True) lo v a → wpQuiet P ops (fun w' => ∃ g : UW C, w' = g.world) K seg (a.put o.dst v) →
        ∃ base : List (Nat × Value), base.map (·.1) = (List.range (o :: seg).length).map (lo + ·) ∧ (∀ pre i v post, base = pre ++ (i, v) :: post → StepOk P ops T C M (fun _ => True) i v (actOf ops (fun _ => true) pre a)) ∧ K (actOf ops (fun _ => true) base a) := by
      intro v hst hrest
      obtain ⟨base, hb1, hb2, hb3⟩ := quiet_trace (T := T) (M := M) seg (lo + 1) _ (fun k hk => by
        have := hseg (k + 1) (by simp; omega)
        have e : lo + (k + 1) = lo + 1 + k := by omega
        rw [e] at this
        simpa using this) hrest
      refine ⟨(lo, v) :: base, ?_, ?_, ?_⟩
      · simp only [List.map_cons, hb1, List.length_cons, List.range_succ_eq_map, List.map_map]
        congr 1
        refine List.map_congr_left fun k _ => ?_
        simp only [Function.comp]
        omega
      · intro pre i u post he
        cases pre with
        | nil =>
          simp only [List.nil_append, List.cons.injEq, Prod.mk.injEq] at he
          obtain ⟨⟨rfl, rfl⟩, rfl⟩ := he
          exact hst
        | cons e pre =>
          simp only [List.cons_append, List.cons.injEq] at he
          obtain ⟨rfl, he⟩ := he
          simp only [actOf, if_true, hd]
          exact hb2 pre i u post he
      · simp only [actOf, if_true, hd]
        exact hb3
    unfold wpQuiet at h
    by_cases hw : Region.wanted o (yielded ops a.tmps) = true
    · rw [if_pos hw] at h
      obtain ⟨v, hv, hk⟩ := h
      exact key v ⟨o, ho, .inr (.inr ⟨hw, hM, hpl, hv⟩)⟩ hk
    · rw [if_neg hw] at h
      exact key undef ⟨o, ho, .inl ⟨by simpa using hw, rfl, fun hm => absurd hm hM⟩⟩ h

theorem walk_trace {T : List (List Nat)} {M : List Nat} {C : (Nat → Bool) → (Nat → Nat) → World → Prop} {fin : Act → Prop} :
    ∀ (items : List (Nat × Nat × Option Nat)) (a : Act), (∀ i ∈ quietI items, i ∉ M ∧ i < ops.size ∧ ∀ o, ops[i]? = some o → plainB o = true) → (∀ i ∈ moversI items, i ∈ M) → walkI P ops T C items a fin →
    ∃ base : List (Nat × Value), base.map (·.1) = idxI items ∧ (∀ pre i v post, base = pre ++ (i, v) :: post → StepOk P ops T C M (fun _ => True) i v (actOf ops (fun _ => true) pre a)) ∧ fin (actOf ops (fun _ => true) base a)
  | [], a, _, _, h => ⟨[], rfl, fun pre i v post e => by simp at e, h⟩
  | (lo, n, om) :: r, a, hq, hmv, h => by
    have hlen : ∀ k, k < n → lo + k < ops.size := fun k hk => (hq (lo + k) (by simp only [quietI, List.mem_append, List.mem_map, List.mem_range]; exact .inl ⟨k, hk, rfl⟩)).2.1
    have hseglen : ((ops.toList.drop lo).take n).length = n := by
      simp only [List.length_take, List.length_drop, Array.length_toList]
      rcases Nat.eq_zero_or_pos n with h0 | h0
      · omega
      · have := hlen (n - 1) (by omega); omega
    have hsg : ∀ k, k < ((ops.toList.drop lo).take n).length → ((ops.toList.drop lo).take n)[k]? = ops[lo + k]? ∧ (lo + k) ∉ M ∧ ∀ o, ops[lo + k]? = some o → plainB o = true := fun k hk => by
      rw [hseglen] at hk
      have := hq (lo + k) (by simp only [quietI, List.mem_append, List.mem_map, List.mem_range]; exact .inl ⟨k, hk, rfl⟩)
      exact ⟨by simp [hk], this.1, this.2.2⟩
    have hq' : ∀ i ∈ quietI r, i ∉ M ∧ i < ops.size ∧ ∀ o, ops[i]? = some o → plainB o = true := fun i hi => hq i (by simp only [quietI, List.mem_append]; exact .inr hi)
    have glue : ∀ (b1 b2 : List (Nat × Value)), (∀ pre i v post, b1 = pre ++ (i, v) :: post → StepOk P ops T C M (fun _ => True) i v (actOf ops (fun _ => true) pre a)) → (∀ pre i v post, b2 = pre ++ (i, v) :: post → StepOk P ops T C M (fun _ => True) i v (actOf ops (fun _ => true) pre (actOf ops (fun _ => true) b1 a))) →
        ∀ pre i v post, b1 ++ b2 = pre ++ (i, v) :: post → StepOk P ops T C M (fun _ => True) i v (actOf ops (fun _ => true) pre a) := by
      intro b1 b2 h1 h2 pre i v post he
      rcases List.append_eq_append_iff.1 he with ⟨c, hc1, hc2⟩ | ⟨c, hc1, hc2⟩
      · subst hc1
        rw [actOf_append]
        exact h2 c i v post hc2
      · cases c with
        | nil =>
          simp only [List.append_nil] at hc1
          subst hc1
          exact h2 [] i v post (by simpa using hc2.symm)
        | cons e c =>
          simp only [List.cons_append, List.cons.injEq] at hc2
          obtain ⟨rfl, rfl⟩ := hc2
          exact h1 pre i v c hc1
    cases om with
    | none =>
      simp only [walkI] at h
      obtain ⟨b1, e1, s1, k1⟩ := quiet_trace (T := T) (M := M) _ lo a hsg h
      obtain ⟨b2, e2, s2, k2⟩ := walk_trace r _ hq' (fun i hi => hmv i (by simpa [moversI] using hi)) k1
      rw [hseglen] at e1
      exact ⟨b1 ++ b2, by rw [List.map_append, e1, e2]; rfl, glue b1 b2 s1 s2, by rw [actOf_append]; exact k2⟩
    | some m =>
      simp only [walkI] at h
      obtain ⟨b1, e1, s1, k1⟩ := quiet_trace (T := T) (M := M) _ lo a hsg h
      obtain ⟨o, ho, hst⟩ := k1
      have hd : dstOf ops m = o.dst := by unfold dstOf; rw [ho]; rfl
      have hmM : m ∈ M := hmv m (by simp [moversI])
      have fini : ∀ v, StepOk P ops T C M (fun _ => True) m v (actOf ops (fun _ => true) b1 a) → walkI P ops T C r ((actOf ops (fun _ => true) b1 a).put o.dst v) fin →
          ∃ base : List (Nat × Value), base.map (·.1) = idxI ((lo, n, some m) :: r) ∧ (∀ pre i v post, base = pre ++ (i, v) :: post → StepOk P ops T C M (fun _ => True) i v (actOf ops (fun _ => true) pre a)) ∧ fin (actOf ops (fun _ => true) base a) := by
        intro v hs hw
        obtain ⟨b2, e2, s2, k2⟩ := walk_trace r _ hq' (fun i hi => hmv i (by simp [moversI, hi])) hw
        rw [hseglen] at e1
        have s3 : ∀ pre i u post, (m, v) :: b2 = pre ++ (i, u) :: post → StepOk P ops T C M (fun _ => True) i u (actOf ops (fun _ => true) pre (actOf ops (fun _ => true) b1 a)) := by
          intro pre i u post he
          cases pre with
          | nil =>
            simp only [List.nil_append, List.cons.injEq, Prod.mk.injEq] at he
            obtain ⟨⟨rfl, rfl⟩, rfl⟩ := he
            exact hs
          | cons e pre =>
            simp only [List.cons_append, List.cons.injEq] at he
            obtain ⟨rfl, he⟩ := he
            simp only [actOf, if_true, hd]
            exact s2 pre i u post he
        refine ⟨b1 ++ (m, v) :: b2, by rw [List.map_append, List.map_cons, e1, e2]; rfl, glue b1 _ s1 s3, ?_⟩
        rw [actOf_append]
        simp only [actOf, if_true, hd]
        exact k2
      rcases hst with ⟨hw, v, hv, hk⟩ | ⟨hw, hv, hk⟩
      · exact fini v ⟨o, ho, .inr (.inl ⟨hw, hmM, fun L G w _ => hv L G w⟩)⟩ hk
      · exact fini undef ⟨o, ho, .inl ⟨hw, rfl, fun _ L G w _ => hv L G w⟩⟩ hk

def ordB (ops : Array Oper) (items : List (Nat × Nat × Option Nat)) (N S : List Nat) : Bool :=
  earlierB ops && Region.noSelect ops && ancOk ops (ancTab ops) && pairsB ops (ancTab ops) (idxI items ++ (N ++ S)) &&
  ((List.range ops.size).all fun i => (idxI items ++ (N ++ S)).contains i) && ((idxI items ++ (N ++ S)).all fun i => decide (i < ops.size)) &&
  ((quietI items).all fun i => !(moversI items).contains i && !S.contains i && (((ops[i]?).map plainB).getD true)) &&
  (N.all fun q => ((ops[q]?).map fun o => o.guard.isNone).getD false) && (S.all fun s => ((ops[s]?).map fun o => o.guard.isNone && o.dst.isNone).getD false)

theorem pairs_apart {T : List (List Nat)} : ∀ {A B : List Nat}, pairsB ops T (A ++ B) = true → ∀ i ∈ A, ∀ j ∈ B, i ≠ j
  | [], _, _ => fun i hi => by cases hi
  | k :: A, B, h => by
    simp only [List.cons_append, pairsB, Bool.and_eq_true, List.all_eq_true] at h
    intro i hi j hj
    rcases List.mem_cons.1 hi with rfl | hi
    · have := h.1 j (by simp [hj])
      simp only [bne_iff_ne, ne_eq] at this
      exact this.1
    · exact pairs_apart h.2 i hi j hj
theorem StepOk.mono {T : List (List Nat)} {M : List Nat} {C : (Nat → Bool) → (Nat → Nat) → World → Prop} {Γ : (Nat → Nat) → Prop} {i : Nat} {v : Value} {a : Act} (h : StepOk P ops T C M (fun _ => True) i v a) : StepOk P ops T C M Γ i v a := by
  obtain ⟨o, ho, h⟩ := h
  refine ⟨o, ho, ?_⟩
  rcases h with ⟨h1, h2, h3⟩ | ⟨h1, h2, h3⟩ | h
  · exact .inl ⟨h1, h2, fun hm L G w _ => h3 hm L G w trivial⟩
  · exact .inr (.inl ⟨h1, h2, fun L G w _ => h3 L G w trivial⟩)
  · exact .inr (.inr h)
theorem trG_none (N : List Nat) (G : Nat → Nat) : ∀ (base : List (Nat × Value)), (∀ e ∈ base, e.1 ∉ N) → trG N base G = base
  | [], _ => rfl
  | e :: r, h => by
    have ih := trG_none N G r (fun x hx => h x (List.mem_cons_of_mem _ hx))
    unfold trG at ih ⊢
    rw [List.map_cons, ih]
    have := h e List.mem_cons_self
    simp [this]
theorem trG_append (N : List Nat) (G : Nat → Nat) (b1 b2 : List (Nat × Value)) : trG N (b1 ++ b2) G = trG N b1 G ++ trG N b2 G := by simp [trG]
theorem news_act (N0 : List Nat) (G : Nat → Nat) : ∀ (N : List Nat) (b : Act), (∀ q ∈ N, q ∈ N0) → actOf ops (fun _ => true) (trG N0 (N.map fun q => (q, undef)) G) b = newsPut ops G N b
  | [], _, _ => rfl
  | q :: r, b, h => by
    have ih := fun c => news_act N0 G r c (fun x hx => h x (List.mem_cons_of_mem _ hx))
    have hq : N0.contains q = true := by simpa using h q List.mem_cons_self
    unfold trG at ih ⊢
    simp only [List.map_cons, hq, if_true, actOf, newsPut]
    exact ih _
theorem stores_act (N : List Nat) (G : Nat → Nat) : ∀ (S : List Nat) (b : Act), (∀ s ∈ S, dstOf ops s = none) → actOf ops (fun _ => true) (trG N (S.map fun q => (q, undef)) G) b = b
  | [], _, _ => rfl
  | q :: r, b, h => by
    have ih := fun c => stores_act N G r c (fun x hx => h x (List.mem_cons_of_mem _ hx))
    have hq := h q List.mem_cons_self
    unfold trG at ih ⊢
    simp only [List.map_cons]
    split
    · simp only [actOf, if_true, hq]
      exact ih _
    · simp only [actOf, if_true, hq]
      exact ih _

theorem split_at {α : Type} : ∀ (X Y pre post : List α) (x : α), X ++ Y = pre ++ x :: post → (∃ c, X = pre ++ x :: c) ∨ (∃ d, pre = X ++ d ∧ Y = d ++ x :: post)
  | [], Y, pre, post, x, h => .inr ⟨pre, rfl, h⟩
  | y :: X, Y, [], post, x, h => by
    simp only [List.cons_append, List.nil_append, List.cons.injEq] at h
    obtain ⟨rfl, _⟩ := h
    exact .inl ⟨X, rfl⟩
  | y :: X, Y, z :: pre, post, x, h => by
    simp only [List.cons_append, List.cons.injEq] at h
    obtain ⟨rfl, h⟩ := h
    rcases split_at X Y pre post x h with ⟨c, hc⟩ | ⟨d, h1, h2⟩
    · exact .inl ⟨c, by rw [hc]; rfl⟩
    · exact .inr ⟨d, by rw [h1]; rfl, h2⟩
/-- THE LAW, by a walk. -/
theorem wp_region_ord {id : Nat} {Q : Exit → Act → World → Prop} {a : Act} {w : World} {l : List Oper} (items : List (Nat × Nat × Option Nat)) (N S : List Nat) (C : (Nat → Bool) → (Nat → Nat) → World → Prop) (G0 : Nat → Nat)
    (hm : P.follows .mixedOrders = true) (hB : ordB l.toArray items N S = true)
    (hC : ∀ i, i ∉ moversI items ++ (N ++ S) → ∀ L G w, C L G w → C (upd L i) G w) (h0 : C (fun _ => false) G0 w.drew)
    (hnew : ∀ q, q ∈ N → ∀ L G w, L q = false → C L G w → ∃ w', (∀ (b : Act) (o : Oper), l[q]? = some o → (execOp b.eval o).run P w = .ok (.value (.pointer (some ⟨w.heap.size, 0, none⟩))) w') ∧ C (upd L q) (updN' G q w.heap.size) w')
    (hwalk : Nonempty (UW C) → walkI P l.toArray (ancTab l.toArray) C items a (fun b => ∀ G, (∀ s, s ∈ S → StoreStep P l.toArray (ancTab l.toArray) C s (newsPut l.toArray G N b) G) ∧ ∀ L w, (∀ j, j < l.length → L j = true) → C L G w → Q .normal (newsPut l.toArray G N b) w)) :
    (Code.region id l.toArray true).wp P Q a w := by
  simp only [ordB, Bool.and_eq_true] at hB
  obtain ⟨⟨⟨⟨⟨⟨⟨⟨hE, hsel⟩, hT⟩, hp⟩, hall⟩, hlt⟩, hq⟩, hN⟩, hS⟩ := hB
  have hq' : ∀ i ∈ quietI items, i ∉ moversI items ++ S ∧ i < l.toArray.size ∧ ∀ o, l.toArray[i]? = some o → plainB o = true := by
    intro i hi
    have h1 := List.all_eq_true.1 hq i hi
    simp only [Bool.and_eq_true, Bool.not_eq_true', List.contains_eq_mem, decide_eq_false_iff_not] at h1
    have hidx : i ∈ idxI items := by
      have : ∀ (its : List (Nat × Nat × Option Nat)), i ∈ quietI its → i ∈ idxI its := by
        intro its
        induction its with
        | nil => intro h; cases h
        | cons e r ih =>
          obtain ⟨lo, n, om⟩ := e
          intro h
          simp only [quietI, List.mem_append] at h
          cases om <;> simp only [idxI, List.mem_append, List.mem_cons]
          · rcases h with h | h
            · exact .inl h
            · exact .inr (ih h)
          · rcases h with h | h
            · exact .inl h
            · exact .inr (.inr (ih h))
      exact this items hi
    have h2 := List.all_eq_true.1 hlt i (by simp [hidx])
    refine ⟨by simp [h1.1.1, h1.1.2], by simpa using h2, fun o ho => ?_⟩
    have := h1.2
    rw [ho] at this
    simpa using this
  obtain ⟨baseA, e1, s1, k1⟩ := walk_trace (M := moversI items ++ S) items a hq' (fun i hi => by simp [hi]) (hwalk ⟨⟨_, G0, _, h0⟩⟩)
  have hAN : ∀ i ∈ idxI items, i ∉ N := fun i hi hn => pairs_apart hp i hi i (by simp [hn]) rfl
  have hAb : ∀ e ∈ baseA, e.1 ∉ N := fun e he => hAN e.1 (by rw [← e1]; exact List.mem_map.2 ⟨e, he, rfl⟩)
  have hpNS : pairsB l.toArray (ancTab l.toArray) (N ++ S) = true := by
    have : ∀ (A B : List Nat), pairsB l.toArray (ancTab l.toArray) (A ++ B) = true → pairsB l.toArray (ancTab l.toArray) B = true := by
      intro A B
      induction A with
      | nil => intro h; exact h
      | cons x A ih => intro h; simp only [List.cons_append, pairsB, Bool.and_eq_true] at h; exact ih h.2
    exact this _ _ hp
  have hNS : ∀ q ∈ N, ∀ s ∈ S, q ≠ s := pairs_apart hpNS
  have hSd : ∀ s ∈ S, dstOf l.toArray s = none := by
    intro s hs
    have := List.all_eq_true.1 hS s hs
    unfold dstOf
    cases ho : l.toArray[s]? with
    | none => rfl
    | some o =>
      rw [ho] at this
      simp only [Option.map_some, Option.getD_some, Bool.and_eq_true, Option.isNone_iff_eq_none] at this
      simp [this.2]
  have hmapN : (N.map fun q => ((q, undef) : Nat × Value)).map (·.1) = N := by rw [List.map_map]; simp [Function.comp_def]
  have hmapS : (S.map fun q => ((q, undef) : Nat × Value)).map (·.1) = S := by rw [List.map_map]; simp [Function.comp_def]
  have hfst : (baseA ++ ((N.map fun q => ((q, undef) : Nat × Value)) ++ (S.map fun q => ((q, undef) : Nat × Value)))).map (·.1) = idxI items ++ (N ++ S) := by
    rw [List.map_append, List.map_append, e1, hmapN, hmapS]
  refine wp_region_trace (ancTab l.toArray) (moversI items ++ S) N C (baseA ++ ((N.map fun q => (q, undef)) ++ (S.map fun q => (q, undef)))) G0 hm hE hT (fun i o ho cs b => Region.noSelect_spec hsel i o cs b ho) (by rw [hfst]; exact hp) ?_ ?_ ?_ h0 ?_ ?_ ?_
  · intro e he
    have : e.1 ∈ idxI items ++ (N ++ S) := by rw [← hfst]; exact List.mem_map.2 ⟨e, he, rfl⟩
    simpa using List.all_eq_true.1 hlt e.1 this
  · intro i hi
    have := List.all_eq_true.1 hall i (List.mem_range.2 hi)
    have hm2 : i ∈ idxI items ++ (N ++ S) := by simpa using this
    rw [← hfst] at hm2
    obtain ⟨e, he, rfl⟩ := List.mem_map.1 hm2
    exact ⟨e.2, he⟩
  · intro i h1 h2 L G w hc
    refine hC i (fun hm2 => ?_) L G w hc
    rcases List.mem_append.1 hm2 with h | h
    · exact h1 (by simp [h])
    · rcases List.mem_append.1 h with h | h
      · exact h2 h
      · exact h1 (by simp [h])
  · intro q o hqN ho
    have := List.all_eq_true.1 hN q hqN
    rw [ho] at this
    simp only [Option.map_some, Option.getD_some, Option.isNone_iff_eq_none] at this
    refine ⟨this, fun L G w hu hc => ?_⟩
    obtain ⟨w', h1, h2⟩ := hnew q hqN L G w hu hc
    exact ⟨w', fun b => h1 b o (by simpa using ho), h2⟩
  · intro pre i v post he hiN G
    rcases split_at _ _ _ _ _ he with ⟨c, hc⟩ | ⟨d0, rfl, he2⟩
    · have hpreN : ∀ x ∈ pre, x.1 ∉ N := fun x hx => hAb x (by rw [hc]; simp [hx])
      rw [trG_none N G pre hpreN]
      exact (s1 pre i v c hc).mono
    · rcases split_at _ _ _ _ _ he2 with ⟨c, hc⟩ | ⟨d, rfl, hd2⟩
      · exfalso
        have hm2 : (i, v) ∈ N.map fun q => ((q, undef) : Nat × Value) := by rw [hc]; simp
        obtain ⟨x, hx, hx2⟩ := List.mem_map.1 hm2
        simp only [Prod.mk.injEq] at hx2
        rw [← hx2.1] at hiN
        exact hiN hx
      · skip
        have hdS : ∃ S1 S2, S = S1 ++ i :: S2 ∧ d = S1.map fun q => (q, undef) := by
          rw [List.map_eq_append_iff] at hd2
          obtain ⟨S1, S2, e3, e4, e5⟩ := hd2
          rw [List.map_eq_cons_iff] at e5
          obtain ⟨x, S3, e6, e7, e8⟩ := e5
          simp only [Prod.mk.injEq] at e7
          obtain ⟨rfl, _⟩ := e7
          exact ⟨S1, S3, by rw [e3, e6], e4.symm⟩
        have hv : v = undef := by
          have hm2 : (i, v) ∈ S.map fun q => ((q, undef) : Nat × Value) := by rw [hd2]; simp
          obtain ⟨x, _, hx⟩ := List.mem_map.1 hm2
          simp only [Prod.mk.injEq] at hx
          exact hx.2.symm
        subst hv
        obtain ⟨S1, S2, hS12, rfl⟩ := hdS
        have hiS : i ∈ S := by rw [hS12]; simp
        rw [trG_append, trG_append, actOf_append, actOf_append, trG_none N G baseA hAb, news_act N G N _ (fun _ h => h), stores_act N G S1 _ (fun s hs => hSd s (by rw [hS12]; simp [hs]))]
        obtain ⟨hst, _⟩ := k1 G
        obtain ⟨o, ho, hmv⟩ := hst i hiS
        have hg := List.all_eq_true.1 hS i hiS
        rw [ho] at hg
        simp only [Option.map_some, Option.getD_some, Bool.and_eq_true, Option.isNone_iff_eq_none] at hg
        refine ⟨o, ho, .inr (.inl ⟨by unfold Region.wanted; rw [hg.1], by simp [hiS], fun L G' w hG hu hd hc => ?_⟩)⟩
        subst hG
        exact hmv L w hu hd hc
  · intro L G w hL hc
    rw [trG_append, trG_append, actOf_append, actOf_append, trG_none N G baseA hAb, news_act N G N _ (fun _ h => h), stores_act N G S _ hSd]
    exact (k1 G).2 L w (fun j hj => hL j (by simpa using hj)) hc
end
end Go.Proofs.YtbibgffgljojgaaDoor
