/- A region that draws its order and holds calls, stores and new blocks, whose values may hang on the order: one walk, in an order of one's own choice, at whatever values, serves every order. No condition. -/
import Derived.Test.YtbibgffgljojgaaDoorOrd
namespace Go.Proofs.YtbibgffgljojgaaDoor
open Go.RowKit

section
variable {P : Program} {ops : Array Oper}
def upF (G : Nat → Value) (k : Nat) (x : Value) : Nat → Value := fun i => if i = k then x else G i
theorem upF_same (G : Nat → Value) (k : Nat) (x : Value) : upF G k x k = x := by simp [upF]
theorem upF_ne (G : Nat → Value) {k i : Nat} (x : Value) (h : i ≠ k) : upF G k x i = G i := by simp [upF, h]
/-- In w operation o, its operands as in a, yields some v, and a world, of which R. -/
def movesToUpon (P : Program) (R : Value → World → Prop) : Result Next → Prop
  | .ok (.value u) w' => R u w'
  | .ok .skip w' => R undef w'
  | .ok (.enter f args) w' => Calls P f args w' (fun e w'' => ∃ v, e = .returned v ∧ R v w'')
  | _ => False
structure MovesTo (P : Program) (o : Oper) (a : Act) (w : World) (R : Value → World → Prop) : Prop where
  run : movesToUpon P R ((execOp a.eval o).run P w)
theorem MovesTo.wp {o : Oper} {a : Act} {w : World} {R : Value → World → Prop} (h : MovesTo P o a w R) {K : Act → World → Prop} {Q : Exit → Act → World → Prop} {b : Act} (hab : execOp b.eval o = execOp a.eval o) (hK : ∀ v w', R v w' → K (b.put o.dst v) w') : Oper.wp P o b w K Q := by
  have h := h.run
  unfold Oper.wp
  rw [hab]
  generalize (execOp a.eval o).run P w = r at *
  cases r with
  | ok n w' =>
    cases n <;> simp only [movesToUpon] at h <;> simp only [Oper.upon]
    case value u => exact hK _ _ h
    case skip => exact hK _ _ h
    case enter f args => exact h.mono fun e w'' ⟨v, he, hw''⟩ => by subst he; exact hK _ _ hw''
  | halt x w' => simp only [movesToUpon] at h
/-- A world of the class. -/
structure UWF (C : (Nat → Bool) → (Nat → Value) → World → Prop) where
  L : Nat → Bool
  G : Nat → Value
  world : World
  holds : C L G world

section
variable (P ops) (T : List (List Nat)) (C : (Nat → Bool) → (Nat → Value) → World → Prop) (Γ : Nat → Value → Prop)
/-- What is shown of operation i in the canonical order, in state a, at the values G. -/
def StepF (M : List Nat) (G : Nat → Value) (i : Nat) (v : Value) (a : Act) : Prop :=
  ∃ o, ops[i]? = some o ∧
    ((Region.wanted o (yielded ops a.tmps) = false ∧ v = undef ∧ (i ∈ M → ∀ L w, L i = false → C L G w → C (upd L i) G w)) ∨
     (Region.wanted o (yielded ops a.tmps) = true ∧ i ∈ M ∧ v = G i ∧ ∀ L w, L i = false → (∀ j, (T.getD i []).contains j = true → L j = true) → C L G w → MovesTo P o a w fun v w' => Γ i v ∧ C (upd L i) (upF G i v) w') ∨
     (Region.wanted o (yielded ops a.tmps) = true ∧ i ∉ M ∧ plainB o = true ∧ ∀ w, (∃ g : UWF C, w = g.world) → o.quietAt P a (fun w' => ∃ g : UWF C, w' = g.world) w v))
/-- On behind an operation that has yielded v: as an assignment of v, so that the walk of quiet operations writes the frame out. -/
def FreeOn (dst : Option Tmp) (type : TypeId) (pos : String) (v : Value) (a : Act) (K : Act → Prop) : Prop :=
  ∀ K' : Act → Prop, (∀ b, K b → K' b) → Oper.quiet P ⟨dst, .assign (.const v), type, pos, #[], none⟩ a (fun _ => True) K'
/-- An operation of a value of its own: it may change the class. -/
def FreeStep (G : Nat → Value) (m : Nat) (a : Act) (K : Act → Prop) : Prop :=
  ∃ dst op type pos after guard, ops[m]? = some ⟨dst, op, type, pos, after, guard⟩ ∧
    ((Region.wanted ⟨dst, op, type, pos, after, guard⟩ (yielded ops a.tmps) = true ∧ (∀ L w, L m = false → (∀ j, (T.getD m []).contains j = true → L j = true) → C L G w → MovesTo P ⟨dst, op, type, pos, after, guard⟩ a w fun v w' => Γ m v ∧ C (upd L m) (upF G m v) w') ∧ FreeOn P dst type pos (G m) a K) ∨
     (Region.wanted ⟨dst, op, type, pos, after, guard⟩ (yielded ops a.tmps) = false ∧ (∀ L w, L m = false → C L G w → C (upd L m) G w) ∧ FreeOn P dst type pos undef a K))
/-- Pieces of the text (from, how many), each with an operation of a value of its own behind it or none. -/
def walkF (G : Nat → Value) : List (Nat × Nat × Option Nat) → Act → (Act → Prop) → Prop
  | [], a, fin => fin a
  | (lo, n, none) :: r, a, fin => wpQuiet P ops (fun w' => ∃ g : UWF C, w' = g.world) (fun b => walkF G r b fin) ((ops.toList.drop lo).take n) a
  | (lo, n, some m) :: r, a, fin => wpQuiet P ops (fun w' => ∃ g : UWF C, w' = g.world) (fun b => FreeStep P ops T C Γ G m b (fun c => walkF G r c fin)) ((ops.toList.drop lo).take n) a
end
theorem quiet_traceF {T : List (List Nat)} {M : List Nat} {C : (Nat → Bool) → (Nat → Value) → World → Prop} {Γ : Nat → Value → Prop} {G : Nat → Value} {K : Act → Prop} :
    ∀ (seg : List Oper) (lo : Nat) (a : Act), (∀ k, k < seg.length → seg[k]? = ops[lo + k]? ∧ (lo + k) ∉ M ∧ ∀ o, ops[lo + k]? = some o → plainB o = true) → wpQuiet P ops (fun w' => ∃ g : UWF C, w' = g.world) K seg a →
    ∃ base : List (Nat × Value), base.map (·.1) = (List.range seg.length).map (lo + ·) ∧ (∀ pre i v post, base = pre ++ (i, v) :: post → StepF P ops T C Γ M G i v (actOf ops (fun _ => true) pre a)) ∧ K (actOf ops (fun _ => true) base a)
  | [], lo, a, _, h => ⟨[], rfl, fun pre i v post e => by simp at e, h⟩
  | o :: seg, lo, a, hseg, h => by
    obtain ⟨h1, h2, h3⟩ := hseg 0 (by simp)
    have ho : ops[lo]? = some o := by simpa using h1.symm
    have hM : lo ∉ M := by simpa using h2
    have hpl : plainB o = true := h3 o (by simpa using ho)
    have hd : dstOf ops lo = o.dst := by unfold dstOf; rw [ho]; rfl
    have key : ∀ v, StepF P ops T C Γ M G lo v a → wpQuiet P ops (fun w' => ∃ g : UWF C, w' = g.world) K seg (a.put o.dst v) →
        ∃ base : List (Nat × Value), base.map (·.1) = (List.range (o :: seg).length).map (lo + ·) ∧ (∀ pre i v post, base = pre ++ (i, v) :: post → StepF P ops T C Γ M G i v (actOf ops (fun _ => true) pre a)) ∧ K (actOf ops (fun _ => true) base a) := by
      intro v hst hrest
      obtain ⟨base, hb1, hb2, hb3⟩ := quiet_traceF (T := T) (M := M) seg (lo + 1) _ (fun k hk => by
        have := hseg (k + 1) (by simp; omega)
        have e : lo + (k + 1) = lo + 1 + k := by omega
        rw [e] at this
        simpa using this) hrest
      refine ⟨(lo, v) :: base, ?_, ?_, ?_⟩
      · simp only [List.map_cons, hb1, List.length_cons, List.range_succ_eq_map, List.map_map]
        congr 1
        refine List.map_congr_left fun k _ => ?_
        simp only [Function.comp]
        omega
      · intro pre i u post he
        cases pre with
        | nil =>
          simp only [List.nil_append, List.cons.injEq, Prod.mk.injEq] at he
          obtain ⟨⟨rfl, rfl⟩, rfl⟩ := he
          exact hst
        | cons e pre =>
          simp only [List.cons_append, List.cons.injEq] at he
          obtain ⟨rfl, he⟩ := he
          simp only [actOf, if_true, hd]
          exact hb2 pre i u post he
      · simp only [actOf, if_true, hd]
        exact hb3
    unfold wpQuiet at h
    by_cases hw : Region.wanted o (yielded ops a.tmps) = true
    · rw [if_pos hw] at h
      obtain ⟨v, hv, hk⟩ := h
      exact key v ⟨o, ho, .inr (.inr ⟨hw, hM, hpl, hv⟩)⟩ hk
    · rw [if_neg hw] at h
      exact key undef ⟨o, ho, .inl ⟨by simpa using hw, rfl, fun hm => absurd hm hM⟩⟩ h

theorem freeOn_put {dst : Option Tmp} {type : TypeId} {pos : String} {v : Value} {a : Act} {K : Act → Prop} (w : World) (h : FreeOn P dst type pos v a K) : K (a.put dst v) := by
  obtain ⟨u, hu, hk⟩ := h K (fun _ h => h)
  have h1 := hu w trivial
  unfold Oper.quietAt at h1
  have hr : (execOp a.eval (⟨dst, .assign (.const v), type, pos, #[], none⟩ : Oper)).run P w = .ok (.value (a.eval (.const v))) w := by simp [execOp]
  rw [hr] at h1
  obtain ⟨_, h2⟩ := h1
  have e0 : a.eval (.const v) = v := rfl
  rw [← e0, h2]; exact hk
theorem walk_traceF {T : List (List Nat)} {M : List Nat} {C : (Nat → Bool) → (Nat → Value) → World → Prop} {Γ : Nat → Value → Prop} {G : Nat → Value} {fin : Act → Prop} (hU : Nonempty (UWF C)) :
    ∀ (items : List (Nat × Nat × Option Nat)) (a : Act), (∀ i ∈ quietI items, i ∉ M ∧ i < ops.size ∧ ∀ o, ops[i]? = some o → plainB o = true) → (∀ i ∈ moversI items, i ∈ M) → walkF P ops T C Γ G items a fin →
    ∃ base : List (Nat × Value), base.map (·.1) = idxI items ∧ (∀ pre i v post, base = pre ++ (i, v) :: post → StepF P ops T C Γ M G i v (actOf ops (fun _ => true) pre a)) ∧ fin (actOf ops (fun _ => true) base a)
  | [], a, _, _, h => ⟨[], rfl, fun pre i v post e => by simp at e, h⟩
  | (lo, n, om) :: r, a, hq, hmv, h => by
    have hlen : ∀ k, k < n → lo + k < ops.size := fun k hk => (hq (lo + k) (by simp only [quietI, List.mem_append, List.mem_map, List.mem_range]; exact .inl ⟨k, hk, rfl⟩)).2.1
    have hseglen : ((ops.toList.drop lo).take n).length = n := by
      simp only [List.length_take, List.length_drop, Array.length_toList]
      rcases Nat.eq_zero_or_pos n with h0 | h0
      · omega
      · have := hlen (n - 1) (by omega); omega
    have hsg : ∀ k, k < ((ops.toList.drop lo).take n).length → ((ops.toList.drop lo).take n)[k]? = ops[lo + k]? ∧ (lo + k) ∉ M ∧ ∀ o, ops[lo + k]? = some o → plainB o = true := fun k hk => by
      rw [hseglen] at hk
      have := hq (lo + k) (by simp only [quietI, List.mem_append, List.mem_map, List.mem_range]; exact .inl ⟨k, hk, rfl⟩)
      exact ⟨by simp [hk], this.1, this.2.2⟩
    have hq' : ∀ i ∈ quietI r, i ∉ M ∧ i < ops.size ∧ ∀ o, ops[i]? = some o → plainB o = true := fun i hi => hq i (by simp only [quietI, List.mem_append]; exact .inr hi)
    have glue : ∀ (b1 b2 : List (Nat × Value)), (∀ pre i v post, b1 = pre ++ (i, v) :: post → StepF P ops T C Γ M G i v (actOf ops (fun _ => true) pre a)) → (∀ pre i v post, b2 = pre ++ (i, v) :: post → StepF P ops T C Γ M G i v (actOf ops (fun _ => true) pre (actOf ops (fun _ => true) b1 a))) →
        ∀ pre i v post, b1 ++ b2 = pre ++ (i, v) :: post → StepF P ops T C Γ M G i v (actOf ops (fun _ => true) pre a) := by
      intro b1 b2 h1 h2 pre i v post he
      rcases List.append_eq_append_iff.1 he with ⟨c, hc1, hc2⟩ | ⟨c, hc1, hc2⟩
      · subst hc1
        rw [actOf_append]
        exact h2 c i v post hc2
      · cases c with
        | nil =>
          simp only [List.append_nil] at hc1
          subst hc1
          exact h2 [] i v post (by simpa using hc2.symm)
        | cons e c =>
          simp only [List.cons_append, List.cons.injEq] at hc2
          obtain ⟨rfl, rfl⟩ := hc2
          exact h1 pre i v c hc1
    cases om with
    | none =>
      simp only [walkF] at h
      obtain ⟨b1, e1, s1, k1⟩ := quiet_traceF (T := T) (M := M) _ lo a hsg h
      obtain ⟨b2, e2, s2, k2⟩ := walk_traceF hU r _ hq' (fun i hi => hmv i (by simpa [moversI] using hi)) k1
      rw [hseglen] at e1
      exact ⟨b1 ++ b2, by rw [List.map_append, e1, e2]; rfl, glue b1 b2 s1 s2, by rw [actOf_append]; exact k2⟩
    | some m =>
      simp only [walkF] at h
      obtain ⟨b1, e1, s1, k1⟩ := quiet_traceF (T := T) (M := M) _ lo a hsg h
      obtain ⟨dst, op, type, pos, after, guard, ho, hst⟩ := k1
      have ho : ops[m]? = some (⟨dst, op, type, pos, after, guard⟩ : Oper) := ho
      obtain ⟨o, hoo⟩ : ∃ o : Oper, o = ⟨dst, op, type, pos, after, guard⟩ := ⟨_, rfl⟩
      have hod : o.dst = dst := by rw [hoo]
      rw [← hoo] at ho hst
      obtain ⟨U⟩ := hU
      have hU : Nonempty (UWF C) := ⟨U⟩
      have hd : dstOf ops m = o.dst := by unfold dstOf; rw [ho]; rfl
      have hmM : m ∈ M := hmv m (by simp [moversI])
      have fini : ∀ v, StepF P ops T C Γ M G m v (actOf ops (fun _ => true) b1 a) → walkF P ops T C Γ G r ((actOf ops (fun _ => true) b1 a).put o.dst v) fin →
          ∃ base : List (Nat × Value), base.map (·.1) = idxI ((lo, n, some m) :: r) ∧ (∀ pre i v post, base = pre ++ (i, v) :: post → StepF P ops T C Γ M G i v (actOf ops (fun _ => true) pre a)) ∧ fin (actOf ops (fun _ => true) base a) := by
        intro v hs hw
        obtain ⟨b2, e2, s2, k2⟩ := walk_traceF hU r _ hq' (fun i hi => hmv i (by simp [moversI, hi])) hw
        rw [hseglen] at e1
        have s3 : ∀ pre i u post, (m, v) :: b2 = pre ++ (i, u) :: post → StepF P ops T C Γ M G i u (actOf ops (fun _ => true) pre (actOf ops (fun _ => true) b1 a)) := by
          intro pre i u post he
          cases pre with
          | nil =>
            simp only [List.nil_append, List.cons.injEq, Prod.mk.injEq] at he
            obtain ⟨⟨rfl, rfl⟩, rfl⟩ := he
            exact hs
          | cons e pre =>
            simp only [List.cons_append, List.cons.injEq] at he
            obtain ⟨rfl, he⟩ := he
            simp only [actOf, if_true, hd]
            exact s2 pre i u post he
        refine ⟨b1 ++ (m, v) :: b2, by rw [List.map_append, List.map_cons, e1, e2]; rfl, glue b1 _ s1 s3, ?_⟩
        rw [actOf_append]
        simp only [actOf, if_true, hd]
        exact k2
      rcases hst with ⟨hw, hv, hk⟩ | ⟨hw, hv, hk⟩
      · exact fini (G m) ⟨o, ho, .inr (.inl ⟨hw, hmM, rfl, hv⟩)⟩ (by rw [hod]; exact freeOn_put U.world hk)
      · exact fini undef ⟨o, ho, .inl ⟨hw, rfl, fun _ => hv⟩⟩ (by rw [hod]; exact freeOn_put U.world hk)


/-- Alike as far as they are listed. -/
def agreeL (L : Nat → Bool) : List (Nat × Value) → List (Nat × Value) → Prop
  | [], [] => True
  | e :: l, e' :: l' => (e.1 = e'.1 ∧ (L e.1 = true → e.2 = e'.2)) ∧ agreeL L l l'
  | _, _ => False
theorem agree_act (L : Nat → Bool) : ∀ (l l' : List (Nat × Value)) (a : Act), agreeL L l l' → actOf ops L l a = actOf ops L l' a
  | [], [], _, _ => rfl
  | (i, v) :: l, (i', v') :: l', a, h => by
    simp only [agreeL] at h
    obtain ⟨⟨h1, h2⟩, h3⟩ := h
    subst h1
    simp only [actOf]
    by_cases hL : L i = true
    · rw [h2 hL]
      exact agree_act L l l' _ h3
    · rw [if_neg hL, if_neg hL]
      exact agree_act L l l' _ h3
  | [], _ :: _, _, h => h.elim
  | _ :: _, [], _, h => h.elim
theorem agree_snoc (L : Nat → Bool) (e e' : Nat × Value) (he : e.1 = e'.1 ∧ (L e.1 = true → e.2 = e'.2)) : ∀ (l l' : List (Nat × Value)), agreeL L l l' → agreeL L (l ++ [e]) (l' ++ [e'])
  | [], [], _ => ⟨he, trivial⟩
  | _ :: l, _ :: l', h => ⟨h.1, agree_snoc L e e' he l l' h.2⟩
  | [], _ :: _, h => h.elim
  | _ :: _, [], h => h.elim
theorem Rel.refl {o : Oper} {a : Act} : Rel ops o a a := fun _ => Sees.refl

/-- What an operation sees behind its forerunners hangs on the listed ones alone. -/
theorem sees_two {T : List (List Nat)} (hsel : ∀ (i : Nat) (o : Oper), ops[i]? = some o → ∀ cs b, o.op ≠ .select cs b) {L : Nat → Bool} {i : Nat} {o : Oper} (ho : ops[i]? = some o)
    (hanc : ∀ j, j ∈ T.getD i [] → L j = true) {pre pre' post : List (Nat × Value)} {v : Value} (hp : pairsB ops T ((pre ++ (i, v) :: post).map (·.1)) = true) (hlt : ∀ e ∈ pre, e.1 < ops.size)
    (hag : agreeL L pre pre') (hfst : pre'.map (·.1) = pre.map (·.1)) (a : Act) : Sees ops o (actOf ops (fun _ => true) pre a) (actOf ops (fun _ => true) pre' a) := by
  rw [List.map_append, List.map_cons] at hp
  obtain ⟨h1, _⟩ := pairs_split hp
  have key : ∀ (q : List (Nat × Value)), q.map (·.1) = pre.map (·.1) → ∀ e ∈ q, L e.1 = true ∨ Blind ops o (dstOf ops e.1) := by
    intro q hq e he
    have hm : e.1 ∈ pre.map (·.1) := by rw [← hq]; exact List.mem_map.2 ⟨e, he, rfl⟩
    obtain ⟨e', he', e1⟩ := List.mem_map.1 hm
    have hs : e.1 < ops.size := by rw [← e1]; exact hlt e' he'
    rcases (h1 e.1 hm).2 with h | h
    · exact .inl (hanc _ h)
    · exact .inr (apart_blind (Array.getElem?_eq_getElem hs) ho h).1
  have r1 := rel_pre (hsel i o ho) L pre a a Rel.refl (key pre rfl) []
  have r2 := rel_pre (hsel i o ho) L pre' a a Rel.refl (key pre' hfst) []
  rw [agree_act L pre pre' a hag] at r1
  exact r1.symm.trans r2

theorem quiet_det {o : Oper} {a : Act} {C : World → Prop} {w : World} {v v' : Value} (hpl : plainB o = true) (h : o.quietAt P a C w v) (h' : o.quietAt P a C w v') : v = v' := by
  unfold Oper.quietAt at h h'
  rcases plain_runs hpl a.eval w (P := P) with ⟨u, w2, hr⟩ | ⟨x, w2, hr⟩
  · rw [hr] at h h'
    simp only [Oper.quietUpon] at h h'
    exact h.2.symm.trans h'.2
  · rw [hr] at h
    simp only [Oper.quietUpon] at h

/-- Two traces of one region, at values that are alike as far as they are listed, are alike as far as they are listed. -/
theorem trace_agree {T : List (List Nat)} {C : (Nat → Bool) → (Nat → Value) → World → Prop} {Γ : Nat → Value → Prop} {M : List Nat} (hU : Nonempty (UWF C)) (hT : ancOk ops T = true) (hsel : ∀ (i : Nat) (o : Oper), ops[i]? = some o → ∀ cs b, o.op ≠ .select cs b)
    {L : Nat → Bool} (hL : ∀ i j, L i = true → waitsB ops i j = true → L j = true) {G G' : Nat → Value} (hG : ∀ q, q ∈ M → L q = true → G q = G' q) (a : Act)
    {base base' : List (Nat × Value)} (hfst : base'.map (·.1) = base.map (·.1)) (hp : pairsB ops T (base.map (·.1)) = true) (hlt : ∀ e ∈ base, e.1 < ops.size)
    (hs : ∀ pre i v post, base = pre ++ (i, v) :: post → StepF P ops T C Γ M G i v (actOf ops (fun _ => true) pre a))
    (hs' : ∀ pre i v post, base' = pre ++ (i, v) :: post → StepF P ops T C Γ M G' i v (actOf ops (fun _ => true) pre a)) :
    ∀ (post post' pre pre' : List (Nat × Value)), base = pre ++ post → base' = pre' ++ post' → pre'.map (·.1) = pre.map (·.1) → agreeL L pre pre' → agreeL L base base'
  | [], [], pre, pre', hb, hb', _, hag => by
    rw [List.append_nil] at hb hb'
    rw [hb, hb']; exact hag
  | (i, v) :: post, (i', v') :: post', pre, pre', hb, hb', hpf, hag => by
    have hii : i' = i := by
      rw [hb, hb', List.map_append, List.map_append, hpf] at hfst
      have := List.append_cancel_left hfst
      simp only [List.map_cons, List.cons.injEq] at this
      exact this.1
    subst hii
    refine trace_agree hU hT hsel hL hG a hfst hp hlt hs hs' post post' (pre ++ [(i', v)]) (pre' ++ [(i', v')]) (by rw [hb]; simp) (by rw [hb']; simp) (by simp [hpf]) (agree_snoc L (i', v) (i', v') ⟨rfl, fun hLi => ?_⟩ _ _ hag)
    simp only
    obtain ⟨o, ho, st⟩ := hs pre i' v post hb
    obtain ⟨o', ho', st'⟩ := hs' pre' i' v' post' hb'
    rw [ho] at ho'
    injection ho' with ho'
    subst ho'
    have hi : i' < ops.size := (Array.getElem?_eq_some_iff.1 ho).1
    have hanc := anc_listed hT hL i' hi (fun j hj => hL i' j hLi hj)
    have hse := sees_two hsel ho hanc (pre := pre) (pre' := pre') (post := post) (v := v) (by rw [← hb]; exact hp) (fun e he => hlt e (by rw [hb]; simp [he])) hag hpf a
    obtain ⟨U⟩ := hU
    rcases st with ⟨h1, h2, _⟩ | ⟨h1, h2, h3, _⟩ | ⟨h1, h2, hpl, h3⟩
    · rcases st' with ⟨k1, k2, _⟩ | ⟨k1, _⟩ | ⟨k1, _⟩
      · rw [h2, k2]
      · rw [← hse.2, h1] at k1; cases k1
      · rw [← hse.2, h1] at k1; cases k1
    · rcases st' with ⟨k1, _⟩ | ⟨k1, k2, k3, _⟩ | ⟨k1, k2, _⟩
      · rw [← hse.2, h1] at k1; cases k1
      · rw [h3, k3]; exact hG i' h2 hLi
      · exact absurd h2 k2
    · rcases st' with ⟨k1, _⟩ | ⟨k1, k2, _⟩ | ⟨k1, k2, _, k3⟩
      · rw [← hse.2, h1] at k1; cases k1
      · exact absurd k2 h2
      · have q1 := h3 U.world ⟨U, rfl⟩
        have q2 := k3 U.world ⟨U, rfl⟩
        have q3 : o.quietAt P (actOf ops (fun _ => true) pre a) (fun w' => ∃ g : UWF C, w' = g.world) U.world v' := by
          unfold Oper.quietAt at q2 ⊢
          rw [hse.1]; exact q2
        exact quiet_det hpl q1 q3
  | [], _ :: _, pre, pre', hb, hb', hpf, _ => by
    exfalso
    rw [hb, hb', List.map_append, List.map_append, hpf] at hfst
    have := List.append_cancel_left hfst
    simp at this
  | _ :: _, [], pre, pre', hb, hb', hpf, _ => by
    exfalso
    rw [hb, hb', List.map_append, List.map_append, hpf] at hfst
    have := List.append_cancel_left hfst
    simp at this

def freeB (ops : Array Oper) (items : List (Nat × Nat × Option Nat)) : Bool :=
  earlierB ops && Region.noSelect ops && ancOk ops (ancTab ops) && pairsB ops (ancTab ops) (idxI items) &&
  ((List.range ops.size).all fun i => (idxI items).contains i) && ((idxI items).all fun i => decide (i < ops.size)) &&
  ((quietI items).all fun i => !(moversI items).contains i && (((ops[i]?).map plainB).getD true))

/-- THE LAW, by a walk at whatever values. -/
theorem wp_region_free {id : Nat} {Q : Exit → Act → World → Prop} {a : Act} {w : World} {l : List Oper} (items : List (Nat × Nat × Option Nat)) (C : (Nat → Bool) → (Nat → Value) → World → Prop) (Γ : Nat → Value → Prop) (G0 : Nat → Value)
    (hm : P.follows .mixedOrders = true) (hB : freeB l.toArray items = true)
    (hC : ∀ i, i ∉ moversI items → ∀ L G w, C L G w → C (upd L i) G w) (h0 : C (fun _ => false) G0 w.drew) (hΓ : ∀ q, Γ q (G0 q))
    (hwalk : ∀ G, (∀ q, Γ q (G q)) → walkF P l.toArray (ancTab l.toArray) C Γ G items a (fun b => ∀ L w, (∀ j, j < l.length → L j = true) → C L G w → Q .normal b w)) :
    (Code.region id l.toArray true).wp P Q a w := by
  have hU : Nonempty (UWF C) := ⟨⟨_, _, _, h0⟩⟩
  simp only [freeB, Bool.and_eq_true] at hB
  obtain ⟨⟨⟨⟨⟨⟨hE, hsel⟩, hT⟩, hp⟩, hall⟩, hlt⟩, hq⟩ := hB
  have hsel' := fun (i : Nat) (o : Oper) (ho : l.toArray[i]? = some o) (cs : Array SelectCase) (b : Bool) => Region.noSelect_spec hsel i o cs b ho
  have hq' : ∀ i ∈ quietI items, i ∉ moversI items ∧ i < l.toArray.size ∧ ∀ o, l.toArray[i]? = some o → plainB o = true := by
    intro i hi
    have h1 := List.all_eq_true.1 hq i hi
    simp only [Bool.and_eq_true, Bool.not_eq_true', List.contains_eq_mem, decide_eq_false_iff_not] at h1
    have hidx : i ∈ idxI items := by
      have : ∀ (its : List (Nat × Nat × Option Nat)), i ∈ quietI its → i ∈ idxI its := by
        intro its
        induction its with
        | nil => intro h; cases h
        | cons e r ih =>
          obtain ⟨lo, n, om⟩ := e
          intro h
          simp only [quietI, List.mem_append] at h
          cases om <;> simp only [idxI, List.mem_append, List.mem_cons]
          · rcases h with h | h
            · exact .inl h
            · exact .inr (ih h)
          · rcases h with h | h
            · exact .inl h
            · exact .inr (.inr (ih h))
      exact this items hi
    have h2 := List.all_eq_true.1 hlt i hidx
    refine ⟨h1.1, by simpa using h2, fun o ho => ?_⟩
    have := h1.2
    rw [ho] at this
    simpa using this
  have trace := fun (G : {G : Nat → Value // ∀ q, Γ q (G q)}) => walk_traceF (M := moversI items) hU items a hq' (fun i hi => hi) (hwalk G.1 G.2)
  have tr : ∃ base : {G : Nat → Value // ∀ q, Γ q (G q)} → List (Nat × Value), ∀ G, (base G).map (·.1) = idxI items ∧ (∀ pre i v post, base G = pre ++ (i, v) :: post → StepF P l.toArray (ancTab l.toArray) C Γ (moversI items) G.1 i v (actOf l.toArray (fun _ => true) pre a)) ∧ (∀ L w, (∀ j, j < l.length → L j = true) → C L G.1 w → Q .normal (actOf l.toArray (fun _ => true) (base G) a) w) :=
    ⟨fun G => Classical.choose (trace G), fun G => Classical.choose_spec (trace G)⟩
  obtain ⟨base, htr⟩ := tr
  refine wp_region_inv (fun L b w' => (∀ i j, i < l.toArray.size → L i = true → waitsB l.toArray i j = true → L j = true) ∧ ∃ G : {G : Nat → Value // ∀ q, Γ q (G q)}, C L G.1 w' ∧ b = actOf l.toArray L (base G) a) hm hE ?_ ?_ ?_
  · refine ⟨fun i j _ h => (by cases h), ⟨G0, hΓ⟩, h0, ?_⟩
    have : ∀ (l' : List (Nat × Value)) (b : Act), actOf l.toArray (fun _ => false) l' b = b := by
      intro l'
      induction l' with
      | nil => intro b; rfl
      | cons e l' ih => intro b; obtain ⟨i, v⟩ := e; simp only [actOf, Bool.false_eq_true, if_false]; exact ih b
    exact (this _ _).symm
  · rintro L i o ho hu hw b w' ⟨hL, G, hCw, rfl⟩ K hK
    have hi : i < l.toArray.size := (Array.getElem?_eq_some_iff.1 ho).1
    have wlt : ∀ x y, x < l.toArray.size → waitsB l.toArray x y = true → y < l.toArray.size := by
      intro x y hx hxy
      have h1 := (List.all_eq_true.1 hE) x (List.mem_range.2 hx)
      rw [Array.getElem?_eq_getElem hx] at h1
      simp only [Option.map_some, Option.getD_some, List.all_eq_true] at h1
      have h2 := mem_depsL.2 hxy
      unfold depsL at h2
      rw [Array.getElem?_eq_getElem hx] at h2
      simp only [Option.map_some, Option.getD_some, List.mem_map, List.mem_filter] at h2
      obtain ⟨e, ⟨he, hb⟩, rfl⟩ := h2
      have := h1 e he
      rw [hb] at this
      simp at this
      omega
    obtain ⟨LB, hLBd⟩ : ∃ LB : Nat → Bool, LB = fun j => L j && decide (j < l.toArray.size) := ⟨_, rfl⟩
    have hLB : ∀ x y, LB x = true → waitsB l.toArray x y = true → LB y = true := by
      intro x y hx hxy
      rw [hLBd] at hx ⊢
      simp only [Bool.and_eq_true, decide_eq_true_eq] at hx ⊢
      exact ⟨hL x y hx.2 hx.1 hxy, wlt x y hx.2 hxy⟩
    have hLB2 : ∀ x, LB x = true → x < l.toArray.size := fun x hx => by
      rw [hLBd] at hx
      simp only [Bool.and_eq_true, decide_eq_true_eq] at hx; exact hx.2
    have hwB : ∀ j, waitsB l.toArray i j = true → LB j = true := by
      intro j hj
      rw [hLBd]
      simp only [Bool.and_eq_true, decide_eq_true_eq]
      exact ⟨hw j hj, wlt i j hi hj⟩
    have hanc := anc_listed hT hLB i hi hwB
    have hin : ∀ G, ∀ e ∈ base G, e.1 < l.toArray.size := fun G e he => by
      have hm1 : e.1 ∈ (base G).map (·.1) := List.mem_map.2 ⟨e, he, rfl⟩
      rw [(htr G).1] at hm1
      simpa using List.all_eq_true.1 hlt e.1 hm1
    have hc1 : ∀ G, actOf l.toArray LB (base G) a = actOf l.toArray L (base G) a := fun G => actOf_congr _ _ _ _ (fun e he => by
      have := hin G e he
      rw [hLBd]
      simp only [this, decide_true, Bool.and_true])
    have hc2 : ∀ G, actOf l.toArray (upd LB i) (base G) a = actOf l.toArray (upd L i) (base G) a := fun G => actOf_congr _ _ _ _ (fun e he => by
      have := hin G e he
      rw [hLBd]
      unfold upd
      simp only [this, decide_true, Bool.and_true])
    have hu' : LB i = false := by rw [hLBd]; simp [hu]
    have find : ∀ G, ∃ pre v post, base G = pre ++ (i, v) :: post := fun G => by
      have := List.all_eq_true.1 hall i (List.mem_range.2 hi)
      have hm2 : i ∈ idxI items := by simpa using this
      rw [← (htr G).1] at hm2
      obtain ⟨e, he, rfl⟩ := List.mem_map.1 hm2
      obtain ⟨pre, post, hb⟩ := List.append_of_mem he
      exact ⟨pre, e.2, post, hb⟩
    have place : ∀ G pre v post, base G = pre ++ (i, v) :: post → Sees l.toArray o (actOf l.toArray L (base G) a) (actOf l.toArray (fun _ => true) pre a) ∧ actOf l.toArray (upd L i) (base G) a = (actOf l.toArray L (base G) a).put o.dst v := by
      intro G pre v post hb
      have h := any_place (L := LB) hT hsel' (tr := base G) (by rw [(htr G).1]; exact hp) hLB hLB2 ho hu' hwB (hin G) a hb
      rw [hc1, hc2] at h
      have hd : dstOf l.toArray i = o.dst := by unfold dstOf; rw [ho]; rfl
      rw [hd] at h
      exact h
    have hnext : ∀ x y, x < l.toArray.size → upd L i x = true → waitsB l.toArray x y = true → upd L i y = true := by
      intro x y hx h1 h2
      unfold upd at h1 ⊢
      by_cases e : y = i
      · rw [if_pos e]
      · rw [if_neg e]
        by_cases e2 : x = i
        · subst e2; exact hw y h2
        · rw [if_neg e2] at h1; exact hL x y hx h1 h2
    obtain ⟨pre, v, post, hbase⟩ := find G
    obtain ⟨hsee, h2⟩ := place G pre v post hbase
    obtain ⟨o', ho', hst⟩ := (htr G).2.1 pre i v post hbase
    rw [ho] at ho'
    injection ho' with ho'
    subst ho'
    rcases hst with ⟨h3, rfl, h4⟩ | ⟨h3, hM, hv, h4⟩ | ⟨h3, hM, hpl, h4⟩
    · rw [hsee.2, if_neg (by rw [h3]; exact Bool.false_ne_true)]
      refine hK _ _ ⟨hnext, G, ?_, h2.symm⟩
      by_cases hM : i ∈ moversI items
      · exact h4 hM L w' hu hCw
      · exact hC i hM L G.1 w' hCw
    · rw [hsee.2, if_pos h3]
      have hmv := h4 L w' hu (fun j hj => by
        have := hanc j (by simpa using hj)
        rw [hLBd] at this
        simp only [Bool.and_eq_true] at this
        exact this.1) hCw
      refine hmv.wp hsee.1 (fun u w2 hR => ?_)
      obtain ⟨hgu, hC2⟩ := hR
      have hΓ' : ∀ q, Γ q (upF G.1 i u q) := fun q => by
        unfold upF
        split
        · rename_i e; subst e; exact hgu
        · exact G.2 q
      refine hK _ _ ⟨hnext, ⟨upF G.1 i u, hΓ'⟩, hC2, ?_⟩
      obtain ⟨pre', v', post', hbase'⟩ := find ⟨upF G.1 i u, hΓ'⟩
      obtain ⟨_, h2'⟩ := place ⟨upF G.1 i u, hΓ'⟩ pre' v' post' hbase'
      have hf : (base ⟨upF G.1 i u, hΓ'⟩).map (·.1) = (base G).map (·.1) := by rw [(htr _).1, (htr _).1]
      have hag : agreeL LB (base G) (base ⟨upF G.1 i u, hΓ'⟩) := trace_agree (T := ancTab l.toArray) hU hT hsel' hLB (G := G.1) (G' := upF G.1 i u) (fun q _ hq2 => by
          have : q ≠ i := fun e => by subst e; rw [hu'] at hq2; cases hq2
          rw [upF_ne _ _ this]) a hf (by rw [(htr G).1]; exact hp) (hin G) (htr G).2.1 (htr ⟨upF G.1 i u, hΓ'⟩).2.1 _ _ [] [] rfl rfl rfl trivial
      rw [h2', ← hc1 ⟨upF G.1 i u, hΓ'⟩, ← agree_act LB _ _ a hag, hc1]
      congr 1
      -- the value there
      obtain ⟨o', ho', st'⟩ := (htr ⟨upF G.1 i u, hΓ'⟩).2.1 pre' i v' post' hbase'
      rw [ho] at ho'
      injection ho' with ho'
      subst ho'
      obtain ⟨hsee', _⟩ := place ⟨upF G.1 i u, hΓ'⟩ pre' v' post' hbase'
      have hw1 : Region.wanted o (yielded l.toArray (actOf l.toArray L (base G) a).tmps) = Region.wanted o (yielded l.toArray (actOf l.toArray L (base ⟨upF G.1 i u, hΓ'⟩) a).tmps) := by
        rw [← hc1 G, ← hc1 ⟨upF G.1 i u, hΓ'⟩, agree_act LB _ _ a hag]
      have hwant : Region.wanted o (yielded l.toArray (actOf l.toArray (fun _ => true) pre' a).tmps) = true := by
        rw [← hsee'.2, ← hw1, hsee.2, h3]
      rcases st' with ⟨k1, _⟩ | ⟨_, _, k3, _⟩ | ⟨_, k2, _⟩
      · rw [hwant] at k1; cases k1
      · rw [k3]; exact (upF_same _ _ _).symm
      · exact absurd hM k2
    · rw [hsee.2, if_pos h3]
      have hqq := h4 w' ⟨⟨L, G.1, w', hCw⟩, rfl⟩
      unfold Oper.wp
      rw [hsee.1]
      unfold Oper.quietAt at hqq
      rcases plain_runs hpl (actOf l.toArray (fun _ => true) pre a).eval w' with ⟨u, w2, hr⟩ | ⟨x, w2, hr⟩
      · rw [hr] at hqq ⊢
        simp only [Oper.quietUpon] at hqq
        obtain ⟨e1, e2⟩ := hqq
        subst e1 e2
        simp only [Oper.upon]
        exact hK _ _ ⟨hnext, G, hC i hM L G.1 _ hCw, h2.symm⟩
      · rw [hr] at hqq
        simp only [Oper.quietUpon] at hqq
  · rintro b w' L hL ⟨_, G, hCw, rfl⟩
    have : actOf l.toArray L (base G) a = actOf l.toArray (fun _ => true) (base G) a := actOf_congr _ _ _ _ (fun e he => by
      have hm1 : e.1 ∈ (base G).map (·.1) := List.mem_map.2 ⟨e, he, rfl⟩
      rw [(htr G).1] at hm1
      exact hL _ (by simpa using List.all_eq_true.1 hlt e.1 hm1))
    rw [this]
    exact (htr G).2.2 L w' (fun j hj => hL j (by simpa using hj)) hCw
end
end Go.Proofs.YtbibgffgljojgaaDoor
