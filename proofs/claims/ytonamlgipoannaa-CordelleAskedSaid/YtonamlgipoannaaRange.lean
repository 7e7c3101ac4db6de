/- A range over a bound function value ('for x := range p.each'): its law, where the body always goes on. No condition but the iterator's contract. -/
import Derived.Test.YtonamlgipoannaaOwn
import Derived.RangeFuncBox
import Derived.RangeFuncLeaves
import Derived.RangeFuncCalls
namespace Go.Proofs.Ytonamlgipoannaa
open Go.RowKit

/-- What a round of the body may end in: it goes on. -/
def goesOn {α : Type} (B : Nat) (Kp : World → World → Prop) (I : List α → World → Prop) (xs : List α) (W : World) (e : Exit) (W' : World) : Prop :=
  e = .normal ∧ KeepsFrom B W W' ∧ Kp W W' ∧ I xs W'
/-- The iterator's word: it hands over the elements of some list of S, one by one, to whatever goes on. -/
def Gives {α : Type} (F : Fence) (n : Nat) (P : Program) (gf : Nat) (fa lb : Array Value) (encs : α → Array Value) (Kp : World → World → Prop) (S : List α → Prop) (N : Nat) : Prop :=
  ∀ (l : Nat) (J : List α → World → Prop) (W : World), (∀ s V o, J s V → J s (V.alloc o)) →
    (∀ pre x V, J pre V → pre.length < N → YieldAt F (n - 1) P l (encs x) V fun e V' => e = .returned (.bool true) ∧ J (pre ++ [x]) V' ∧ Kp V V') →
    J [] W → CallsIn F n P gf (fa ++ #[.func (.yield l) #[] #[]] ++ lb) W fun e W' => (∃ v, e = .returned v) ∧ ∃ xs, S xs ∧ J xs W'
theorem range_bound {α : Type} {F : Fence} {n : Nat} {P : Program} {g : Operand} {ps : Array Tmp} {assign body : Code} {Q : Exit → Act → World → Prop} {a : Act} {w : World}
    (hro : F.round = none) (h1 : 1 ≤ n) {gf : Nat} {fa lb : Array Value} (hg : a.eval g = .func (.func gf) fa lb) (hFg : F.fn gf) (eg : ∀ args w, (callFunc gf args).run P w = .ok (.enter gf args) w)
    {encs : α → Array Value} {Kp : World → World → Prop} {S : List α → Prop} {N : Nat} (hseq : Gives F (n - 1) P gf fa lb encs Kp S N)
    (hKt : ∀ {A B C : World}, Kp A B → Kp B C → Kp A C) (hKb : ∀ (W : World) (l : Nat) (o o' : Obj), W.heap[l]? = some o → o.isCells = false → Kp W (W.putObj l o')) (hps : ∀ x, (encs x).size = ps.size)
    (I : List α → World → Prop) (hIa : ∀ s W o, I s W → I s (W.alloc o)) (hIp : ∀ s W l o o', I s W → w.heap.size ≤ l → W.heap[l]? = some o → o.isCells = false → I s (W.putObj l o')) (h0 : I [] w) (a₁ : α → Act)
    (hassign : ∀ (l : Nat) (x : α) (W : World) (K : Act → World → Prop), K (a₁ x) W →
      assign.wpIn (F.inRound l) (n - 1 - 1) P (Exit.then K (fun _ _ _ => False)) { tmps := (ps.zip (encs x)).foldl (fun t (p, v) => t.setIfInBounds p v) a.tmps, defers := [] } W)
    (hbody : ∀ (l : Nat) (pre : List α) (x : α) (W : World), I pre W → pre.length < N → body.wpIn (F.inRound l) (n - 1 - 1) P (fun e _ W' => goesOn w.heap.size Kp I (pre ++ [x]) W e W') (a₁ x) W)
    (hdone : ∀ (D : Nat) (xs : List α) (W : World), w.heap.size ≤ D → S xs → I xs W → W.heap[D]? = some (.deferred (some [])) → Q .normal { a with defers := { target := .collected D, args := #[] } :: a.defers } W) :
    (Code.rangeFunc g ps assign body).wpIn F n P Q a w := by
  refine wpIn_rangeFunc ?_
  intro fn hfn
  rw [hro]
  obtain ⟨mk, hmk⟩ : ∃ mk : LoopState → Loop, mk = fun st => { state := st, pending := none, fn, tmps := a.tmps, params := ps, assign, body, defers := w.heap.size } := ⟨_, rfl⟩
  obtain ⟨V, hV⟩ : ∃ V, (w.alloc (.deferred (some []))).alloc (.loop (mk .ready)) = V := ⟨_, rfl⟩
  have rec0 : V.heap[w.heap.size + 1]? = some (.loop (mk .ready)) := by
    have := World.alloc_heap_new (w.alloc (.deferred (some []))) (.loop (mk .ready))
    rw [World.size_alloc, hV] at this
    exact this
  have def0 : V.heap[w.heap.size]? = some (.deferred (some [])) := by
    rw [← hV]
    exact (Below.heap_alloc _ _ _ (by simp)).trans (World.alloc_heap_new w _)
  have inv0 : I [] V := by rw [← hV]; exact hIa _ _ _ (hIa _ _ _ h0)
  refine ⟨w.heap.size + 1, [{ target := .collected w.heap.size, args := #[] }], V, { target := .fn (.func gf) lb, args := fa ++ #[.func (.yield (w.heap.size + 1)) #[] #[]] }, V, gf, fa ++ #[.func (.yield (w.heap.size + 1)) #[] #[]] ++ lb, V, ?_, ?_, ?_, ?_, fun _ => h1, ?_⟩
  · rw [← hV, hmk]; exact run_enterLoop_outer _ _ _ _ _
  · simp only [resolve, hg]
    simp [go_sem]
  · intro f' hf'
    simp [Target.leads] at hf'
    subst hf'
    exact hFg
  · simp [invoke, go_sem, eg]
  · refine (hseq (w.heap.size + 1) (fun pre W => I pre W ∧ W.heap[w.heap.size + 1]? = some (.loop (mk .ready)) ∧ W.heap[w.heap.size]? = some (.deferred (some []))) V ?_ ?_ ⟨inv0, rec0, def0⟩).mono ?_
    · rintro s W o ⟨i1, i2, i3⟩
      exact ⟨hIa _ _ _ i1, (Below.heap_alloc _ _ _ (Array.getElem?_eq_some_iff.1 i2).1).trans i2, (Below.heap_alloc _ _ _ (Array.getElem?_eq_some_iff.1 i3).1).trans i3⟩
    · rintro pre x W ⟨i1, i2, i3⟩ hlen
      have hlt := (Array.getElem?_eq_some_iff.1 i2).1
      have hy := run_yield (P := P) (args := encs x) i2 (by rw [hmk]; exact hps x)
      obtain ⟨W2, hW2⟩ : ∃ W2, W.putObj (w.heap.size + 1) (.loop (mk .busy)) = W2 := ⟨_, rfl⟩
      have hb := run_beginRound (P := P) i2 (by rw [hmk])
      have j2 : W2.heap[w.heap.size + 1]? = some (.loop (mk .busy)) := by rw [← hW2]; exact World.putObj_heap_same hlt
      have j3 : W2.heap[w.heap.size]? = some (.deferred (some [])) := by rw [← hW2]; exact (World.putObj_heap_other (by omega)).trans i3
      have j1 : I pre W2 := by rw [← hW2]; exact hIp _ _ _ _ _ i1 (by omega) i2 rfl
      have k1 : Kp W W2 := by rw [← hW2]; exact hKb _ _ _ _ i2 rfl
      have hbz : ({ mk .ready with state := .busy } : Loop) = mk .busy := by rw [hmk]
      rw [hbz, hW2] at hb
      rw [hmk] at hy
      refine ⟨fn, _, assign, body, hy, roundIn_of_wpIn hfn (hassign _ x W _ ⟨_, hb, wpIn_mono (hbody _ pre x _ j1 hlen) ?_⟩)⟩
      rintro e a3 W3 ⟨rfl, kk, kp, i4⟩
      have l2 := kk.same _ _ (by omega) j2 rfl
      have l3 := kk.same _ _ (Nat.le_refl _) j3 rfl
      have hend := run_endRound (P := P) none l2
      have hrz : ({ mk .busy with state := if (none : Option Code).isNone then .ready else .done, pending := none } : Loop) = mk .ready := by rw [hmk]; rfl
      have hlt3 := (Array.getElem?_eq_some_iff.1 l2).1
      refine ⟨_, _, hend, rfl, ⟨hIp _ _ _ _ _ i4 (by omega) l2 rfl, ?_, (World.putObj_heap_other (by omega)).trans l3⟩, hKt (hKt k1 kp) (hKb _ _ _ _ l2 rfl)⟩
      rw [World.putObj_heap_same hlt3]
      exact congrArg (fun z => some (Obj.loop z)) hrz
    · rintro e W2 ⟨⟨v, rfl⟩, xs, hS, i1, i2, i3⟩
      have hend := run_endLoop (P := P) i2 (by rw [hmk]; simp)
      have hpz : (mk .ready).pending = none := by rw [hmk]
      rw [hpz] at hend
      exact ⟨none, _, hend, hdone _ xs _ (Nat.le_refl _) hS (hIp _ _ _ _ _ i1 (by omega) i2 rfl) ((World.putObj_heap_other (by omega)).trans i3)⟩
end Go.Proofs.Ytonamlgipoannaa
