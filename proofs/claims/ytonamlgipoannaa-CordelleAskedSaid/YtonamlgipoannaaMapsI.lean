/- Maps from whole numbers to texts and to numbers, read as functions. No condition but that the map is the call's own. -/
import Derived.Test.YtonamlgipoannaaOwn
namespace Go.Proofs.Ytonamlgipoannaa
open Go.RowKit Go.Maps

theorem keyed_i64 : Keyed Try.prog 3 := int_keyed Try.underlying3
theorem i64_key {x : Int} (hw : (Lit.int .i64 x).wf = true) : WideAt.IsKeyLit (.int .i64 x) := by simp [WideAt.IsKeyLit, hw]
theorem grown_below {w w' : World} {b : Nat} (h : w.grownBy w' (some b)) {B : Nat} (hB : B ≤ b) (hs : B ≤ w.heap.size) : Below B w w' := (Below.refl B w).grown h (by omega) (fun j hj => by injection hj with hj; omega)
theorem grown_far {w w' : World} {b : Nat} (h : w.grownBy w' (some b)) : ∀ k, k < w.heap.size → k ≠ b → w'.heap[k]? = w.heap[k]? := fun k hk hne => h.block k hk (fun e => hne (by injection e))
/-- A map of numbers to texts. -/
def StrM (W : World) (b n : Nat) (f : Int → Option ByteArray) : Prop :=
  ∃ D : DataW Unit, W.ownsMap Try.prog 3 (plainElem Try.prog 9) b n D ∧ ∀ i : Int, (Lit.int .i64 i).wf = true → Maps.has D (.int .i64 i) = (f i).isSome ∧ D.atKey (.int .i64 i) (.lit (.string [])) = .lit (.string ((f i).getD .empty).data.toList)
theorem StrM.made (w : World) : StrM (w.alloc (.map #[] 0)) w.heap.size 0 (fun _ => none) := ⟨_, World.ownsMap_made w Try.prog 3 _, fun i _ => ⟨rfl, rfl⟩⟩
theorem StrM.lt {W : World} {b n : Nat} {f : Int → Option ByteArray} (h : StrM W b n f) : b < W.heap.size := h.choose_spec.1.lt
theorem StrM.at_ {W W' : World} {b n : Nat} {f : Int → Option ByteArray} (h : StrM W b n f) (hk : W'.heap[b]? = W.heap[b]?) : StrM W' b n f := by
  obtain ⟨D, ⟨es, cl, hg, F, hs⟩, hf⟩ := h
  exact ⟨D, ⟨es, cl, hk.trans hg, F, hs⟩, hf⟩
theorem StrM.look {W : World} {b n : Nat} {f : Int → Option ByteArray} (h : StrM W b n f) (i : Int) (hi : (Lit.int .i64 i).wf = true) (o : Option ByteArray) (ho : f i = o) :
    (Instr.lookup 26 (.map (some b)) (.int .i64 i) true).run Try.prog W = .ok (.tuple #[.string (o.getD .empty), .bool o.isSome]) W := by
  obtain ⟨D, hD, hf⟩ := h
  obtain ⟨v, ps, hrun, hv⟩ := World.ownsMap.look_ok hD keyed_i64 Try.underlying26 (z := .string ByteArray.empty) (by kernel_rfl) (zd := .lit (.string [])) (zp := []) (plainElem_string Try.underlying9 (by decide)) (keyOf_int_mk Try.underlying3 hi)
  obtain ⟨h1, h2⟩ := hf i hi
  rw [hrun, h1, ho]
  obtain ⟨t, rfl, hz, _⟩ := plainElem_string_inv Try.underlying9 hv
  rw [h2, ho] at hz
  simp at hz
  have : t = o.getD .empty := by
    have h1 : t.data = (o.getD .empty).data := hz.1.symm
    cases t; generalize o.getD .empty = s at *; cases s; simp_all
  rw [this]
theorem StrM.look1 {W : World} {b n : Nat} {f : Int → Option ByteArray} (h : StrM W b n f) (i : Int) (hi : (Lit.int .i64 i).wf = true) (o : Option ByteArray) (ho : f i = o) :
    (Instr.lookup 26 (.map (some b)) (.int .i64 i) false).run Try.prog W = .ok (.string (o.getD .empty)) W := by
  obtain ⟨D, hD, hf⟩ := h
  obtain ⟨v, ps, hrun, hv⟩ := World.ownsMap.lookup hD keyed_i64 Try.underlying26 (z := .string ByteArray.empty) (by kernel_rfl) (zd := .lit (.string [])) (zp := []) (plainElem_string Try.underlying9 (by decide)) (keyOf_int_mk Try.underlying3 hi)
  obtain ⟨h1, h2⟩ := hf i hi
  rw [hrun]
  obtain ⟨t, rfl, hz, _⟩ := plainElem_string_inv Try.underlying9 hv
  rw [h2, ho] at hz
  simp at hz
  have : t = o.getD .empty := by
    have h1 : t.data = (o.getD .empty).data := hz.1.symm
    cases t; generalize o.getD .empty = s at *; cases s; simp_all
  rw [this]
theorem StrM.put {W : World} {b n : Nat} {f : Int → Option ByteArray} (h : StrM W b n f) (i : Int) (hi : (Lit.int .i64 i).wf = true) (s : ByteArray) (hs : s.size ≤ maxLen) (hn : n < maxLen) :
    ∃ w', (Instr.mapUpdate 26 (.map (some b)) (.int .i64 i) (.string s)).run Try.prog W = .ok () w' ∧ StrM w' b (n + 1) (fun j => if j = i then some s else f j) ∧ W.grownBy w' (some b) := by
  obtain ⟨D, hD, hf⟩ := h
  obtain ⟨w', hrun, hM, hg⟩ := World.ownsMap.update hD keyed_i64 Try.underlying26 hn (keyOf_int_mk Try.underlying3 hi) (plainElem_string Try.underlying9 hs)
  refine ⟨w', hrun, ⟨_, hM, fun j hj => ?_⟩, hg⟩
  by_cases e : j = i
  · subst e
    rw [Maps.has_put_same hD.isMap (i64_key hi), Maps.atKey_put_same hD.isMap (i64_key hi)]
    simp
  · rw [Maps.has_put_other (by intro h; injection h with _ h; exact e h), Maps.atKey_put_other (by intro h; injection h with _ h; exact e h)]
    simp only [if_neg e]
    exact hf j hj
/-- A map of numbers to numbers. -/
def NumM (W : World) (b n : Nat) (f : Int → Int) : Prop :=
  ∃ D : DataW Unit, W.ownsMap Try.prog 3 (plainElem Try.prog 3) b n D ∧ ∀ i : Int, (Lit.int .i64 i).wf = true → D.atKey (.int .i64 i) (.lit (.int .i64 0)) = .lit (.int .i64 (f i))
theorem NumM.made (w : World) : NumM (w.alloc (.map #[] 0)) w.heap.size 0 (fun _ => 0) := ⟨_, World.ownsMap_made w Try.prog 3 _, fun i _ => rfl⟩
theorem NumM.lt {W : World} {b n : Nat} {f : Int → Int} (h : NumM W b n f) : b < W.heap.size := h.choose_spec.1.lt
theorem NumM.at_ {W W' : World} {b n : Nat} {f : Int → Int} (h : NumM W b n f) (hk : W'.heap[b]? = W.heap[b]?) : NumM W' b n f := by
  obtain ⟨D, ⟨es, cl, hg, F, hs⟩, hf⟩ := h
  exact ⟨D, ⟨es, cl, hk.trans hg, F, hs⟩, hf⟩
theorem NumM.look {W : World} {b n : Nat} {f : Int → Int} (h : NumM W b n f) (i : Int) (hi : (Lit.int .i64 i).wf = true) (x : Int) (hx : f i = x) :
    (Instr.lookup 27 (.map (some b)) (.int .i64 i) false).run Try.prog W = .ok (.int .i64 x) W := by
  obtain ⟨D, hD, hf⟩ := h
  obtain ⟨c, hrun, hat, _⟩ := World.ownsMap.lookup_int hD keyed_i64 Try.underlying27 Try.underlying3 (by kernel_rfl) (keyOf_int_mk Try.underlying3 hi)
  rw [hf i hi, hx] at hat
  simp at hat
  rw [hrun, hat]
theorem NumM.put {W : World} {b n : Nat} {f : Int → Int} (h : NumM W b n f) (i : Int) (hi : (Lit.int .i64 i).wf = true) (x : Int) (hx : (Lit.int .i64 x).wf = true) (hn : n < maxLen) :
    ∃ w', (Instr.mapUpdate 27 (.map (some b)) (.int .i64 i) (.int .i64 x)).run Try.prog W = .ok () w' ∧ NumM w' b (n + 1) (fun j => if j = i then x else f j) ∧ W.grownBy w' (some b) := by
  obtain ⟨D, hD, hf⟩ := h
  obtain ⟨w', hrun, hM, hg⟩ := World.ownsMap.update hD keyed_i64 Try.underlying27 hn (keyOf_int_mk Try.underlying3 hi) (plainElem_int Try.underlying3 hx)
  refine ⟨w', hrun, ⟨_, hM, fun j hj => ?_⟩, hg⟩
  by_cases e : j = i
  · subst e
    rw [Maps.atKey_put_same hD.isMap (i64_key hi)]
    simp
  · rw [Maps.atKey_put_other (by intro h; injection h with _ h; exact e h)]
    simp only [if_neg e]
    exact hf j hj
end Go.Proofs.Ytonamlgipoannaa
