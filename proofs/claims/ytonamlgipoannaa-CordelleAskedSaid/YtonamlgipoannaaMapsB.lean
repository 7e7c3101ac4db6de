/- Maps from whole numbers to yes and no, read as functions; slices of three cells each. No condition but that the map is the call's own. -/
import Derived.Test.YtonamlgipoannaaMapsI
namespace Go.Proofs.Ytonamlgipoannaa
open Go.RowKit Go.Maps

theorem plainElem_bool_inv {P : Program} {e : TypeId} {H : Type} (he : P.underlying e = some .bool) {v : Value} {z : DataW H × List MemPlace} (h : plainElem P e v = some z) : ∃ a, v = .bool a ∧ z = (.lit (.bool a), []) := by
  unfold plainElem at h
  rw [he] at h
  cases v <;> simp at h
  subst h
  exact ⟨_, rfl, rfl⟩
/-- A map of numbers to yes and no. -/
def BoolM (W : World) (b n : Nat) (f : Int → Bool) : Prop :=
  ∃ D : DataW Unit, W.ownsMap Try.prog 3 (plainElem Try.prog 4) b n D ∧ ∀ i : Int, (Lit.int .i64 i).wf = true → D.atKey (.int .i64 i) (.lit (.bool false)) = .lit (.bool (f i))
theorem BoolM.made (w : World) : BoolM (w.alloc (.map #[] 0)) w.heap.size 0 (fun _ => false) := ⟨_, World.ownsMap_made w Try.prog 3 _, fun i _ => rfl⟩
theorem BoolM.lt {W : World} {b n : Nat} {f : Int → Bool} (h : BoolM W b n f) : b < W.heap.size := h.choose_spec.1.lt
theorem BoolM.at_ {W W' : World} {b n : Nat} {f : Int → Bool} (h : BoolM W b n f) (hk : W'.heap[b]? = W.heap[b]?) : BoolM W' b n f := by
  obtain ⟨D, ⟨es, cl, hg, F, hs⟩, hf⟩ := h
  exact ⟨D, ⟨es, cl, hk.trans hg, F, hs⟩, hf⟩
theorem BoolM.look {W : World} {b n : Nat} {f : Int → Bool} (h : BoolM W b n f) (i : Int) (hi : (Lit.int .i64 i).wf = true) (x : Bool) (hx : f i = x) :
    (Instr.lookup 58 (.map (some b)) (.int .i64 i) false).run Try.prog W = .ok (.bool x) W := by
  obtain ⟨D, hD, hf⟩ := h
  obtain ⟨v, ps, hrun, hv⟩ := World.ownsMap.lookup hD keyed_i64 Try.underlying58 (z := .bool false) (by kernel_rfl) (zd := .lit (.bool false)) (zp := []) (plainElem_bool Try.underlying4 false) (keyOf_int_mk Try.underlying3 hi)
  rw [hrun]
  obtain ⟨t, rfl, hz⟩ := plainElem_bool_inv Try.underlying4 hv
  rw [hf i hi, hx] at hz
  simp at hz
  rw [hz.1]
theorem BoolM.put {W : World} {b n : Nat} {f : Int → Bool} (h : BoolM W b n f) (i : Int) (hi : (Lit.int .i64 i).wf = true) (x : Bool) (hn : n < maxLen) :
    ∃ w', (Instr.mapUpdate 58 (.map (some b)) (.int .i64 i) (.bool x)).run Try.prog W = .ok () w' ∧ BoolM w' b (n + 1) (fun j => if j = i then x else f j) ∧ W.grownBy w' (some b) := by
  obtain ⟨D, hD, hf⟩ := h
  obtain ⟨w', hrun, hM, hg⟩ := World.ownsMap.update hD keyed_i64 Try.underlying58 hn (keyOf_int_mk Try.underlying3 hi) (plainElem_bool Try.underlying4 x)
  refine ⟨w', hrun, ⟨_, hM, fun j hj => ?_⟩, hg⟩
  by_cases e : j = i
  · subst e
    rw [Maps.atKey_put_same hD.isMap (i64_key hi)]
    simp
  · rw [Maps.atKey_put_other (by intro h; injection h with _ h; exact e h)]
    simp only [if_neg e]
    exact hf j hj
theorem SliceOf.at3x {w : World} {a : Option Addr} {len cap : Nat} {X Y Z : Nat → Value} (h : SliceOf w a len cap 3 (fun i => [X i, Y i, Z i])) (hp : 0 < len) :
    ∃ b off, a = some ⟨b, off, none⟩ ∧ b < w.heap.size ∧ ∀ i, i < len → w.cell? ⟨b, off + i * 3, none⟩ = some (X i) ∧ w.cell? ⟨b, off + i * 3 + 1, none⟩ = some (Y i) ∧ w.cell? ⟨b, off + i * 3 + 2, none⟩ = some (Z i) := by
  obtain ⟨b, off, ha, hb, hc⟩ := h.2.2 hp
  exact ⟨b, off, ha, hb, fun i hi => ⟨hc i hi 0 _ rfl, hc i hi 1 _ rfl, hc i hi 2 _ rfl⟩⟩
theorem boolm_congr {W : World} {b n : Nat} {f f' : Int → Bool} (h : BoolM W b n f) (e : ∀ i, f i = f' i) : BoolM W b n f' := (funext e : f = f') ▸ h
end Go.Proofs.Ytonamlgipoannaa
