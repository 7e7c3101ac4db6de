/- Append of whatever slice, an empty one too, to a row that the call owns. No condition but its size. -/
import Derived.Test.YtbibgffgljojgaaDoorKit
import Derived.Deep.AppendLies
import Derived.Laws.OwnMore
namespace Go.Proofs.YtbibgffgljojgaaDoor
open Go.RowKit

theorem run_append_empty {P : Program} (w : World) (base : Nat) (t ty e : TypeId) (i : TypeInfo) (size : Nat) (ht : P.underlying t = some (.slice e)) (hi : P.info? e = some i)
    (v : Value) (n : Nat) (xs : List Value) (hown : w.ownsRow base e size v n xs) (ad : Option Addr) (c : Nat) :
    (Builtin.append_ #[t, t] ty #[v, .slice ad 0 c]).run P w = .ok v w := by
  rcases hown.2 with ⟨rfl, rfl⟩ | ⟨g, cap, cur, rfl, _, _, hnc, _⟩
  · cases ad <;> simp [Builtin.append_, run_underlying ht, sizeOf, typeInfo, hi, Builtin.lenOf, Builtin.firstCells, loadCells, loadCellsFrom, Result.andThen]
  · cases ad <;> simp [Builtin.append_, run_underlying ht, sizeOf, typeInfo, hi, Builtin.lenOf, Builtin.firstCells, hnc, storeCells, loadCells, loadCellsFrom, Result.andThen]
theorem wpList_append_sl {P : Program} {w : World} {ops : Array Oper} {rest : List Oper} {o : Oper} {a : Act} {Q : Exit → Act → World → Prop} (hgd : o.guard = none) (s x : Operand) (t : TypeId)
    (ho : o.op = .call { callee := .builtin .append, args := #[s, x], argTypes := #[t, t] })
    (base : Nat) (e : TypeId) (i : TypeInfo) (z : Value) (size bytes : Nat) (ht : P.underlying t = some (.slice e)) (hi : P.info? e = some i) (hz : i.zero = some z)
    (hsize : i.size = size) (hby : i.bytes = bytes) (hzs : z.cells.size = size) (hsz : 0 < size)
    (v : Value) (n : Nat) (xs : List Value) (hs : a.eval s = v) (hown : w.ownsRow base e size v n xs)
    (ad : Option Addr) (m c : Nat) (news : List Value) (hx : a.eval x = .slice ad m c) (hl : news.length = m * size) (hnews : 0 < m → ∃ a0, ad = some a0 ∧ ∀ j u, news[j]? = some u → w.cell? (a0.add j) = some u) (h1 : ∀ u ∈ news, u.oneCell' = true)
    (h63 : n + m ≤ maxLen) (hbytes : (n + m) * bytes ≤ 140737488355328) (hbase : base ≤ w.heap.size)
    (h : ∀ v' w', w'.ownsRow base e size v' (n + m) (xs ++ news) → w.grownBy w' v.ownBlock → (v'.ownBlock = v.ownBlock ∨ v'.ownBlock = some w.heap.size) → (∃ a c', v' = .slice a (n + m) c') → wpList P ops Q rest (a.put o.dst v') w') : wpList P ops Q (o :: rest) a w := by
  rcases Nat.eq_zero_or_pos m with rfl | hm
  · obtain rfl : news = [] := List.length_eq_zero_iff.1 (by rw [hl]; simp)
    refine wpList_plain hgd fun K hK => ?_
    have hrun := run_append_empty (P := P) w base t o.type e i size ht hi v n xs hown ad c
    unfold Oper.wp
    simp [execOp, ho, resolve, invoke, builtin, hs, hx, hrun, Result.andThen]
    refine hK _ _ (h v w (by simpa using hown) ⟨rfl, rfl, rfl, Nat.le_refl _, fun _ _ _ => rfl⟩ (.inl rfl) ?_)
    rcases hown.2 with ⟨rfl, rfl⟩ | ⟨g, cap, cur, rfl, _⟩
    · exact ⟨_, _, rfl⟩
    · exact ⟨_, _, rfl⟩
  · obtain ⟨a0, rfl, hc⟩ := hnews hm
    refine wpList_append_lies w hgd s x t ho base e i z size bytes ht hi hz hsize hby hzs hsz v n xs hs hown a0 m c news hx hl hc h1 hm h63 hbytes hbase w.heap.size rfl ?_
    intro g cap w' own' hgrow hat hlt
    refine h _ w' own' hgrow ?_ ⟨_, _, rfl⟩
    rcases hat with h | h
    · exact .inl h.symm
    · exact .inr (by rw [h]; rfl)
def rowL (n : Nat) (f : Nat → Value) : List Value := (List.range n).map f
theorem rowL_get (n : Nat) (f : Nat → Value) (i : Nat) (h : i < n) : (rowL n f)[i]? = some (f i) := by simp [rowL, h]
theorem rowL_len (n : Nat) (f : Nat → Value) : (rowL n f).length = n := by simp [rowL]
/-- The cells of a slice of one-cell elements. -/
theorem SliceOf.news1 {w : World} {a : Option Addr} {n c : Nat} {f : Nat → Value} (S : SliceOf w a n c 1 (fun i => [f i])) : 0 < n → ∃ a0, a = some a0 ∧ ∀ j u, (rowL n f)[j]? = some u → w.cell? (a0.add j) = some u := fun hn => by
  obtain ⟨b, off, rfl, hb, hc⟩ := S.at1 hn
  refine ⟨_, rfl, fun j u hu => ?_⟩
  have hj : j < n := by
    have := (List.getElem?_eq_some_iff.1 hu).1
    rwa [rowL_len] at this
  rw [rowL_get n f j hj] at hu
  have hadd : (⟨b, off, none⟩ : Addr).add j = ⟨b, off + j, none⟩ := by unfold Addr.add; split <;> simp_all
  rw [hadd, hc j hj, hu]
theorem own_lit (w : World) (E : TypeId) (size : Nat) : (w.alloc (.cells #[] E)).ownsRow w.heap.size E size (.slice (some ⟨w.heap.size, 0, none⟩) 0 0) 0 [] := by
  have := World.ownsRow_lit (base := w.heap.size) (e := E) (size := size) w #[] 0 (Nat.le_refl _) (by decide) (by simp)
  simpa using this
end Go.Proofs.YtbibgffgljojgaaDoor
