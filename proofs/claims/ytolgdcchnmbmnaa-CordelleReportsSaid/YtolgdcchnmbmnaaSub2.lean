/- Package subflow: rows of its parts; build; as a piece. No condition but how many. (Printed by gen_sub2.py.) -/
import Derived.Test.YtolgdcchnmbmnaaSub1
namespace Go.Proofs.Ytolgdcchnmbmnaa
open Go.RowKit BigFrame
attribute [local go_sem ↓] Go.wp_at_zero Go.wp_at_succ

/-- Paths rise, and each may be: the last one; none: not so. -/
def okS {α : Type} (may : α → Bool) (path : α → Int) (s : Option Int) (x : α) : Option Int := s.bind fun last => if may x = true ∧ last < path x then some (path x) else none
def okF {α : Type} (may : α → Bool) (path : α → Int) (l : List α) : Option Int := l.foldl (okS may path) (some 0)
theorem okF_snoc {α : Type} (may : α → Bool) (path : α → Int) (l : List α) (k : Nat) (x : α) (h : l[k]? = some x) : okF may path (l.take (k + 1)) = okS may path (okF may path (l.take k)) x := by
  unfold okF; rw [List.take_add_one, h, List.foldl_append]; rfl
theorem okS_none {α : Type} (may : α → Bool) (path : α → Int) (l : List α) : l.foldl (okS may path) none = none := by
  induction l with
  | nil => rfl
  | cons x l ih => exact ih
theorem okF_none {α : Type} {may : α → Bool} {path : α → Int} {l : List α} {k : Nat} (h : okF may path (l.take k) = none) : okF may path l = none := by
  unfold okF at *
  rw [← List.take_append_drop k l, List.foldl_append, h, okS_none]
theorem i64_wrap_in {x : Int} (h1 : -9223372036854775808 ≤ x) (h2 : x ≤ 9223372036854775807) : IntKind.i64.wrap x = x := IntWalk.i64_in _ ⟨h1, h2⟩
def zAd : AdR := ⟨0, false, 0⟩
def zLn : LnR := ⟨0, 0, 0, 0, 0, 0, 0, 0⟩
/-- A part's bytes. -/
def bytA (x : AdR) : List Int := (encA x.p (if x.u then 1 else 0) x.r).flatMap id
def bytL (x : LnR) : List Int := (encL x.p x.f x.l x.h x.j x.b x.t x.d).flatMap id
theorem bytA_len (x : AdR) : (bytA x).length = 4 := by unfold bytA encA; simp [beAll_len]
theorem bytL_len (x : LnR) : (bytL x).length = 28 := by unfold bytL encL; simp [beAll_len, be4All_len]
theorem flat_len {α : Type} (f : α → List Int) (s : Nat) (hf : ∀ x, (f x).length = s) (l : List α) : (l.flatMap f).length = l.length * s := by
  induction l with
  | nil => simp
  | cons x l ih => rw [List.flatMap_cons, List.length_append, ih, hf, List.length_cons, Nat.succ_mul]; omega
theorem flat_snoc {α : Type} (f : α → List Int) (l : List α) (k : Nat) (x : α) (h : l[k]? = some x) : (l.take (k + 1)).flatMap f = (l.take k).flatMap f ++ f x := by
  rw [List.take_add_one, h, List.flatMap_append]; simp
/-- What a row of parts is as a piece: its three fields. -/
def pcV (form : Int) (b : Option (List Int)) : Value := match b with
  | some l => .agg #[.int .i64 form, .int .i64 211, .string (strOfNums l)]
  | none => .agg #[.int .i64 0, .int .i64 0, .string ⟨#[]⟩]
def bodyA (src : Int) (l : List AdR) : Option (List Int) := if (okF AdR.may AdR.p l).isSome then some (beI src 4 ++ l.flatMap bytA) else none
def bodyL (src : Int) (l : List LnR) : Option (List Int) := if (okF LnR.may LnR.p l).isSome then some (beI src 4 ++ l.flatMap bytL) else none
def pieceA (src : Int) (l : List AdR) : Option (List Int) := bodyA src l
def pieceL (src : Int) (l : List LnR) : Option (List Int) := if l = [] then none else bodyL src l
theorem SliceOf.at8x {w : World} {a : Option Addr} {len cap : Nat} {A B C D E F G H : Nat → Value} (h : SliceOf w a len cap 8 (fun i => [A i, B i, C i, D i, E i, F i, G i, H i])) (hp : 0 < len) :
    ∃ b off, a = some ⟨b, off, none⟩ ∧ b < w.heap.size ∧ ∀ i, i < len → w.cell? ⟨b, off + i * 8, none⟩ = some (A i) ∧ w.cell? ⟨b, off + i * 8 + 1, none⟩ = some (B i) ∧ w.cell? ⟨b, off + i * 8 + 2, none⟩ = some (C i) ∧ w.cell? ⟨b, off + i * 8 + 3, none⟩ = some (D i) ∧ w.cell? ⟨b, off + i * 8 + 4, none⟩ = some (E i) ∧ w.cell? ⟨b, off + i * 8 + 5, none⟩ = some (F i) ∧ w.cell? ⟨b, off + i * 8 + 6, none⟩ = some (G i) ∧ w.cell? ⟨b, off + i * 8 + 7, none⟩ = some (H i) := by
  obtain ⟨b, off, ha, hb, hc⟩ := h.2.2 hp
  exact ⟨b, off, ha, hb, fun i hi => ⟨by have := hc i hi 0 _ rfl; simpa using this, hc i hi 1 _ rfl, hc i hi 2 _ rfl, hc i hi 3 _ rfl, hc i hi 4 _ rfl, hc i hi 5 _ rfl, hc i hi 6 _ rfl, hc i hi 7 _ rfl⟩⟩
theorem SliceOf.at3y {w : World} {a : Option Addr} {len cap : Nat} {X Y Z : Nat → Value} (h : SliceOf w a len cap 3 (fun i => [X i, Y i, Z i])) (hp : 0 < len) :
    ∃ b off, a = some ⟨b, off, none⟩ ∧ b < w.heap.size ∧ ∀ i, i < len → w.cell? ⟨b, off + i * 3, none⟩ = some (X i) ∧ w.cell? ⟨b, off + i * 3 + 1, none⟩ = some (Y i) ∧ w.cell? ⟨b, off + i * 3 + 2, none⟩ = some (Z i) := by
  obtain ⟨b, off, ha, hb, hc⟩ := h.2.2 hp
  exact ⟨b, off, ha, hb, fun i hi => ⟨by have := hc i hi 0 _ rfl; simpa using this, hc i hi 1 _ rfl, hc i hi 2 _ rfl⟩⟩
/-- A row of parts at a slice. -/
structure AdAt (W : World) (a : Option Addr) (n c : Nat) (l : List AdR) : Prop where
  len : l.length = n
  row : SliceOf W a n c 3 (fun i => [.int .i64 (l.getD i zAd).p, .bool (l.getD i zAd).u, .int .i64 (l.getD i zAd).r])
structure LnAt (W : World) (a : Option Addr) (n c : Nat) (l : List LnR) : Prop where
  len : l.length = n
  row : SliceOf W a n c 8 (fun i => [.int .i64 (l.getD i zLn).p, .int .i64 (l.getD i zLn).f, .int .i64 (l.getD i zLn).l, .int .u32 (l.getD i zLn).h, .int .u32 (l.getD i zLn).j, .int .u32 (l.getD i zLn).b, .int .u32 (l.getD i zLn).t, .int .u32 (l.getD i zLn).d])
def LnOk (l : List LnR) : Prop := ∀ x ∈ l, (0 ≤ x.h ∧ x.h < 4294967296) ∧ (0 ≤ x.j ∧ x.j < 4294967296) ∧ (0 ≤ x.b ∧ x.b < 4294967296) ∧ (0 ≤ x.t ∧ x.t < 4294967296) ∧ (0 ≤ x.d ∧ x.d < 4294967296)
theorem AdAt.below {W W' : World} {a : Option Addr} {n c : Nat} {l : List AdR} (h : AdAt W a n c l) (hb : Below W.heap.size W W') : AdAt W' a n c l := ⟨h.len, h.row.below hb⟩
theorem LnAt.below {W W' : World} {a : Option Addr} {n c : Nat} {l : List LnR} (h : LnAt W a n c l) (hb : Below W.heap.size W W') : LnAt W' a n c l := ⟨h.len, h.row.below hb⟩
theorem getD_of {α : Type} {l : List α} {k : Nat} {x z : α} (h : l[k]? = some x) : l.getD k z = x := by rw [List.getD_eq_getElem?_getD, h]; rfl
end Go.Proofs.Ytolgdcchnmbmnaa
