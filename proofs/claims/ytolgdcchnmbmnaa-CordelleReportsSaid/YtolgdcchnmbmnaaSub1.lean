/- Package subflow: may it be; as bytes. No condition but that the writer stands. (Printed by gen_sub1.py.) -/
import Derived.Test.YtolgdcchnmbmnaaPenW
namespace Go.Proofs.Ytolgdcchnmbmnaa
open Go.RowKit BigFrame
attribute [local go_sem ↓] Go.wp_at_zero Go.wp_at_succ

/-- A path that is there, or not. -/
structure AdR where
  p : Int
  u : Bool
  r : Int
/-- What is said of a path. -/
structure LnR where
  p : Int
  f : Int
  l : Int
  h : Int
  j : Int
  b : Int
  t : Int
  d : Int
def AdR.val (x : AdR) : Value := .agg #[.int .i64 x.p, .bool x.u, .int .i64 x.r]
def LnR.val (x : LnR) : Value := .agg #[.int .i64 x.p, .int .i64 x.f, .int .i64 x.l, .int .u32 x.h, .int .u32 x.j, .int .u32 x.b, .int .u32 x.t, .int .u32 x.d]
def AdR.may (x : AdR) : Bool := decide (1 ≤ x.p ∧ x.p ≤ 15 ∧ 0 ≤ x.r ∧ x.r ≤ 65535)
def LnR.may (x : LnR) : Bool := decide (1 ≤ x.p ∧ x.p ≤ 15 ∧ 0 ≤ x.f ∧ x.f ≤ 255 ∧ -8388608 ≤ x.l ∧ x.l ≤ 8388607)
/-- What stands behind some of a chain's calls. -/
def stL (bs : List Int) (l : List (List Int)) (k : Nat) : List Int := bs ++ (l.take k).flatMap id
theorem stL_succ (bs : List Int) (l : List (List Int)) (k : Nat) (x : List Int) (h : l[k]? = some x) : stL bs l (k + 1) = stL bs l k ++ x := by
  unfold stL; rw [List.take_add_one, h, List.flatMap_append, List.append_assoc]; simp
theorem stL_len (bs : List Int) (l : List (List Int)) (k : Nat) : (stL bs l k).length ≤ bs.length + (l.flatMap id).length := by
  unfold stL
  rw [List.length_append]
  have : ((l.take k).flatMap id).length ≤ (l.flatMap id).length := by
    conv => rhs; rw [← List.take_append_drop k l, List.flatMap_append, List.length_append]
    omega
  omega
/-- As bytes. -/
def encA (p uu : Int) (r : Int) : List (List Int) := [beAll (fun i => [p, uu].getD i 0) 1 2, beAll (fun i => [r].getD i 0) 2 1]
structure Gad_write (g : Nat) (q : Nat) (v : Value) : Prop where
  l0 : q = 4 → ∃ x, v = .slice (some ⟨x, 0, none⟩) 2 2
  c0 : q = 5 → v = .pointer (some ⟨g, 0, none⟩)
  l1 : q = 8 → ∃ x, v = .slice (some ⟨x, 0, none⟩) 1 1
  c1 : q = 9 → v = .pointer (some ⟨g, 0, none⟩)
/-- As bytes. -/
def encL (p f l : Int) (h j b t d : Int) : List (List Int) := [beAll (fun i => [p, f].getD i 0) 1 2, beAll (fun i => [0].getD i 0) 2 1, beAll (fun i => [l].getD i 0) 3 1, beAll (fun i => [0].getD i 0) 1 1, be4All (fun i => [h, j, b, t, d].getD i 0) 5]
structure Gln_write (g : Nat) (q : Nat) (v : Value) : Prop where
  l0 : q = 5 → ∃ x, v = .slice (some ⟨x, 0, none⟩) 2 2
  c0 : q = 6 → v = .pointer (some ⟨g, 0, none⟩)
  l1 : q = 7 → ∃ x, v = .slice (some ⟨x, 0, none⟩) 1 1
  c1 : q = 8 → v = .pointer (some ⟨g, 0, none⟩)
  l2 : q = 11 → ∃ x, v = .slice (some ⟨x, 0, none⟩) 1 1
  c2 : q = 12 → v = .pointer (some ⟨g, 0, none⟩)
  l3 : q = 13 → ∃ x, v = .slice (some ⟨x, 0, none⟩) 1 1
  c3 : q = 14 → v = .pointer (some ⟨g, 0, none⟩)
  l4 : q = 25 → ∃ x, v = .slice (some ⟨x, 0, none⟩) 5 5
  c4 : q = 26 → v = .pointer (some ⟨g, 0, none⟩)
end Go.Proofs.Ytolgdcchnmbmnaa
