/- The statements' Ints and Same: numbers of 16 bits as whole ones; are two rows of numbers alike. No condition but how many. -/
import Derived.Test.YtonamlgipoannaaDist
namespace Go.Proofs.Ytonamlgipoannaa
open Go.RowKit Go.Maps BigFrame
attribute [local go_sem ↓] Go.wp_at_zero Go.wp_at_succ

def lst (e : Nat → Int) (k : Nat) : List Int := (List.range k).map e
theorem lst_succ (e : Nat → Int) (k : Nat) : lst e (k + 1) = lst e k ++ [e k] := by unfold lst; rw [List.range_succ, List.map_append]; rfl
theorem lst_len (e : Nat → Int) (k : Nat) : (lst e k).length = k := by simp [lst]
theorem lst_get (e : Nat → Int) (k i : Nat) (h : i < k) : (lst e k)[i]? = some (e i) := by simp [lst, h]
theorem SliceOf.upto {w : World} {a : Option Addr} {len cap size : Nat} {E : Nat → List Value} (h : SliceOf w a len cap size E) (n : Nat) (hn : n ≤ len) : SliceOf w a n cap size E := by
  refine ⟨Nat.le_trans hn h.1, h.2.1, fun hp => ?_⟩
  obtain ⟨b, off, ha, hb, hc⟩ := h.2.2 (by omega)
  exact ⟨b, off, ha, hb, fun i hi => hc i (by omega)⟩
theorem SliceOf.of_lst {w : World} {B e : Nat} {v : Value} {k : IntKind} {n : Nat} {f : Nat → Int} (h : w.ownsRow B e 1 v n (cellsK k (lst f n))) :
    ∃ a c, v = .slice a n c ∧ SliceOf w a n c 1 (fun i => [.int k (f i)]) :=
  SliceOf.of_own h (fun i => .int k (f i)) (fun i hi => cellsK_some k _ i _ (lst_get f n i hi))
end Go.Proofs.Ytonamlgipoannaa
