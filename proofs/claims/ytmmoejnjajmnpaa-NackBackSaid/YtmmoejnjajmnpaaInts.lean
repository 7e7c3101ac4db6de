/- The statements' Ints and Same: numbers of 16 bits as whole ones; are two rows of numbers alike. No condition but how many. -/
import Derived.Test.YtmmoejnjajmnpaaDist
namespace Go.Proofs.Ytmmoejnjajmnpaa
open Go.RowKit Go.Maps BigFrame
attribute [local go_sem ↓] Go.wp_at_zero Go.wp_at_succ

def lst (e : Nat → Int) (k : Nat) : List Int := (List.range k).map e
theorem lst_succ (e : Nat → Int) (k : Nat) : lst e (k + 1) = lst e k ++ [e k] := by unfold lst; rw [List.range_succ, List.map_append]; rfl
theorem lst_len (e : Nat → Int) (k : Nat) : (lst e k).length = k := by simp [lst]
theorem lst_get (e : Nat → Int) (k i : Nat) (h : i < k) : (lst e k)[i]? = some (e i) := by simp [lst, h]
theorem SliceOf.upto {w : World} {a : Option Addr} {len cap size : Nat} {E : Nat → List Value} (h : SliceOf w a len cap size E) (n : Nat) (hn : n ≤ len) : SliceOf w a n cap size E := by
  refine ⟨Nat.le_trans hn h.1, h.2.1, fun hp => ?_⟩
  obtain ⟨b, off, ha, hb, hc⟩ := h.2.2 (by omega)
  exact ⟨b, off, ha, hb, fun i hi => hc i (by omega)⟩
theorem SliceOf.of_lst {w : World} {B e : Nat} {v : Value} {k : IntKind} {n : Nat} {f : Nat → Int} (h : w.ownsRow B e 1 v n (cellsK k (lst f n))) :
    ∃ a c, v = .slice a n c ∧ SliceOf w a n c 1 (fun i => [.int k (f i)]) :=
  SliceOf.of_own h (fun i => .int k (f i)) (fun i hi => cellsK_some k _ i _ (lst_get f n i hi))
set_option maxHeartbeats 2000000 in
theorem law01_Ints (a : Option Addr) (l c : Nat) (e : Nat → Int) (w : World) (S : SliceOf w a l c 1 (fun i => [.int .u16 (e i)])) (hl : l ≤ 100000) (he : ∀ i, i < l → 0 ≤ e i ∧ e i ≤ 65535) :
    Calls Try.prog 9 #[.slice a l c] w (OwnsRes w 3 l (cellsK .i64 (lst e l))) := by
  obtain ⟨i0, hi0, hz0, hz1, hz2⟩ := info_parts (show (Try.prog.info? 3).map (fun i => (i.zero, i.size, i.bytes)) = some (some (.int .i64 0), 1, 8) by kernel_rfl)
  go_enter Try.func9, Try.ntmps9
  go_wp2_with fail
  go_loopw [3, 8] (fun x3 x8 wr => ∃ k : Nat, k ≤ l ∧ x8 = .int .i64 k ∧ wr.ownsRow w.heap.size 3 1 x3 k (cellsK .i64 (lst e k)) ∧ Below w.heap.size w wr) (fun _ x8 _ => l - (intOf x8).toNat)
  case atStart => exact ⟨0, by omega, rfl, ⟨rfl, .inl ⟨rfl, rfl⟩⟩, Below.refl _ _⟩
  case round =>
    obtain ⟨k, hk, rfl, own, B⟩ := hrel
    by_cases hlt : k < l
    · obtain ⟨b, off, rfl, hbb, hcell⟩ := S.at1 (by omega)
      obtain ⟨x, hx⟩ : ∃ x, e k = x := ⟨_, rfl⟩
      have hxb := he k hlt
      have d := (B.cell (p := ⟨b, off + k, none⟩) hbb).trans (hcell k hlt)
      rw [hx] at d hxb
      obtain ⟨x0, x1⟩ := hxb
      have i1 : (0 : Int) ≤ (k : Int) := by omega
      have i2 : (k : Int) < (l : Int) := by omega
      have wk : IntKind.i64.wrap ((k : Int) + 1) = ((k + 1 : Nat) : Int) := by rw [IntWalk.i64_in _ (by omega)]; omega
      have HX := Lib.hid hx
      clear hx hcell
      go_wp2_with (at_builtin; refine wpList_append_lies _ rfl _ _ 24 rfl w.heap.size 3 i0 (.int .i64 0) 1 8 Try.underlying24 hi0 hz0 hz1 hz2 rfl (by decide) _ _ _ rfl (own.alloc _) ⟨wr.heap.size, 0, none⟩ 1 1 [.int .i64 x] rfl rfl (cell_one_new _ _ _) (by simp [Value.oneCell']) (by omega) (by rw [maxLen_eq]; omega) (by omega) (Nat.le_trans B.size (by simp)) _ rfl ?_; intro g2 cap w1 own1 hgrow hat hlt1)
      have hB1 := (B.alloc B.size _).grown hgrow (by have := B.size; simp; omega) (fun j hj => (own.lt j hj).1)
      go_roundw
      case rel => exact ⟨k + 1, by omega, by go_num, by rw [lst_succ, cellsK_snoc, HX.out]; exact own1, hB1⟩
      case measure => simp only [intOf]; omega
    · obtain rfl : k = l := by omega
      have j1 : ¬ (k : Int) < (k : Int) := by omega
      go_wp2_with fail
      go_ret
      exact ⟨_, rfl, own, B⟩
end Go.Proofs.Ytmmoejnjajmnpaa
