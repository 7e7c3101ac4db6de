/- The document's gaps: Came, whatever comes, beside the program's. No condition but that the row can be read. -/
import Derived.Test.YtonamlgipoannaaGapsR5
import Derived.Test.YtonamlgipoannaaGapsOfP
namespace Go.Proofs.Ytonamlgipoannaa
open Go.RowKit BigFrame

theorem ref22_Came (a b c d : Int) (y : Bool) (e' u : Int) (l : List WR) (sa : Option Addr) (n sc : Nat) (nn now N T : Int) (hN : clipI nn (-1099511627776) 1099511627776 = N) (hT : clipI now 0 1099511627776 = T) (w : World) (R : RowT w sa n sc l) (G : Good a b c d y e' l) :
    Calls Try.prog 63 #[gval a b c d y e' u sa n sc, .int .i64 nn, .int .i64 now] w fun e w' => ∃ sa' n' sc', e = .returned (.tuple #[gval a b c d true (camE y e' N) (camU a y e' u l.length N) sa' n' sc', .int .i64 (camR a y e' l.length N)]) ∧ RowT w' sa' n' sc' (camL a c d y e' l N T) ∧ Below w.heap.size w w' := by
  have hl := R.len
  have hsm := G.small
  cases y with
  | false =>
    refine (ref22_CameA a b c d e' u l sa n sc nn now N T hN hT w R).mono ?_
    rintro e w' ⟨rfl, h1, h2⟩
    exact ⟨sa, n, sc, rfl, h1, h2⟩
  | true =>
    by_cases hle : N ≤ e'
    · refine (ref22_CameB a b c d e' u l sa n sc nn now N T hN hT w R (by omega) hle).mono ?_
      rintro e w' ⟨sa', n', sc', rfl, h1, h2⟩
      unfold camR camE camU camL
      simp only [if_true, if_pos hle]
      exact ⟨sa', n', sc', rfl, h1, h2⟩
    · have hn := cam_nums (a := a) (e := e') (n0 := l.length) (N := N) G.len (by omega) (by have := G.a1; omega)
      obtain ⟨up, hup⟩ : ∃ up : Nat, (up : Int) = cameUp a e' l.length N := ⟨(cameUp a e' l.length N).toNat, by unfold cameUp; omega⟩
      have hlen := G.len
      refine (ref22_CameC a b c d e' u l sa n sc nn now N T hN hT w R (by omega) G.a2 (by omega) G.e0 G.c0 G.c1 up (cameCnt a e' l.length N) (cameLo a e' l.length N) (by rw [hup]; unfold cameUp; omega) (by unfold cameLo cameSk cameUp; omega) hn.1 _ rfl).mono ?_
      rintro e w' ⟨sa', n', sc', rfl, h1, h2⟩
      unfold camR camE camU camL
      simp only [if_true, if_neg hle]
      refine ⟨sa', n', sc', ?_, ?_, h2⟩
      · rw [wrap_two u _ _ (up : Int) (by rw [hup, hn.2.1]; omega), hup]
      · have e1 : (l ++ numsW (cameLo a e' l.length N) c d T (cameCnt a e' l.length N)).drop (cameK a e' l.length N) = l.drop up ++ numsW (cameLo a e' l.length N) c d T (cameCnt a e' l.length N) := by
          rw [List.drop_append, Nat.sub_eq_zero_of_le hn.2.2.2, List.drop_zero]
          congr 1
          rcases Nat.le_total up l.length with h3 | h3
          · congr 1
            have h4 := hn.2.1
            unfold cameSk at h4
            omega
          · have h4 : cameK a e' l.length N = l.length := by
              have h5 := hn.2.1
              unfold cameSk at h5
              omega
            rw [h4, List.drop_length, List.drop_of_length_le h3]
        rw [e1]; exact h1
/-- The program's waiting times stay the document's. -/
theorem wait_came {a c d : Int} {y : Bool} {e : Int} {l : List WR} {N T : Int} (h : ∀ r ∈ l, WaitOk d r) : ∀ r ∈ camL a c d y e l N T, WaitOk d r := by
  intro r hr
  rcases camL_mem hr with h1 | ⟨_, _, _, _, h2, h3⟩
  · exact h r h1
  · unfold WaitOk
    rw [h2, h3]; rfl
theorem wait_due {b d N : Int} {l : List WR} (hok : ∀ r ∈ l, WOk r) (h : ∀ r ∈ l, WaitOk d r) : ∀ r ∈ dueL b N l, WaitOk d r := by
  intro r hr
  obtain ⟨s, hs, hk⟩ := dueL_mem2 hr
  rcases hk with ⟨_, rfl⟩ | ⟨_, _, rfl⟩
  · exact h r hs
  · have h1 := h s hs
    have h2 := (hok s hs).t0
    unfold WaitOk at h1 ⊢
    show min (2 * s.w) 1048576 = waitN d (s.t + 1).toNat
    rw [h1, show (s.t + 1).toNat = s.t.toNat + 1 by omega]
    rfl
theorem wait_drop {d : Int} {l : List WR} (h : ∀ r ∈ l, WaitOk d r) (k : Nat) : ∀ r ∈ l.drop k, WaitOk d r := fun r hr => h r (List.drop_subset _ _ hr)
/-- What the document forgets is what the program does. -/
theorem fg_upto {l : List WR} {q q' : Int} {k : Nat} (hq : clipI q (-1099511627776) 1099511627776 = q') (h : UptoW l q' k) (hlo : ∀ r ∈ l, -1099511627776 < r.n) (hhi : ∀ r ∈ l, r.n ≤ 1099511627776) : fgW q l = l.drop k ∧ k ≤ l.length := by
  refine ⟨?_, h.le⟩
  have e : l = l.take k ++ l.drop k := (List.take_append_drop k l).symm
  unfold fgW
  conv => lhs; rw [e]
  rw [List.filter_append]
  have h1 : (l.take k).filter (fun r => decide (q < r.n)) = [] := by
    rw [List.filter_eq_nil_iff]
    intro r hr
    obtain ⟨i, hi, rfl⟩ := List.mem_iff_getElem.1 hr
    rw [List.length_take] at hi
    rw [List.getElem_take]
    have h2 := h.lo i _ (List.getElem?_eq_getElem (by omega)) (by omega)
    have h3 := hlo _ (List.getElem_mem (by omega : i < l.length))
    have h4 := hhi _ (List.getElem_mem (by omega : i < l.length))
    unfold clipI at hq
    simp; omega
  have h2 : (l.drop k).filter (fun r => decide (q < r.n)) = l.drop k := by
    rw [List.filter_eq_self]
    intro r hr
    obtain ⟨i, hi, rfl⟩ := List.mem_iff_getElem.1 hr
    rw [List.length_drop] at hi
    rw [List.getElem_drop]
    have h2 := h.hi (k + i) _ (List.getElem?_eq_getElem (by omega)) (by omega)
    have h3 := hlo _ (List.getElem_mem (by omega : k + i < l.length))
    have h4 := hhi _ (List.getElem_mem (by omega : k + i < l.length))
    unfold clipI at hq
    simp; omega
  rw [h1, h2, List.nil_append]
end Go.Proofs.Ytonamlgipoannaa
