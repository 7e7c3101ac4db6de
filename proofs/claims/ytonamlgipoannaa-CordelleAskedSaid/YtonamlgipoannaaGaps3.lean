/- Package gaps: where a number stands, what is wanting. No condition but that the gaps stand, by rising numbers. -/
import Derived.Test.YtonamlgipoannaaGaps2
namespace Go.Proofs.Ytonamlgipoannaa
open Go.RowKit BigFrame
attribute [local go_sem ↓] Go.wp_at_zero Go.wp_at_succ

theorem gaps_find (g : Nat) (a b c d : Int) (y : Bool) (e' u : Int) (l : List WR) (v : Value) (s : Int) (w : World) (h : GV w g a b c d y e' u l v) (hr : RisingW l) (hl : l.length ≤ 100000) :
    Calls Try.prog 53 #[.pointer (some ⟨g, 0, none⟩), .int .i64 s] w fun e w' => ∃ (p : Nat) (fd : Bool), e = .returned (.tuple #[.int .i64 (p : Nat), .bool fd]) ∧ foundW l s p = fd ∧ PosW l s p ∧ Below w.heap.size w w' := by
  have HS := Lib.hid (gaps_search l v s 0 w h.own hr hl)
  obtain ⟨va, vc, rfl, -⟩ := own_want h.own
  have c1 := h.blk.cell
  simp at c1
  clear h hr
  go_enter Try.func53, Try.ntmps53
  go_wp2_with fail
  refine HS.out.mono ?_
  rintro e w' ⟨p, fd, rfl, hf, hp, hb⟩
  have HF := Lib.hid hf
  clear hf
  go_wp2_with fail
  refine bodyPost_ret (v := .tuple #[.int .i64 (p : Nat), .bool fd]) ?_ rfl ⟨p, fd, rfl, HF.out, hp, hb⟩
  simp [results, Try.results53, go_sem]
theorem risingW_nil : RisingW [] := fun i j a b _ h => by simp at h
theorem foundW_none {l : List WR} {s : Int} {p : Nat} (h : foundW l s p = false) (hp : PosW l s p) (hr : RisingW l) : ∀ r ∈ l, r.n ≠ s := fun r hm e => by
  obtain ⟨i, hi, rfl⟩ := List.mem_iff_getElem.1 hm
  have h1 : l[i]? = some l[i] := List.getElem?_eq_getElem hi
  rcases Nat.lt_trichotomy i p with h2 | h2 | h2
  · have := hp.lo i _ h1 h2; omega
  · subst h2
    unfold foundW at h
    rw [h1] at h
    simp [e] at h
  · have hpl : p < l.length := by omega
    have h3 := hp.hi p l[p] (List.getElem?_eq_getElem hpl) (Nat.le_refl _)
    unfold foundW at h
    rw [List.getElem?_eq_getElem hpl] at h
    simp at h
    have h4 := hr p i _ _ h2 (List.getElem?_eq_getElem hpl) h1
    omega
theorem foundW_some {l : List WR} {s : Int} {p : Nat} (h : foundW l s p = true) : ∃ r, l[p]? = some r ∧ r.n = s := by
  unfold foundW at h
  split at h
  · next r hr => exact ⟨r, hr, by simpa using h⟩
  · cases h
def numC (l : List WR) : List Value := l.map fun r => .int .i64 r.n
set_option maxRecDepth 8000 in
set_option maxHeartbeats 4000000 in
theorem gaps_Wanting (g : Nat) (a b c d : Int) (y : Bool) (e' u : Int) (l : List WR) (v : Value) (w : World) (h : GV w g a b c d y e' u l v) (hl : l.length ≤ 100000) :
    Calls Try.prog 27 #[.pointer (some ⟨g, 0, none⟩)] w fun e w' => ∃ v', e = .returned v' ∧ w'.ownsRow w.heap.size 3 1 v' l.length (numC l) ∧ Below w.heap.size w w' := by
  obtain ⟨i0, hi0, hz0, hz1, hz2⟩ := info_parts (show (Try.prog.info? 3).map (fun i => (i.zero, i.size, i.bytes)) = some (some (.int .i64 0), 1, 8) by kernel_rfl)
  obtain ⟨va, vc, rfl, hc⟩ := own_want h.own
  have c1 := h.blk.cell
  simp at c1
  obtain ⟨n, hn⟩ : ∃ n, l.length = n := ⟨_, rfl⟩
  rw [hn] at hc hl c1 ⊢
  have HN := Lib.hid hn
  have HC := Lib.hid hc
  clear h hc hn
  go_enter Try.func27, Try.ntmps27
  go_wp2_with fail
  go_loopw [3, 11] (fun x3 x11 wr => ∃ k : Nat, k ≤ n ∧ x11 = .int .i64 k ∧ wr.ownsRow w.heap.size 3 1 x3 k (numC (l.take k)) ∧ Below w.heap.size w wr) (fun _ x11 _ => n - (intOf x11).toNat)
  case atStart => exact ⟨0, by omega, rfl, ⟨rfl, .inl ⟨rfl, rfl⟩⟩, Below.refl _ _⟩
  case round =>
    obtain ⟨k, hk, rfl, own, Bw⟩ := hrel
    by_cases hlt : k < n
    · obtain ⟨g', rfl, hg, hcell⟩ := HC.out (by omega)
      have hql : k < l.length := by have := HN.out; omega
      obtain ⟨r, hrr⟩ : ∃ r, l[k]? = some r := ⟨_, List.getElem?_eq_getElem hql⟩
      obtain ⟨e0, e1, e2, e3⟩ := hcell k r hrr
      have d0 := (Bw.cell (p := ⟨g', k * 4, none⟩) hg).trans e0
      have d1 := (Bw.cell (p := ⟨g', k * 4 + 1, none⟩) hg).trans e1
      have d2 := (Bw.cell (p := ⟨g', k * 4 + 2, none⟩) hg).trans e2
      have d3 := (Bw.cell (p := ⟨g', k * 4 + 3, none⟩) hg).trans e3
      have HS := Lib.hid (show numC (l.take (k + 1)) = numC (l.take k) ++ [.int .i64 r.n] by
        unfold numC; rw [List.take_add_one, hrr, List.map_append]; rfl)
      have p0 : (0 : Int) ≤ (k : Int) := by omega
      have p1 : (k : Int) < (n : Int) := by omega
      have wk : IntKind.i64.wrap ((k : Int) + 1) = ((k + 1 : Nat) : Int) := by rw [IntWalk.i64_in _ (by omega)]; omega
      have Ka := Blk.new wr 112 #[.int .i64 r.n, .int .i64 r.at_, .int .i64 r.t, .int .i64 r.w]
      have Ba : Below wr.heap.size wr (wr.alloc (.cells #[.int .i64 r.n, .int .i64 r.at_, .int .i64 r.t, .int .i64 r.w] 112)) := (Below.refl _ wr).alloc (Nat.le_refl _) _
      have own' := own_at own (w' := wr.alloc (.cells #[.int .i64 r.n, .int .i64 r.at_, .int .i64 r.t, .int .i64 r.w] 112)) (fun j hj => Ba.block j (own.lt j hj).2)
      have BW := below_then Bw Ba (Nat.le_refl _)
      have hbs := BW.size
      clear e0 e1 e2 e3 hrr hcell hql own
      go_upto_region 5 with fail
      clear d0 d1 d2 d3
      generalize wr.alloc (.cells #[.int .i64 r.n, .int .i64 r.at_, .int .i64 r.t, .int .i64 r.w] 112) = wa at *
      have ca := Ka.cell
      simp at ca
      go_wp2_with (at_builtin; refine wpList_append_lies _ rfl _ _ 38 rfl w.heap.size 3 i0 (.int .i64 0) 1 8 Try.underlying38 hi0 hz0 hz1 hz2 rfl (by decide) _ _ _ rfl (own'.alloc _) ⟨wa.heap.size, 0, none⟩ 1 1 [.int .i64 r.n] rfl rfl (cell_one_new _ _ _) (by simp [Value.oneCell']) (by omega) (by rw [maxLen_eq]; omega) (by omega) (by simp; omega) _ rfl ?_; intro g2 cap w6 own6 hgrow hat hlt6)
      have hB6 : Below w.heap.size w w6 := (BW.alloc hbs _).grown hgrow (by simp; omega) (fun j hj => (own'.lt j hj).1)
      go_roundw
      case rel => exact ⟨k + 1, by omega, by go_num, by rw [HS.out]; exact own6, hB6⟩
      case measure => simp only [intOf]; omega
    · obtain rfl : k = n := by omega
      have p1 : ¬ (k : Int) < (k : Int) := by omega
      have hall : l.take k = l := by have := HN.out; rw [← this]; exact List.take_length
      rw [hall] at own
      go_wp2_with fail
      go_ret
      exact ⟨_, rfl, own, Bw⟩
end Go.Proofs.Ytonamlgipoannaa
