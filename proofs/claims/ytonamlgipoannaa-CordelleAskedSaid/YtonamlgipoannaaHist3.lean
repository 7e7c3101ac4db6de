/- Package history: where a number stands, Put, Get, Seqs. No condition but that the history stands, by rising numbers. -/
import Derived.Test.YtonamlgipoannaaHist2
namespace Go.Proofs.Ytonamlgipoannaa
open Go.RowKit BigFrame
attribute [local go_sem ↓] Go.wp_at_zero Go.wp_at_succ

theorem HV.store {wr w1 : World} {g : Nat} {a b c : Int} {l l2 : List HR} {v v2 : Value} (H : HV wr g a b c l v) (hB : Below 0 wr w1) (hk : ∀ k, k < wr.heap.size → v.ownBlock ≠ some k → w1.heap[k]? = wr.heap[k]?)
    (own : w1.ownsRow 0 33 4 v2 l2.length (rowR l2)) (hr : ∀ k, v2.ownBlock = some k → v.ownBlock = some k ∨ wr.heap.size ≤ k) :
    HV (w1.setCell ⟨g, 3, none⟩ v2) g a b c l2 v2 ∧ Moved wr (w1.setCell ⟨g, 3, none⟩ v2) g v v2 := by
  have hg := H.blk.lt
  have hn : v2.ownBlock ≠ some g := fun e => by
    rcases hr g e with h | h
    · exact H.ne h
    · omega
  have k1 : Blk w1 g 95 #[.int .i64 a, .int .i64 b, .int .i64 c, v] := (hk g hg H.ne).trans H.blk
  have k2 := k1.set_ 3 v2
  simp at k2
  exact ⟨⟨k2, own_at own (fun j hj => Below.heap_setCell _ ⟨g, 3, none⟩ _ j (fun e => hn (by rw [hj, e]))), hn⟩, ⟨hB.setCell (Nat.zero_le _) _, fun k h1 h2 h3 => (Below.heap_setCell _ ⟨g, 3, none⟩ _ k h2).trans (hk k h1 h3), hr⟩⟩
theorem hist_at (g : Nat) (a b c : Int) (l : List HR) (v : Value) (s : Int) (w : World) (h : HV w g a b c l v) (hr : Rising l) (hl : l.length ≤ 100000) :
    Calls Try.prog 42 #[.pointer (some ⟨g, 0, none⟩), .int .i64 s] w fun e w' => ∃ (p : Nat) (fd : Bool), e = .returned (.tuple #[.int .i64 (p : Nat), .bool fd]) ∧ foundR l s p = fd ∧ PosR l s p ∧ Below w.heap.size w w' := by
  have HS := Lib.hid (hist_search l v s 0 w h.own hr hl)
  obtain ⟨va, vc, rfl, -⟩ := own_rec h.own
  have c1 := h.blk.cell
  simp at c1
  clear h hr
  go_enter Try.func42, Try.ntmps42
  go_wp2_with fail
  refine HS.out.mono ?_
  rintro e w' ⟨p, fd, rfl, hf, hp, hb⟩
  have HF := Lib.hid hf
  clear hf
  go_wp2_with fail
  refine bodyPost_ret (v := .tuple #[.int .i64 (p : Nat), .bool fd]) ?_ rfl ⟨p, fd, rfl, HF.out, hp, hb⟩
  simp [results, Try.results42, go_sem]
theorem rising_nil : Rising [] := fun i j a b _ h => by simp at h
theorem foundR_none {l : List HR} {s : Int} {p : Nat} (h : foundR l s p = false) (hp : PosR l s p) (hr : Rising l) : ∀ r ∈ l, r.seq ≠ s := fun r hm e => by
  obtain ⟨i, hi, rfl⟩ := List.mem_iff_getElem.1 hm
  have h1 : l[i]? = some l[i] := List.getElem?_eq_getElem hi
  rcases Nat.lt_trichotomy i p with h2 | h2 | h2
  · have := hp.lo i _ h1 h2; omega
  · subst h2
    unfold foundR at h
    rw [h1] at h
    simp [e] at h
  · have hpl : p < l.length := by omega
    have h3 := hp.hi p l[p] (List.getElem?_eq_getElem hpl) (Nat.le_refl _)
    unfold foundR at h
    rw [List.getElem?_eq_getElem hpl] at h
    simp at h
    have h4 := hr p i _ _ h2 (List.getElem?_eq_getElem hpl) h1
    omega
theorem foundR_some {l : List HR} {s : Int} {p : Nat} (h : foundR l s p = true) : ∃ r, l[p]? = some r ∧ r.seq = s := by
  unfold foundR at h
  split at h
  · next r hr => exact ⟨r, hr, by simpa using h⟩
  · cases h
def seqC (l : List HR) : List Value := l.map fun r => .int .i64 r.seq
set_option maxRecDepth 8000 in
set_option maxHeartbeats 4000000 in
theorem hist_Seqs (g : Nat) (a b c : Int) (l : List HR) (v : Value) (w : World) (h : HV w g a b c l v) (hl : l.length ≤ 100000) :
    Calls Try.prog 17 #[.pointer (some ⟨g, 0, none⟩)] w fun e w' => ∃ v', e = .returned v' ∧ w'.ownsRow w.heap.size 3 1 v' l.length (seqC l) ∧ Below w.heap.size w w' := by
  obtain ⟨i0, hi0, hz0, hz1, hz2⟩ := info_parts (show (Try.prog.info? 3).map (fun i => (i.zero, i.size, i.bytes)) = some (some (.int .i64 0), 1, 8) by kernel_rfl)
  obtain ⟨va, vc, rfl, hc⟩ := own_rec h.own
  have c1 := h.blk.cell
  simp at c1
  obtain ⟨n, hn⟩ : ∃ n, l.length = n := ⟨_, rfl⟩
  rw [hn] at hc hl c1 ⊢
  have HN := Lib.hid hn
  have HC := Lib.hid hc
  clear h hc hn
  go_enter Try.func17, Try.ntmps17
  go_wp2_with fail
  go_loopw [3, 11] (fun x3 x11 wr => ∃ k : Nat, k ≤ n ∧ x11 = .int .i64 k ∧ wr.ownsRow w.heap.size 3 1 x3 k (seqC (l.take k)) ∧ Below w.heap.size w wr) (fun _ x11 _ => n - (intOf x11).toNat)
  case atStart => exact ⟨0, by omega, rfl, ⟨rfl, .inl ⟨rfl, rfl⟩⟩, Below.refl _ _⟩
  case round =>
    obtain ⟨k, hk, rfl, own, Bw⟩ := hrel
    by_cases hlt : k < n
    · obtain ⟨g', rfl, hg, hcell⟩ := HC.out (by omega)
      have hql : k < l.length := by have := HN.out; omega
      obtain ⟨r, hrr⟩ : ∃ r, l[k]? = some r := ⟨_, List.getElem?_eq_getElem hql⟩
      obtain ⟨e0, e1, e2, e3⟩ := hcell k r hrr
      have d0 := (Bw.cell (p := ⟨g', k * 4, none⟩) hg).trans e0
      have d1 := (Bw.cell (p := ⟨g', k * 4 + 1, none⟩) hg).trans e1
      have d2 := (Bw.cell (p := ⟨g', k * 4 + 2, none⟩) hg).trans e2
      have d3 := (Bw.cell (p := ⟨g', k * 4 + 3, none⟩) hg).trans e3
      have HS := Lib.hid (show seqC (l.take (k + 1)) = seqC (l.take k) ++ [.int .i64 r.seq] by
        unfold seqC; rw [List.take_add_one, hrr, List.map_append]; rfl)
      have p0 : (0 : Int) ≤ (k : Int) := by omega
      have p1 : (k : Int) < (n : Int) := by omega
      have wk : IntKind.i64.wrap ((k : Int) + 1) = ((k + 1 : Nat) : Int) := by rw [IntWalk.i64_in _ (by omega)]; omega
      have Ka := Blk.new wr 33 #[.int .i64 r.seq, .int .i64 r.tries, .int .i64 r.path, .string r.data]
      have Ba : Below wr.heap.size wr (wr.alloc (.cells #[.int .i64 r.seq, .int .i64 r.tries, .int .i64 r.path, .string r.data] 33)) := (Below.refl _ wr).alloc (Nat.le_refl _) _
      have own' := own_at own (w' := wr.alloc (.cells #[.int .i64 r.seq, .int .i64 r.tries, .int .i64 r.path, .string r.data] 33)) (fun j hj => Ba.block j (own.lt j hj).2)
      have BW := below_then Bw Ba (Nat.le_refl _)
      have hbs := BW.size
      clear e0 e1 e2 e3 hrr hcell hql own
      go_upto_region 5 with fail
      clear d0 d1 d2 d3
      generalize wr.alloc (.cells #[.int .i64 r.seq, .int .i64 r.tries, .int .i64 r.path, .string r.data] 33) = wa at *
      have ca := Ka.cell
      simp at ca
      go_wp2_with (at_builtin; refine wpList_append_lies _ rfl _ _ 38 rfl w.heap.size 3 i0 (.int .i64 0) 1 8 Try.underlying38 hi0 hz0 hz1 hz2 rfl (by decide) _ _ _ rfl (own'.alloc _) ⟨wa.heap.size, 0, none⟩ 1 1 [.int .i64 r.seq] rfl rfl (cell_one_new _ _ _) (by simp [Value.oneCell']) (by omega) (by rw [maxLen_eq]; omega) (by omega) (by simp; omega) _ rfl ?_; intro g2 cap w6 own6 hgrow hat hlt6)
      have hB6 : Below w.heap.size w w6 := (BW.alloc hbs _).grown hgrow (by simp; omega) (fun j hj => (own'.lt j hj).1)
      go_roundw
      case rel => exact ⟨k + 1, by omega, by go_num, by rw [HS.out]; exact own6, hB6⟩
      case measure => simp only [intOf]; omega
    · obtain rfl : k = n := by omega
      have p1 : ¬ (k : Int) < (k : Int) := by omega
      have hall : l.take k = l := by have := HN.out; rw [← this]; exact List.take_length
      rw [hall] at own
      go_wp2_with fail
      go_ret
      exact ⟨_, rfl, own, Bw⟩
end Go.Proofs.Ytonamlgipoannaa
