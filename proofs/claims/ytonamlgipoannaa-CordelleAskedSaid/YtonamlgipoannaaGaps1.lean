/- Package gaps: slices.Delete at wanting ones; rows of them. No condition but that the row is the call's own. -/
import Derived.Test.YtonamlgipoannaaHist7
namespace Go.Proofs.Ytonamlgipoannaa
open Go.RowKit BigFrame
attribute [local go_sem ↓] Go.wp_at_zero Go.wp_at_succ

def zWant : Array Value := #[.int .i64 0, .int .i64 0, .int .i64 0, .int .i64 0]
theorem zero_want (w : World) : (zeroValue 112).run Try.prog w = .ok (.agg zWant) w := by kernel_rfl
def zWants (n : Nat) : List Value := (Builtin.zeroCells zWant n).toList
theorem zWants_len (n : Nat) : (zWants n).length = n * 4 := by unfold zWants; rw [Array.length_toList, size_zeroCells]; rfl
theorem zWants_one (n : Nat) : ∀ u ∈ zWants n, u.oneCell' = true := by
  intro u hu
  unfold zWants Builtin.zeroCells at hu
  simp only [Array.toList_map, List.mem_map] at hu
  obtain ⟨i, _, rfl⟩ := hu
  have : i % 4 < 4 := Nat.mod_lt _ (by decide)
  have hz : zWant.size = 4 := rfl
  rw [hz]
  generalize i % 4 = j at *
  match j, this with
  | 0, _ => rfl
  | 1, _ => rfl
  | 2, _ => rfl
  | 3, _ => rfl
theorem run_clear_want (w : World) (t ty : TypeId) (ht : Try.prog.underlying t = some (.slice 112)) (b o n c : Nat) (hn : 0 < n)
    (hc : ∀ j, j < n * 4 → (w.cell? ⟨b, o + j, none⟩).isSome = true) (hf : ∀ j, j < n * 4 → w.frozen? ⟨b, o + j, none⟩ = false) :
    (Builtin.clear_ #[t] ty #[.slice (some ⟨b, o, none⟩) n c]).run Try.prog w = .ok (.tuple #[]) (w.setCells b o (zWants n)) := by
  have hst := run_storeCells_cells (P := Try.prog) b o (zWants n) 0 w (by rw [zWants_len]; simpa using hc) (by rw [zWants_len]; simpa using hf) (zWants_one n)
  simp only [Nat.add_zero] at hst
  obtain ⟨m, rfl⟩ : ∃ m, n = m + 1 := ⟨n - 1, by omega⟩
  have hzc : (Builtin.zeroCells (Value.agg #[.int .i64 0, .int .i64 0, .int .i64 0, .int .i64 0]).cells (m + 1)).toList = zWants (m + 1) := rfl
  have hzv : ∀ w, (zeroValue 112).run Try.prog w = .ok (.agg #[.int .i64 0, .int .i64 0, .int .i64 0, .int .i64 0]) w := zero_want
  simp [Builtin.clear_, run_underlying ht, hzv, hzc, hst]

theorem info_want : ∃ i, Try.prog.info? 112 = some i ∧ i.zero = some (.agg zWant) ∧ i.size = 4 ∧ i.bytes = 32 := by
  have h : (Try.prog.info? 112).map (fun i => (i.zero, i.size, i.bytes)) = some (some (.agg zWant), 4, 32) := by kernel_rfl
  obtain ⟨i, hi, he⟩ := Option.map_eq_some_iff.1 h
  simp only [Prod.mk.injEq] at he
  exact ⟨i, hi, he.1, he.2.1, he.2.2⟩
set_option maxHeartbeats 4000000 in
set_option maxRecDepth 1000000 in
/-- Places p .. p+k-1 go. -/
theorem want_Delete (B g N p m k cap : Nat) (xs ds ys : List Value) (w : World) (own : w.ownsRow B 112 4 (.slice (some ⟨g, 0, none⟩) N cap) N (xs ++ (ds ++ ys))) (hone : ∀ u ∈ ys, u.oneCell' = true) (hx : xs.length = p * 4) (hd : ds.length = k * 4) (hy : ys.length = m * 4) (hN : p + k + m = N) (hk0 : 0 < k) (hsm : N ≤ 100000) :
    Calls Try.prog 54 #[.slice (some ⟨g, 0, none⟩) N cap, .int .i64 (p : Int), .int .i64 ((p + k : Nat) : Int)] w fun e w' => e = .returned (.slice (some ⟨g, 0, none⟩) (p + m) cap) ∧ w'.ownsRow B 112 4 (.slice (some ⟨g, 0, none⟩) (p + m) cap) (p + m) (xs ++ ys) ∧ (∀ k, k ≠ g → w'.heap[k]? = w.heap[k]?) ∧ Below B w w' := by
  obtain ⟨i0, hi0, hz0, hz1, hz2⟩ := info_want
  obtain ⟨cur, hb, hg, hn, hm, hs, ht⟩ : ∃ cur, B ≤ g ∧ Blk w g 112 cur ∧ N ≤ cap ∧ cap ≤ maxLen ∧ cur.size = cap * 4 ∧ cur.toList.take (N * 4) = xs ++ (ds ++ ys) := by
    rcases own.2 with ⟨h, _⟩ | ⟨g', cap', cur, h, hb, hg, hn, hm, hs, ht⟩
    · cases h
    · injection h with h1 h2 h3
      injection h1 with h1
      injection h1 with h1
      subst h1 h3
      exact ⟨cur, hb, hg, hn, hm, hs, ht⟩
  rw [maxLen_eq] at hm
  obtain ⟨q, hq⟩ : ∃ q, p + k = q := ⟨_, rfl⟩
  obtain ⟨M, hM⟩ : ∃ M, p + m = M := ⟨_, rfl⟩
  rw [hq, hM]
  have hcell : ∀ j, j < m * 4 → w.cell? ⟨g, q * 4 + j, none⟩ = ys[j]? := fun j hj => by
    rw [hg.cell, ← Array.getElem?_toList]
    have this : (cur.toList.take (N * 4))[q * 4 + j]? = (xs ++ (ds ++ ys))[q * 4 + j]? := by rw [ht]
    rw [List.getElem?_take, if_pos (by omega)] at this
    rw [this, ← List.append_assoc, List.getElem?_append_right (by rw [List.length_append]; omega), List.length_append, hx, hd]
    congr 1; omega
  have hk2 := set_blk ys (p * 4) w.drew cur hg.drew
  have hsz2 := setL_size ys (p * 4) cur
  have htx : cur.toList.take (p * 4) = xs := by
    have h1 := congrArg (List.take (p * 4)) ht
    have e1 : (xs ++ (ds ++ ys)).take (p * 4) = xs := by rw [← hx, List.take_left]
    rw [List.take_take, e1, Nat.min_eq_left (show p * 4 ≤ N * 4 by omega)] at h1
    exact h1
  obtain ⟨A, hA, hsrc⟩ : ∃ A : Addr, (if cap = q then some (⟨g, 0, none⟩ : Addr) else some ⟨g, q * 4, none⟩) = some A ∧ Hid (∀ t u, ys[t]? = some u → w.drew.cell? (A.add t) = some u) := by
    by_cases h : cap = q
    · refine ⟨⟨g, 0, none⟩, by simp [h], fun t u hu => ?_⟩
      have h0 : ys.length = 0 := by omega
      rw [List.length_eq_zero_iff.1 h0] at hu
      simp at hu
    · refine ⟨⟨g, q * 4, none⟩, by simp [h], fun t u hu => ?_⟩
      have ht : t < m * 4 := by
        have := (List.getElem?_eq_some_iff.1 hu).1
        omega
      rw [Addr.add_lit]
      exact (hcell t ht).trans hu
  have s1 : Hid (ys.length = m * 4) := hy
  have s2 : Hid (∀ u ∈ ys, u.oneCell' = true) := hone
  have s3 : Hid (∀ t, t < ys.length → (w.drew.cell? ⟨g, 0 + p * 4 + t, none⟩).isSome = true ∧ w.drew.frozen? ⟨g, 0 + p * 4 + t, none⟩ = false) := by
    intro t ht'
    refine ⟨?_, hg.drew.frozen _⟩
    rw [hg.drew.cell, Array.getElem?_eq_getElem (by omega)]
    rfl
  obtain ⟨W1, hW1⟩ : ∃ W1, W1 = w.drew.setCells g (0 + p * 4) ys := ⟨_, rfl⟩
  have hk1 : Blk W1 g 112 (setL cur (p * 4) ys) := by rw [hW1, Nat.zero_add]; exact hk2
  have hcl : ∀ ty c, (Builtin.clear_ #[108] ty #[.slice (some ⟨g, M * 4, none⟩) k c]).run Try.prog W1 = .ok (.tuple #[]) (W1.setCells g (M * 4) (zWants k)) :=
    fun ty c => run_clear_want W1 _ ty Try.underlying108 g (M * 4) k c hk0 (fun t ht => by rw [hk1.cell, Array.getElem?_eq_getElem (by rw [hsz2]; omega)]; rfl) (fun t ht => hk1.frozen _)
  have HF := Lib.hid (show (W1.setCells g (M * 4) (zWants k)).ownsRow B 112 4 (.slice (some ⟨g, 0, none⟩) M cap) M (xs ++ ys) ∧ (∀ k', k' ≠ g → (W1.setCells g (M * 4) (zWants k)).heap[k']? = w.heap[k']?) ∧ Below B w (W1.setCells g (M * 4) (zWants k)) by
    refine ⟨⟨by rw [List.length_append]; omega, .inr ⟨g, cap, setL (setL cur (p * 4) ys) (M * 4) (zWants k), rfl, hb, set_blk _ (M * 4) W1 _ hk1, by omega, by rw [maxLen_eq]; omega, by rw [setL_size, setL_size, hs], ?_⟩⟩, fun k hk => (set_far hk _ _ _).trans (by rw [hW1]; exact set_far hk _ _ _), set_below hb _ _ _ _ (by rw [hW1]; exact set_below hb _ _ _ _ (Below.refl _ _).drew)⟩
    rw [setL_list _ _ _ (by rw [setL_size, zWants_len]; omega), setL_list _ _ _ (by omega), htx]
    have hl : (xs ++ ys).length = M * 4 := by rw [List.length_append]; omega
    have hl2 : (xs ++ ys ++ cur.toList.drop (p * 4 + ys.length)).take (M * 4) = xs ++ ys := by rw [List.take_append, List.take_of_length_le (by omega), hl, Nat.sub_self, List.take_zero, List.append_nil]
    rw [hl2, List.append_assoc (xs ++ ys), List.take_append, List.take_of_length_le (by omega), hl, Nat.sub_self, List.take_zero, List.append_nil])
  have hn0 : M ≤ cap := by omega
  have hn1 : q ≤ cap := by omega
  have hn2 : M ≤ N := by omega
  have hn3 : q ≤ N := by omega
  have hn4 : p ≤ q := by omega
  have hn5 : p ≤ cap := by omega
  have hcn : ¬ (cap = M) := by omega
  have hNm : N - M = k := by omega
  have hNk : N - q = m := by omega
  have hp0 : (0 : Int) ≤ (q : Int) := by omega
  have hp1 : (q : Int) ≤ (N : Int) := by omega
  have hp2 : (M : Int) ≤ (N : Int) := by omega
  have hp3 : (0 : Int) ≤ (M : Int) := by omega
  have hp4 : ((p : Int) == (q : Int)) = false := by simp; omega
  have hp5 : ¬ (p = q) := by omega
  have hp6 : ¬ ((p : Int) = (q : Int)) := by omega
  have hp7 : (0 : Int) ≤ (p : Int) := by omega
  have hp8 : (p : Int) ≤ (q : Int) := by omega
  have hp9 : (p : Int) ≤ (cap : Int) := by omega
  have hpm : p + m ≤ cap := by omega
  have HM : Hid (p + m = M) := hM
  have hW : Hid (W1 = w.drew.setCells g (0 + p * 4) ys) := hW1
  clear hW1 hk1 hk2 hsz2 hcell hg ht hs own hone hN hq hM htx hx hd hy
  go_enter Try.func54, Try.ntmps54
  go_wp2_with fail
  go_region_law (refine step_append_room rfl (.tmp 22) (.tmp 25) 108 rfl 112 i0 4 Try.underlying108 hi0 hz1 g 0 p cap (by simp [Act.eval, Act.put]) A m (cap - q) ys (by simp [Act.eval, Act.put]) s1.out hsrc.out s2.out (by omega) s3.out ?_; rw [← hW.out, HM.out])
  go_wp2
  go_ret
  exact ⟨by simp, HF.out.1, HF.out.2.1, HF.out.2.2⟩
end Go.Proofs.Ytonamlgipoannaa
