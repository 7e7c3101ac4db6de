/- slices.Delete at records, from the first one on, walked; rows of records. No condition but that the row is the call's own. -/
import Derived.Test.YtonamlgipoannaaFree
import Derived.Test.YtonamlgipoannaaApp
import Derived.Test.YtonamlgipoannaaOwn
import Derived.Deep.RegionLaw
import Derived.Lib.SliceRun
namespace Go.Proofs.Ytonamlgipoannaa
open Go.RowKit BigFrame
attribute [local go_sem ↓] Go.wp_at_zero Go.wp_at_succ

theorem own_at {w w' : World} {B e size n : Nat} {v : Value} {xs : List Value} (h : w.ownsRow B e size v n xs) (hk : ∀ j, v.ownBlock = some j → w'.heap[j]? = w.heap[j]?) : w'.ownsRow B e size v n xs := by
  refine ⟨h.1, ?_⟩
  rcases h.2 with hn | ⟨g, cap, cur, rfl, hb, hgg, rest⟩
  · exact .inl hn
  · exact .inr ⟨g, cap, cur, rfl, hb, (hk g rfl).trans hgg, rest⟩
theorem own_base {w : World} {B e size n : Nat} {v : Value} {xs : List Value} (h : w.ownsRow B e size v n xs) : w.ownsRow 0 e size v n xs := by
  refine ⟨h.1, ?_⟩
  rcases h.2 with hn | ⟨g, cap, cur, rfl, hbg, hg, r⟩
  · exact .inl hn
  · exact .inr ⟨g, cap, cur, rfl, Nat.zero_le _, hg, r⟩
theorem set_below {B g : Nat} (hB : B ≤ g) (a : World) : ∀ (us : List Value) (o : Nat) (W : World), Below B a W → Below B a (W.setCells g o us)
  | [], _, _, h => h
  | u :: us, o, W, h => set_below hB a us (o + 1) _ (h.setCell hB u)
theorem set_far {g k : Nat} (hk : k ≠ g) : ∀ (us : List Value) (o : Nat) (W : World), (W.setCells g o us).heap[k]? = W.heap[k]?
  | [], _, _ => rfl
  | u :: us, o, W => (set_far hk us (o + 1) _).trans (Below.heap_setCell _ ⟨g, o, none⟩ _ _ hk)
def setL (cs : Array Value) : Nat → List Value → Array Value
  | _, [] => cs
  | o, u :: us => setL (cs.setIfInBounds o u) (o + 1) us
theorem set_blk {g : Nat} {t : TypeId} : ∀ (us : List Value) (o : Nat) (W : World) (cs : Array Value), Blk W g t cs → Blk (W.setCells g o us) g t (setL cs o us)
  | [], _, _, _, h => h
  | u :: us, o, W, cs, h => set_blk us (o + 1) _ _ (h.set_ o u)
theorem setL_size : ∀ (us : List Value) (o : Nat) (cs : Array Value), (setL cs o us).size = cs.size
  | [], _, _ => rfl
  | u :: us, o, cs => by rw [setL, setL_size us]; simp
theorem setL_list : ∀ (us : List Value) (o : Nat) (cs : Array Value), o + us.length ≤ cs.size → (setL cs o us).toList = cs.toList.take o ++ us ++ cs.toList.drop (o + us.length)
  | [], o, cs, _ => by simp [setL]
  | u :: us, o, cs, h => by
    rw [List.length_cons] at h
    rw [setL, setL_list us (o + 1) _ (by simp; omega)]
    have e : (cs.setIfInBounds o u).toList = cs.toList.take o ++ u :: cs.toList.drop (o + 1) := by
      rw [Array.toList_setIfInBounds, List.set_eq_take_append_cons_drop, if_pos (by simp; omega)]
    have hl : (cs.toList.take o).length = o := by simp; omega
    have e1 : (cs.setIfInBounds o u).toList.take (o + 1) = cs.toList.take o ++ [u] := by
      rw [e, List.take_append, hl, show o + 1 - o = 1 by omega, List.take_of_length_le (by omega)]
      rfl
    have e2 : (cs.setIfInBounds o u).toList.drop (o + 1 + us.length) = cs.toList.drop (o + (us.length + 1)) := by
      rw [e, List.drop_append, hl, List.drop_of_length_le (by omega), show o + 1 + us.length - o = us.length + 1 by omega, List.nil_append, List.drop_succ_cons, List.drop_drop]
      congr 1; omega
    rw [e1, e2, List.length_cons]
    simp
def zRec : Array Value := #[.int .i64 0, .int .i64 0, .int .i64 0, .string ByteArray.empty]
theorem zero_rec (w : World) : (zeroValue 33).run Try.prog w = .ok (.agg zRec) w := by kernel_rfl
def zRecs (n : Nat) : List Value := (Builtin.zeroCells zRec n).toList
theorem zRecs_len (n : Nat) : (zRecs n).length = n * 4 := by unfold zRecs; rw [Array.length_toList, size_zeroCells]; rfl
theorem zRecs_one (n : Nat) : ∀ u ∈ zRecs n, u.oneCell' = true := by
  intro u hu
  unfold zRecs Builtin.zeroCells at hu
  simp only [Array.toList_map, List.mem_map] at hu
  obtain ⟨i, _, rfl⟩ := hu
  have : i % 4 < 4 := Nat.mod_lt _ (by decide)
  have hz : zRec.size = 4 := rfl
  rw [hz]
  generalize i % 4 = j at *
  match j, this with
  | 0, _ => rfl
  | 1, _ => rfl
  | 2, _ => rfl
  | 3, _ => rfl
theorem run_clear_rec (w : World) (t ty : TypeId) (ht : Try.prog.underlying t = some (.slice 33)) (b o n c : Nat) (hn : 0 < n)
    (hc : ∀ j, j < n * 4 → (w.cell? ⟨b, o + j, none⟩).isSome = true) (hf : ∀ j, j < n * 4 → w.frozen? ⟨b, o + j, none⟩ = false) :
    (Builtin.clear_ #[t] ty #[.slice (some ⟨b, o, none⟩) n c]).run Try.prog w = .ok (.tuple #[]) (w.setCells b o (zRecs n)) := by
  have hst := run_storeCells_cells (P := Try.prog) b o (zRecs n) 0 w (by rw [zRecs_len]; simpa using hc) (by rw [zRecs_len]; simpa using hf) (zRecs_one n)
  simp only [Nat.add_zero] at hst
  obtain ⟨m, rfl⟩ : ∃ m, n = m + 1 := ⟨n - 1, by omega⟩
  have hzc : (Builtin.zeroCells (Value.agg #[.int .i64 0, .int .i64 0, .int .i64 0, .string ⟨#[]⟩]).cells (m + 1)).toList = zRecs (m + 1) := rfl
  have hzv : ∀ w, (zeroValue 33).run Try.prog w = .ok (.agg #[.int .i64 0, .int .i64 0, .int .i64 0, .string ⟨#[]⟩]) w := zero_rec
  simp [Builtin.clear_, run_underlying ht, hzv, hzc, hst]

theorem info_rec : ∃ i, Try.prog.info? 33 = some i ∧ i.zero = some (.agg zRec) ∧ i.size = 4 ∧ i.bytes = 40 := by
  have h : (Try.prog.info? 33).map (fun i => (i.zero, i.size, i.bytes)) = some (some (.agg zRec), 4, 40) := by kernel_rfl
  obtain ⟨i, hi, he⟩ := Option.map_eq_some_iff.1 h
  simp only [Prod.mk.injEq] at he
  exact ⟨i, hi, he.1, he.2.1, he.2.2⟩
set_option maxHeartbeats 4000000 in
set_option maxRecDepth 1000000 in
theorem rec_Delete (B g N m k cap : Nat) (xs ys : List Value) (w : World) (own : w.ownsRow B 33 4 (.slice (some ⟨g, 0, none⟩) N cap) N (xs ++ ys)) (hone : ∀ u ∈ ys, u.oneCell' = true) (hx : xs.length = k * 4) (hy : ys.length = m * 4) (hN : m + k = N) (hk0 : 0 < k) (hsm : N ≤ 100000) :
    Calls Try.prog 41 #[.slice (some ⟨g, 0, none⟩) N cap, .int .i64 0, .int .i64 (k : Int)] w fun e w' => e = .returned (.slice (some ⟨g, 0, none⟩) m cap) ∧ w'.ownsRow B 33 4 (.slice (some ⟨g, 0, none⟩) m cap) m ys ∧ (∀ k, k ≠ g → w'.heap[k]? = w.heap[k]?) ∧ Below B w w' := by
  obtain ⟨i0, hi0, hz0, hz1, hz2⟩ := info_rec
  obtain ⟨cur, hb, hg, hn, hm, hs, ht⟩ : ∃ cur, B ≤ g ∧ Blk w g 33 cur ∧ N ≤ cap ∧ cap ≤ maxLen ∧ cur.size = cap * 4 ∧ cur.toList.take (N * 4) = xs ++ ys := by
    rcases own.2 with ⟨h, _⟩ | ⟨g', cap', cur, h, hb, hg, hn, hm, hs, ht⟩
    · cases h
    · injection h with h1 h2 h3
      injection h1 with h1
      injection h1 with h1
      subst h1 h3
      exact ⟨cur, hb, hg, hn, hm, hs, ht⟩
  rw [maxLen_eq] at hm
  have hcell : ∀ j, j < m * 4 → w.cell? ⟨g, k * 4 + j, none⟩ = ys[j]? := fun j hj => by
    rw [hg.cell, ← Array.getElem?_toList]
    have this : (cur.toList.take (N * 4))[k * 4 + j]? = (xs ++ ys)[k * 4 + j]? := by rw [ht]
    rw [List.getElem?_take, if_pos (by omega)] at this
    rw [this, List.getElem?_append_right (by omega), hx]
    congr 1; omega
  have hk2 := set_blk ys 0 w.drew cur hg.drew
  have hsz2 := setL_size ys 0 cur
  obtain ⟨A, hA, hsrc⟩ : ∃ A : Addr, (if cap = k then some (⟨g, 0, none⟩ : Addr) else some ⟨g, k * 4, none⟩) = some A ∧ Hid (∀ t u, ys[t]? = some u → w.drew.cell? (A.add t) = some u) := by
    by_cases h : cap = k
    · refine ⟨⟨g, 0, none⟩, by simp [h], fun t u hu => ?_⟩
      have h0 : ys.length = 0 := by omega
      rw [List.length_eq_zero_iff.1 h0] at hu
      simp at hu
    · refine ⟨⟨g, k * 4, none⟩, by simp [h], fun t u hu => ?_⟩
      have ht : t < m * 4 := by
        have := (List.getElem?_eq_some_iff.1 hu).1
        omega
      rw [Addr.add_lit]
      exact (hcell t ht).trans hu
  have s1 : Hid (ys.length = m * 4) := hy
  have s2 : Hid (∀ u ∈ ys, u.oneCell' = true) := hone
  have s3 : Hid (∀ t, t < ys.length → (w.drew.cell? ⟨g, 0 + 0 * 4 + t, none⟩).isSome = true ∧ w.drew.frozen? ⟨g, 0 + 0 * 4 + t, none⟩ = false) := by
    intro t ht'
    refine ⟨?_, hg.drew.frozen _⟩
    rw [hg.drew.cell, Array.getElem?_eq_getElem (by omega)]
    rfl
  obtain ⟨W1, hW1⟩ : ∃ W1, W1 = w.drew.setCells g (0 + 0 * 4) ys := ⟨_, rfl⟩
  have hk1 : Blk W1 g 33 (setL cur 0 ys) := by rw [hW1]; exact hk2
  have hcl : ∀ ty c, (Builtin.clear_ #[93] ty #[.slice (some ⟨g, m * 4, none⟩) k c]).run Try.prog W1 = .ok (.tuple #[]) (W1.setCells g (m * 4) (zRecs k)) :=
    fun ty c => run_clear_rec W1 _ ty Try.underlying93 g (m * 4) k c hk0 (fun t ht => by rw [hk1.cell, Array.getElem?_eq_getElem (by rw [hsz2]; omega)]; rfl) (fun t ht => hk1.frozen _)
  have HF := Lib.hid (show (W1.setCells g (m * 4) (zRecs k)).ownsRow B 33 4 (.slice (some ⟨g, 0, none⟩) m cap) m ys ∧ (∀ k', k' ≠ g → (W1.setCells g (m * 4) (zRecs k)).heap[k']? = w.heap[k']?) ∧ Below B w (W1.setCells g (m * 4) (zRecs k)) by
    refine ⟨⟨hy, .inr ⟨g, cap, setL (setL cur 0 ys) (m * 4) (zRecs k), rfl, hb, set_blk _ (m * 4) W1 _ hk1, by omega, by rw [maxLen_eq]; omega, by rw [setL_size, setL_size, hs], ?_⟩⟩, fun k hk => (set_far hk _ _ _).trans (by rw [hW1]; exact set_far hk _ _ _), set_below hb _ _ _ _ (by rw [hW1]; exact set_below hb _ _ _ _ (Below.refl _ _).drew)⟩
    rw [setL_list _ _ _ (by rw [setL_size, zRecs_len]; omega), setL_list _ _ _ (by omega)]
    simp only [List.take_zero, List.nil_append, Nat.zero_add]
    rw [hy]
    have hl : (ys ++ cur.toList.drop (m * 4)).take (m * 4) = ys := by rw [List.take_append, List.take_of_length_le (by omega), hy, Nat.sub_self, List.take_zero, List.append_nil]
    rw [hl, List.append_assoc, List.take_append, List.take_of_length_le (by omega), hy, Nat.sub_self, List.take_zero, List.append_nil])
  have hcn : ¬ (cap = m) := by omega
  have hn0 : m ≤ cap := by omega
  have hn1 : k ≤ cap := by omega
  have hn2 : m ≤ N := by omega
  have hn3 : k ≤ N := by omega
  have hNm : N - m = k := by omega
  have hNk : N - k = m := by omega
  have hp0 : (0 : Int) ≤ (k : Int) := by omega
  have hp1 : (k : Int) ≤ (N : Int) := by omega
  have hp2 : (m : Int) ≤ (N : Int) := by omega
  have hp3 : (0 : Int) ≤ (m : Int) := by omega
  have hp4 : ((0 : Int) == (k : Int)) = false := by simp; omega
  have hp5 : ¬ (0 = k) := by omega
  have hp6 : ¬ ((0 : Int) = (k : Int)) := by omega
  have hW : Hid (W1 = w.drew.setCells g (0 + 0 * 4) ys) := hW1
  clear hW1 hk1 hk2 hsz2 hcell hg ht hs own hone hN
  go_enter Try.func41, Try.ntmps41
  go_wp2_with fail
  go_region_law (refine step_append_room rfl (.tmp 22) (.tmp 25) 93 rfl 33 i0 4 Try.underlying93 hi0 hz1 g 0 0 cap (by simp [Act.eval, Act.put]) A m (cap - k) ys (by simp [Act.eval, Act.put]) s1.out hsrc.out s2.out (by omega) s3.out ?_; rw [← hW.out])
  go_wp2
  go_ret
  exact ⟨by simp, HF.out.1, HF.out.2.1, HF.out.2.2⟩
end Go.Proofs.Ytonamlgipoannaa
