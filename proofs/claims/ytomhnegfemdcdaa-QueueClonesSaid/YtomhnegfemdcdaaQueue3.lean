/- slices.Delete at texts, of the first one, walked (after the library's worked walks of Delete). No condition but that the row is the call's own. -/
import Derived.Test.YtomhnegfemdcdaaQueue2
import Derived.Deep.RegionLaw
import Derived.Lib.SliceRun
namespace Go.Proofs.Ytomhnegfemdcdaa
open Go.RowKit
attribute [local go_sem ↓] Go.wp_at_zero Go.wp_at_succ

theorem set_below {B g : Nat} (hB : B ≤ g) (a : World) : ∀ (us : List Value) (o : Nat) (W : World), Below B a W → Below B a (W.setCells g o us)
  | [], _, _, h => h
  | u :: us, o, W, h => set_below hB a us (o + 1) _ (h.setCell hB u)
theorem set_far {g k : Nat} (hk : k ≠ g) : ∀ (us : List Value) (o : Nat) (W : World), (W.setCells g o us).heap[k]? = W.heap[k]?
  | [], _, _ => rfl
  | u :: us, o, W => (set_far hk us (o + 1) _).trans (Below.heap_setCell _ ⟨g, o, none⟩ _ _ hk)
def setL (cs : Array Value) : Nat → List Value → Array Value
  | _, [] => cs
  | o, u :: us => setL (cs.setIfInBounds o u) (o + 1) us
theorem set_blk {g : Nat} {t : TypeId} : ∀ (us : List Value) (o : Nat) (W : World) (cs : Array Value), Blk W g t cs → Blk (W.setCells g o us) g t (setL cs o us)
  | [], _, _, _, h => h
  | u :: us, o, W, cs, h => set_blk us (o + 1) _ _ (h.set_ o u)
theorem setL_size : ∀ (us : List Value) (o : Nat) (cs : Array Value), (setL cs o us).size = cs.size
  | [], _, _ => rfl
  | u :: us, o, cs => by rw [setL, setL_size us]; simp
theorem setL_list : ∀ (us : List Value) (o : Nat) (cs : Array Value), o + us.length ≤ cs.size → (setL cs o us).toList = cs.toList.take o ++ us ++ cs.toList.drop (o + us.length)
  | [], o, cs, _ => by simp [setL]
  | u :: us, o, cs, h => by
    rw [List.length_cons] at h
    rw [setL, setL_list us (o + 1) _ (by simp; omega)]
    have e : (cs.setIfInBounds o u).toList = cs.toList.take o ++ u :: cs.toList.drop (o + 1) := by
      rw [Array.toList_setIfInBounds, List.set_eq_take_append_cons_drop, if_pos (by simp; omega)]
    have hl : (cs.toList.take o).length = o := by simp; omega
    have e1 : (cs.setIfInBounds o u).toList.take (o + 1) = cs.toList.take o ++ [u] := by
      rw [e, List.take_append, hl, show o + 1 - o = 1 by omega, List.take_of_length_le (by omega)]
      rfl
    have e2 : (cs.setIfInBounds o u).toList.drop (o + 1 + us.length) = cs.toList.drop (o + (us.length + 1)) := by
      rw [e, List.drop_append, hl, List.drop_of_length_le (by omega), show o + 1 + us.length - o = us.length + 1 by omega, List.nil_append, List.drop_succ_cons, List.drop_drop]
      congr 1; omega
    rw [e1, e2, List.length_cons]
    simp
theorem zero_text (w : World) : (zeroValue 49).run Try.prog w = .ok (.string ByteArray.empty) w := by kernel_rfl

set_option maxHeartbeats 4000000 in
set_option maxRecDepth 1000000 in
theorem text_Delete (B g n cap : Nat) (x : Value) (xs : List Value) (w : World) (own : w.ownsRow B 49 1 (.slice (some ⟨g, 0, none⟩) (n + 1) cap) (n + 1) (x :: xs)) (hone : ∀ u ∈ xs, u.oneCell' = true) (hx : xs.length = n) :
    Calls Try.prog 37 #[.slice (some ⟨g, 0, none⟩) (n + 1) cap, .int .i64 0, .int .i64 1] w fun e w' => e = .returned (.slice (some ⟨g, 0, none⟩) n cap) ∧ w'.ownsRow B 49 1 (.slice (some ⟨g, 0, none⟩) n cap) n xs ∧ (∀ k, k ≠ g → w'.heap[k]? = w.heap[k]?) ∧ Below B w w' := by
  obtain ⟨i0, hi0, hz0, hz1, hz2⟩ := info_parts (show (Try.prog.info? 49).map (fun i => (i.zero, i.size, i.bytes)) = some (some (.string ByteArray.empty), 1, 16) by kernel_rfl)
  obtain ⟨cur, hb, hg, hn, hm, hs, ht⟩ : ∃ cur, B ≤ g ∧ Blk w g 49 cur ∧ n + 1 ≤ cap ∧ cap ≤ maxLen ∧ cur.size = cap * 1 ∧ cur.toList.take ((n + 1) * 1) = x :: xs := by
    rcases own.2 with ⟨h, _⟩ | ⟨g', cap', cur, h, hb, hg, hn, hm, hs, ht⟩
    · cases h
    · injection h with h1 h2 h3
      injection h1 with h1
      injection h1 with h1
      subst h1 h3
      exact ⟨cur, hb, hg, hn, hm, hs, ht⟩
  rw [Nat.mul_one] at hs ht
  rw [maxLen_eq] at hm
  have hcell : ∀ j, j < n → w.cell? ⟨g, 1 + j, none⟩ = xs[j]? := fun j hj => by
    rw [hg.cell, ← Array.getElem?_toList]
    have this : (cur.toList.take (n + 1))[1 + j]? = (x :: xs)[1 + j]? := by rw [ht]
    rw [List.getElem?_take, if_pos (by omega)] at this
    rw [this, Nat.add_comm, List.getElem?_cons_succ]
  have hk2 := set_blk xs 0 w.drew cur hg.drew
  have hsz2 := setL_size xs 0 cur
  obtain ⟨A, hA, hsrc⟩ : ∃ A : Addr, (if cap = 1 then some (⟨g, 0, none⟩ : Addr) else some ⟨g, 1, none⟩) = some A ∧ Hid (∀ t u, xs[t]? = some u → w.drew.cell? (A.add t) = some u) := by
    by_cases h : cap = 1
    · refine ⟨⟨g, 0, none⟩, by simp [h], fun t u hu => ?_⟩
      have h0 : xs.length = 0 := by omega
      rw [List.length_eq_zero_iff.1 h0] at hu
      simp at hu
    · refine ⟨⟨g, 1, none⟩, by simp [h], fun t u hu => ?_⟩
      have ht : t < n := by
        have := (List.getElem?_eq_some_iff.1 hu).1
        omega
      rw [Addr.add_lit]
      exact (hcell t ht).trans hu
  have s1 : Hid (xs.length = n * 1) := by rw [Nat.mul_one]; exact hx
  have s2 : Hid (∀ u ∈ xs, u.oneCell' = true) := hone
  have s3 : Hid (∀ t, t < xs.length → (w.drew.cell? ⟨g, 0 + 0 * 1 + t, none⟩).isSome = true ∧ w.drew.frozen? ⟨g, 0 + 0 * 1 + t, none⟩ = false) := by
    intro t ht'
    refine ⟨?_, hg.drew.frozen _⟩
    rw [hg.drew.cell, Array.getElem?_eq_getElem (by omega)]
    rfl
  obtain ⟨W1, hW1⟩ : ∃ W1, W1 = w.drew.setCells g (0 + 0 * 1) xs := ⟨_, rfl⟩
  have hk1 : Blk W1 g 49 (setL cur 0 xs) := by rw [hW1]; exact hk2
  have hcl : ∀ ty c, (Builtin.clear_ #[50] ty #[.slice (some ⟨g, n, none⟩) 1 c]).run Try.prog W1 = .ok (.tuple #[]) (W1.setCells g n (List.replicate 1 (.string ByteArray.empty))) :=
    fun ty c => Lib.run_clear_slice W1 _ _ ty _ Try.underlying50 zero_text rfl rfl g n 1 c (by omega) (fun t ht => by rw [hk1.cell, Array.getElem?_eq_getElem (by rw [hsz2]; omega)]; rfl) (fun t ht => hk1.frozen _)
  have X := Lib.hid hW1
  have HF := Lib.hid (show (W1.setCells g n (List.replicate 1 (.string ByteArray.empty))).ownsRow B 49 1 (.slice (some ⟨g, 0, none⟩) n cap) n xs ∧ (∀ k, k ≠ g → (W1.setCells g n (List.replicate 1 (.string ByteArray.empty))).heap[k]? = w.heap[k]?) ∧ Below B w (W1.setCells g n (List.replicate 1 (.string ByteArray.empty))) by
    refine ⟨⟨by rw [hx, Nat.mul_one], .inr ⟨g, cap, setL (setL cur 0 xs) n (List.replicate 1 (.string ByteArray.empty)), rfl, hb, set_blk _ n W1 _ hk1, by omega, by rw [maxLen_eq]; omega, by rw [setL_size, setL_size, hs, Nat.mul_one], ?_⟩⟩, fun k hk => (set_far hk _ _ _).trans (by rw [hW1]; exact set_far hk _ _ _), set_below hb _ _ _ _ (by rw [hW1]; exact set_below hb _ _ _ _ (Below.refl _ _).drew)⟩
    rw [setL_list _ _ _ (by rw [setL_size]; simp; omega), setL_list _ _ _ (by omega)]
    simp only [List.take_zero, List.nil_append, Nat.mul_one, Nat.zero_add]
    rw [hx]
    have hl : (xs ++ cur.toList.drop n).take n = xs := by rw [List.take_append, List.take_of_length_le (by omega), hx, Nat.sub_self, List.take_zero, List.append_nil]
    rw [hl, List.append_assoc, List.take_append, List.take_of_length_le (by omega), hx, Nat.sub_self, List.take_zero, List.append_nil])
  have hcn : ¬ (cap = n) := by omega
  have hn0 : n ≤ cap := by omega
  have hn1 : 1 ≤ cap := by omega
  have hp1 : (1 : Int) ≤ (n : Int) + 1 := by omega
  have hp2 : (n : Int) ≤ (n : Int) + 1 := by omega
  have hW : Hid (W1 = w.drew.setCells g (0 + 0 * 1) xs) := hW1
  clear hW1 hk1 hk2 hsz2 hcell hg ht hs own hone
  go_enter Try.func37, Try.ntmps37
  go_wp2_with fail
  go_region_law (refine step_append_room rfl (.tmp 22) (.tmp 25) 50 rfl 49 i0 1 Try.underlying50 hi0 hz1 g 0 0 cap (by simp [Act.eval, Act.put]) A n (cap - 1) xs (by simp [Act.eval, Act.put]) s1.out hsrc.out s2.out (by omega) s3.out ?_; rw [← hW.out])
  go_wp2
  go_ret
  exact ⟨by simp, HF.out.1, HF.out.2.1, HF.out.2.2⟩
end Go.Proofs.Ytomhnegfemdcdaa
