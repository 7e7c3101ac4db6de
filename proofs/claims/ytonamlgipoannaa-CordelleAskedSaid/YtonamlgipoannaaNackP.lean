/- The plain laws of pairs: the numbers of the pairs of numbers are just these numbers. No condition but the numbers' bounds. -/
import Derived.Test.YtonamlgipoannaaNack4
namespace Go.Proofs.Ytonamlgipoannaa

/-- Numbers of 16 bits. -/
def U16s (l : List Int) : Prop := ∀ x ∈ l, 0 ≤ x ∧ x ≤ 65535
theorem foldB_bit (p : Int) (i : Nat) : ∀ (l : List Int) (b : Nat), (l.foldl (addB p) b).testBit i = (b.testBit i || l.any fun n => inR p n && decide ((diffI p n - 1).toNat = i))
  | [], b => by simp
  | x :: l, b => by
    rw [List.foldl_cons, foldB_bit p i l, List.any_cons]
    unfold addB
    cases h : inR p x with
    | false => simp
    | true =>
      rw [if_pos rfl, Nat.testBit_or]
      unfold bitN
      rw [Nat.testBit_two_pow, Bool.true_and, Bool.or_assoc]
theorem blp_bit (p : Int) (l : List Int) (i : Nat) : (blpOf p l).testBit i = true ↔ ∃ n ∈ l, inR p n = true ∧ (diffI p n - 1).toNat = i := by
  unfold blpOf
  rw [foldB_bit]
  simp
theorem inR_num {p n : Int} (hp : 0 ≤ p ∧ p ≤ 65535) (hn : 0 ≤ n ∧ n ≤ 65535) (h : inR p n = true) : (diffI p n - 1).toNat < 16 ∧ (p + 1 + ((diffI p n - 1).toNat : Int)) % 65536 = n := by
  have h := of_decide_eq_true h
  unfold diffI at h ⊢
  omega
theorem inR_of {p : Int} (hp : 0 ≤ p ∧ p ≤ 65535) {i : Nat} (hi : i < 16) : inR p ((p + 1 + (i : Int)) % 65536) = true ∧ (diffI p ((p + 1 + (i : Int)) % 65536) - 1).toNat = i := by
  unfold inR diffI
  refine ⟨decide_eq_true ?_, ?_⟩
  · omega
  · omega
theorem nums_mem {p : Int} {b k : Nat} {x : Int} : x ∈ numsB p b k ↔ x = p ∨ ∃ i, i < k ∧ b.testBit i = true ∧ (p + 1 + (i : Int)) % 65536 = x := by
  unfold numsB
  simp only [List.mem_cons, List.mem_map, List.mem_filter, List.mem_range]
  constructor
  · rintro (h | ⟨i, ⟨h1, h2⟩, h3⟩)
    · exact .inl h
    · exact .inr ⟨i, h1, h2, h3⟩
  · rintro (h | ⟨i, h1, h2, h3⟩)
    · exact .inl h
    · exact .inr ⟨i, ⟨h1, h2⟩, h3⟩
theorem nums_u16 {p : Int} (hp : 0 ≤ p ∧ p ≤ 65535) (b k : Nat) : U16s (numsB p b k) := fun x hx => by
  rcases nums_mem.1 hx with rfl | ⟨i, _, _, rfl⟩
  · exact hp
  · omega
theorem nums_nodup {p : Int} (hp : 0 ≤ p ∧ p ≤ 65535) (b : Nat) {k : Nat} (hk : k ≤ 16) : (numsB p b k).Nodup := by
  unfold numsB
  rw [List.nodup_cons]
  constructor
  · simp only [List.mem_map, List.mem_filter, List.mem_range]
    rintro ⟨i, ⟨h1, _⟩, h3⟩
    omega
  · unfold List.Nodup
    rw [List.pairwise_map]
    have hr : (List.range k).Pairwise (fun i j => i < j) := List.pairwise_lt_range
    have hf := List.Pairwise.sublist (List.filter_sublist (p := fun i => b.testBit i)) hr
    refine List.Pairwise.imp_of_mem ?_ hf
    intro i j hi hj hij
    have h1 := List.mem_range.1 (List.mem_filter.1 hi).1
    have h2 := List.mem_range.1 (List.mem_filter.1 hj).1
    omega
theorem nums_perm {p : Int} {r : List Int} (hp : 0 ≤ p ∧ p ≤ 65535) (hr : U16s r) (hnd : (p :: r).Nodup) : (numsB p (blpOf p r) 16).Perm (p :: r.filter fun n => inR p n) := by
  rw [List.nodup_cons] at hnd
  refine (List.perm_ext_iff_of_nodup (nums_nodup hp _ (Nat.le_refl _)) ?_).2 fun x => ?_
  · rw [List.nodup_cons]
    exact ⟨fun h => hnd.1 (List.mem_filter.1 h).1, List.Pairwise.sublist List.filter_sublist hnd.2⟩
  · rw [nums_mem, List.mem_cons, List.mem_filter]
    constructor
    · rintro (h | ⟨i, h1, h2, h3⟩)
      · exact .inl h
      · obtain ⟨n, hn, hin, hi⟩ := (blp_bit p r i).1 h2
        have := (inR_num hp (hr n hn) hin).2
        rw [hi, h3] at this
        subst this
        exact .inr ⟨hn, hin⟩
    · rintro (h | ⟨h1, h2⟩)
      · exact .inl h
      · obtain ⟨a1, a2⟩ := inR_num hp (hr x h1) h2
        exact .inr ⟨_, a1, (blp_bit p r _).2 ⟨x, h1, h2, rfl⟩, a2⟩
theorem pairsF_perm : ∀ (f : Nat) (l : List Int), l.length ≤ f → U16s l → l.Nodup → ((pairsF f l).flatMap fun x => numsB x.1 x.2 16).Perm l
  | f, [], _, _, _ => by rw [pairsF_nil]; exact List.Perm.refl _
  | 0, _ :: _, h, _, _ => absurd h (by simp)
  | f + 1, p :: r, h, hu, hnd => by
    unfold pairsF
    have hlen := List.length_filter_le (fun n => !inR p n) r
    simp at h
    have hp := hu p List.mem_cons_self
    have hr : U16s r := fun x hx => hu x (List.mem_cons_of_mem _ hx)
    have ih := pairsF_perm f (r.filter fun n => !inR p n) (by omega) (fun x hx => hr x (List.mem_filter.1 hx).1) (List.Pairwise.sublist List.filter_sublist (List.nodup_cons.1 hnd).2)
    rw [List.flatMap_cons]
    refine ((nums_perm hp hr hnd).append ih).trans ?_
    rw [List.cons_append]
    exact (List.filter_append_perm (fun n => inR p n) r).cons p
theorem pairsL_perm {l : List Int} (hu : U16s l) (hnd : l.Nodup) : ((pairsL l).flatMap fun x => numsB x.1 x.2 16).Perm l := pairsF_perm _ l (Nat.le_refl _) hu hnd
theorem pairsL_pid {l : List Int} (hu : U16s l) (hnd : l.Nodup) {x : Int × Nat} (hx : x ∈ pairsL l) : x.1 ∈ l :=
  (pairsL_perm hu hnd).mem_iff.1 (List.mem_flatMap.2 ⟨x, hx, List.mem_cons_self⟩)
theorem pairsF_blp : ∀ (f : Nat) (l : List Int), ∀ x ∈ pairsF f l, x.2 < 65536
  | 0, _, _, h => by simp [pairsF] at h
  | _ + 1, [], _, h => by simp [pairsF] at h
  | f + 1, p :: r, x, h => by
    unfold pairsF at h
    rcases List.mem_cons.1 h with rfl | h
    · exact blpOf_lt p r
    · exact pairsF_blp f _ x h
theorem pairsL_blp {l : List Int} : ∀ x ∈ pairsL l, x.2 < 65536 := pairsF_blp _ l
theorem dst_u16 {e : Nat → Int} {l : Nat} (h : ∀ i, i < l → 0 ≤ e i ∧ e i ≤ 65535) : U16s (dst e l) := dst_bd e l h
theorem dst_empty (e : Nat → Int) : ∀ l, dst e l = [] ↔ l = 0
  | 0 => by simp [dst]
  | l + 1 => by
    have := dst_mem e (e l) (l + 1)
    constructor
    · intro h
      rw [h] at this
      exact absurd (this.2 ⟨l, by omega, rfl⟩) (by simp)
    · intro h; omega
/-- How many numbers the first k pairs have. -/
def cntP (ps : List (Int × Nat)) (k : Nat) : Nat := ((ps.take k).flatMap fun x => numsB x.1 x.2 16).length
theorem cntP_succ (ps : List (Int × Nat)) (k : Nat) (x : Int × Nat) (h : ps[k]? = some x) : cntP ps (k + 1) = cntP ps k + (numsB x.1 x.2 16).length := by
  unfold cntP
  rw [List.take_add_one, h]
  simp [List.flatMap_append]
theorem cntP_all {l : List Int} (hu : U16s l) (hnd : l.Nodup) : cntP (pairsL l) (pairsL l).length = l.length := by
  unfold cntP
  rw [List.take_length]
  exact (pairsL_perm hu hnd).length_eq
theorem cntP_le (ps : List (Int × Nat)) : ∀ k, cntP ps k ≤ 17 * k
  | 0 => by simp [cntP]
  | k + 1 => by
    rcases Nat.lt_or_ge k ps.length with h | h
    · rw [cntP_succ ps k _ (List.getElem?_eq_getElem h)]
      have := cntP_le ps k
      have := numsB_len (ps[k]).1 (ps[k]).2 16
      omega
    · have := cntP_le ps k
      unfold cntP at *
      rw [List.take_of_length_le (by omega)] at *
      omega
end Go.Proofs.Ytonamlgipoannaa
