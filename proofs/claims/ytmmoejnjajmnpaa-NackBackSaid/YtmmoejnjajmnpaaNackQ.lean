/- The plain law of the document's pairs: number by number it makes the same pairs. No condition but the numbers' bounds. -/
import Derived.Test.YtmmoejnjajmnpaaNack6
namespace Go.Proofs.Ytmmoejnjajmnpaa

theorem or_add {x k : Nat} (hx : x < 65536) (hk : k < 16) (h : x.testBit k = false) : x ||| 2 ^ k = x + 2 ^ k := by
  have hp : 2 ^ k ≤ 2 ^ 15 := Nat.pow_le_pow_right (by decide) (by omega)
  have h0 : BitVec.ofNat 32 x &&& BitVec.ofNat 32 (2 ^ k) = 0#32 := by
    apply BitVec.eq_of_toNat_eq
    rw [BitVec.toNat_and, BitVec.toNat_ofNat, BitVec.toNat_ofNat, Nat.mod_eq_of_lt (by omega), Nat.mod_eq_of_lt (by omega)]
    show x &&& 2 ^ k = 0
    apply Nat.eq_of_testBit_eq
    intro i
    rw [Nat.testBit_and, Nat.testBit_two_pow, Nat.zero_testBit]
    by_cases e : k = i
    · subst e; rw [h]; rfl
    · simp [e]
  have h1 := congrArg BitVec.toNat (BitVec.add_eq_or_of_and_eq_zero _ _ h0)
  rw [BitVec.toNat_add, BitVec.toNat_or, BitVec.toNat_ofNat, BitVec.toNat_ofNat, Nat.mod_eq_of_lt (a := x) (by omega), Nat.mod_eq_of_lt (a := 2 ^ k) (by omega), Nat.mod_eq_of_lt (by omega)] at h1
  exact h1.symm
theorem foldd_filter (P : Int → Bool) : ∀ (l acc : List Int), (l.filter P).foldl ddp (acc.filter P) = (l.foldl ddp acc).filter P
  | [], acc => rfl
  | x :: l, acc => by
    rw [List.foldl_cons, ← foldd_filter P l (ddp acc x), List.filter_cons]
    cases hx : P x with
    | true =>
      rw [if_pos rfl, List.foldl_cons]
      congr 1
      unfold ddp
      by_cases h : x ∈ acc
      · rw [if_pos h, if_pos (List.mem_filter.2 ⟨h, hx⟩)]
      · rw [if_neg h, if_neg (fun e => h (List.mem_filter.1 e).1), List.filter_append]
        simp [hx]
    | false =>
      rw [if_neg (by decide)]
      congr 1
      unfold ddp
      by_cases h : x ∈ acc
      · rw [if_pos h]
      · rw [if_neg h, List.filter_append]
        simp [hx]
theorem dd_filter (P : Int → Bool) (l : List Int) : dd (l.filter P) = (dd l).filter P := foldd_filter P l []
theorem foldd_head (n : Int) : ∀ (l acc : List Int), l.foldl ddp (n :: acc) = n :: (l.filter fun m => decide (m ≠ n)).foldl ddp acc
  | [], acc => rfl
  | x :: l, acc => by
    rw [List.foldl_cons, List.filter_cons]
    by_cases h : x = n
    · rw [if_neg (by simp [h]), show ddp (n :: acc) x = n :: acc from if_pos (by simp [h])]
      exact foldd_head n l acc
    · rw [if_pos (by simp [h]), List.foldl_cons]
      have e : ddp (n :: acc) x = n :: ddp acc x := by
        unfold ddp
        by_cases hx : x ∈ acc
        · rw [if_pos (List.mem_cons_of_mem _ hx), if_pos hx]
        · rw [if_neg (by simp [h, hx]), if_neg hx]
          rfl
      rw [e]
      exact foldd_head n l _
theorem dd_cons (n : Int) (l : List Int) : dd (n :: l) = n :: dd (l.filter fun m => decide (m ≠ n)) := foldd_head n l []
/-- Those not done. -/
def rest (done l : List Int) : List Int := dd (l.filter fun m => decide (m ∉ done))
/-- Those that are taken for n out of a list. -/
def takeT (n : Int) (done l : List Int) : List Int := dd (l.filter fun m => decide (m ∉ done) && inR n m)
theorem inR_self (n : Int) : inR n n = false := by unfold inR diffI; simp
theorem takeT_snoc (n : Int) (done l : List Int) (m : Int) : takeT n done (l ++ [m]) = if decide (m ∉ done) && inR n m then ddp (takeT n done l) m else takeT n done l := by
  unfold takeT
  rw [List.filter_append]
  by_cases h : (decide (m ∉ done) && inR n m) = true
  · rw [if_pos h, List.filter_cons, if_pos h, List.filter_nil, dd_snoc]
  · rw [if_neg h, List.filter_cons, if_neg h, List.filter_nil, List.append_nil]
theorem takeT_mem {n : Int} {done l : List Int} {x : Int} (h : x ∈ takeT n done l) : x ∈ l ∧ inR n x = true := by
  unfold takeT at h
  rw [dd_mem, List.mem_filter, Bool.and_eq_true] at h
  exact ⟨h.1, h.2.2⟩
theorem foldB_skip (p : Int) : ∀ (l : List Int) (b : Nat), l.foldl (addB p) b = (l.filter fun n => inR p n).foldl (addB p) b
  | [], _ => rfl
  | x :: l, b => by
    rw [List.foldl_cons, List.filter_cons]
    cases h : inR p x with
    | true => rw [if_pos rfl, List.foldl_cons]; exact foldB_skip p l _
    | false =>
      rw [if_neg (by decide), show addB p b x = b by unfold addB; rw [h]; rfl]
      exact foldB_skip p l _
theorem blp_skip (p : Int) (l : List Int) : blpOf p l = blpOf p (l.filter fun n => inR p n) := foldB_skip p l 0
/-- A number that is not there yet sets a bit that is not set yet. -/
theorem blp_add {n m : Int} {T : List Int} (hn : 0 ≤ n ∧ n ≤ 65535) (hm : 0 ≤ m ∧ m ≤ 65535) (hT : U16s T) (hin : inR n m = true) (hno : m ∉ T) : blpOf n (T ++ [m]) = blpOf n T + 2 ^ (diffI n m - 1).toNat := by
  rw [blpOf_snoc]
  unfold addB
  rw [hin, if_pos rfl]
  unfold bitN
  refine or_add (blpOf_lt n T) (inR_num hn hm hin).1 ?_
  cases h : (blpOf n T).testBit (diffI n m - 1).toNat with
  | false => rfl
  | true =>
    obtain ⟨t, ht, hit, he⟩ := (blp_bit n T _).1 h
    have h1 := (inR_num hn (hT t ht) hit).2
    have h2 := (inR_num hn hm hin).2
    rw [he, h2] at h1
    exact absurd (h1 ▸ ht) hno
theorem rest_skip {done : List Int} {n : Int} (l : List Int) (h : n ∈ done) : rest done (n :: l) = rest done l := by
  unfold rest
  rw [List.filter_cons, if_neg (by simp [h])]
theorem rest_take {done : List Int} {n : Int} (l : List Int) (h : n ∉ done) :
    pairsL (rest done (n :: l)) = (n, blpOf n (takeT n (done ++ [n]) (n :: l))) :: pairsL (rest ((done ++ [n]) ++ takeT n (done ++ [n]) (n :: l)) l) := by
  unfold rest
  rw [List.filter_cons, if_pos (by simp [h]), dd_cons, pairsL_cons]
  have e1 : (dd ((l.filter fun m => decide (m ∉ done)).filter fun m => decide (m ≠ n))).filter (fun m => inR n m) = takeT n (done ++ [n]) (n :: l) := by
    rw [← dd_filter, List.filter_filter, List.filter_filter]
    unfold takeT
    rw [List.filter_cons, if_neg (by simp)]
    congr 1
    refine List.filter_congr fun m _ => ?_
    simp only [List.mem_append, List.mem_singleton]
    by_cases h1 : m ∈ done <;> by_cases h2 : m = n <;> cases h3 : inR n m <;> simp [h1, h2]
  rw [blp_skip, e1, ← dd_filter, List.filter_filter, List.filter_filter]
  congr 3
  refine List.filter_congr fun m hm => ?_
  have e2 : m ∈ takeT n (done ++ [n]) (n :: l) ↔ (m ∉ done ∧ m ≠ n) ∧ inR n m = true := by
    unfold takeT
    rw [dd_mem, List.mem_filter, Bool.and_eq_true]
    simp [hm]
  simp only [List.mem_append, List.mem_singleton, e2]
  by_cases h1 : m ∈ done <;> by_cases h2 : m = n <;> cases h3 : inR n m <;> simp [h1, h2]
theorem rest_all (l : List Int) : rest [] l = dd l := by
  unfold rest
  congr 1
  rw [List.filter_eq_self]
  intro a _
  simp
theorem takeT_len (n : Int) (done l : List Int) : (takeT n done l).length ≤ l.length := by
  unfold takeT dd
  have h1 := foldd_len (l.filter fun m => decide (m ∉ done) && inR n m) []
  have h2 := List.length_filter_le (fun m => decide (m ∉ done) && inR n m) l
  simp only [List.length_nil] at h1
  omega
end Go.Proofs.Ytmmoejnjajmnpaa
