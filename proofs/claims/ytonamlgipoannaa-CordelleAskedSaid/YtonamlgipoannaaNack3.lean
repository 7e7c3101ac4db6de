/- Package nack: rows of pairs; take. No condition but the numbers' bounds. -/
import Derived.Test.YtonamlgipoannaaNack2
import Derived.Test.YtonamlgipoannaaDiff
import Derived.Test.YtonamlgipoannaaApp
namespace Go.Proofs.Ytonamlgipoannaa
open Go.RowKit BigFrame
attribute [local go_sem ↓] Go.wp_at_zero Go.wp_at_succ

def inR (p n : Int) : Bool := decide (1 ≤ diffI p n ∧ diffI p n ≤ 16)
def bitN (p n : Int) : Nat := 2 ^ (diffI p n - 1).toNat
def addB (p : Int) (b : Nat) (n : Int) : Nat := if inR p n then b ||| bitN p n else b
def blpOf (p : Int) (l : List Int) : Nat := l.foldl (addB p) 0
theorem bitN_lt {p n : Int} (h : inR p n = true) : bitN p n < 65536 := by
  have h := of_decide_eq_true h
  unfold bitN
  have : (diffI p n - 1).toNat ≤ 15 := by omega
  calc 2 ^ (diffI p n - 1).toNat ≤ 2 ^ 15 := Nat.pow_le_pow_right (by decide) this
    _ < 65536 := by decide
theorem addB_lt {p n : Int} {b : Nat} (hb : b < 65536) : addB p b n < 65536 := by
  unfold addB
  split
  · rename_i h
    exact Nat.or_lt_two_pow (n := 16) hb (bitN_lt h)
  · exact hb
theorem foldB_lt (p : Int) : ∀ (l : List Int) (b : Nat), b < 65536 → l.foldl (addB p) b < 65536
  | [], _, h => h
  | x :: l, b, h => foldB_lt p l _ (addB_lt h)
theorem blpOf_lt (p : Int) (l : List Int) : blpOf p l < 65536 := foldB_lt p l 0 (by decide)
theorem blpOf_snoc (p : Int) (l : List Int) (n : Int) : blpOf p (l ++ [n]) = addB p (blpOf p l) n := by unfold blpOf; rw [List.foldl_append]; rfl
theorem u16_or (a b : Nat) (ha : a < 65536) (hb : b < 65536) : bits .or .u16 (a : Int) (b : Int) = ((a ||| b : Nat) : Int) := by
  have h := Nat.or_lt_two_pow (n := 16) ha hb
  have key : (BitVec.ofInt 16 (a : Int) ||| BitVec.ofInt 16 (b : Int)).toNat = a ||| b := by
    rw [BitVec.toNat_or, BitVec.ofInt_natCast, BitVec.ofInt_natCast, BitVec.toNat_ofNat, BitVec.toNat_ofNat, Nat.mod_eq_of_lt ha, Nat.mod_eq_of_lt hb]
  show IntKind.u16.wrap ((BitVec.ofInt 16 (a : Int) ||| BitVec.ofInt 16 (b : Int)).toNat : Nat) = _
  rw [key]
  simp only [IntKind.wrap, IntKind.signed, IntKind.bits]
  simp
  omega
/-- Pairs as cells. -/
def rowP (l : List (Int × Nat)) : List Value := l.flatMap fun x => [.int .u16 x.1, .int .u16 (x.2 : Int)]
theorem rowP_len (l : List (Int × Nat)) : (rowP l).length = l.length * 2 := by
  induction l with
  | nil => rfl
  | cons r l ih => unfold rowP at *; rw [List.flatMap_cons, List.length_append, ih, List.length_cons]; simp; omega
theorem rowP_append (l m : List (Int × Nat)) : rowP (l ++ m) = rowP l ++ rowP m := List.flatMap_append
theorem rowP_one (l : List (Int × Nat)) : ∀ u ∈ rowP l, u.oneCell' = true := by
  intro u hu
  obtain ⟨r, _, h⟩ := List.mem_flatMap.1 hu
  simp only [List.mem_cons, List.not_mem_nil, or_false] at h
  rcases h with rfl | rfl <;> rfl
theorem rowP_get (l : List (Int × Nat)) (i : Nat) (r : Int × Nat) (h : l[i]? = some r) (j : Nat) (hj : j < 2) : (rowP l)[i * 2 + j]? = [Value.int .u16 r.1, .int .u16 (r.2 : Int)][j]? := by
  have hi := (List.getElem?_eq_some_iff.1 h).1
  have e : l = l.take i ++ (r :: l.drop (i + 1)) := by
    have h2 := (List.getElem?_eq_some_iff.1 h).2
    rw [← h2]
    exact (List.take_append_drop i l).symm.trans (by rw [List.drop_eq_getElem_cons hi])
  rw [e, rowP_append, List.getElem?_append_right (by rw [rowP_len, List.length_take]; omega), rowP_len, List.length_take]
  have e2 : i * 2 + j - min i l.length * 2 = j := by omega
  rw [e2]
  show ([Value.int .u16 r.1, .int .u16 (r.2 : Int)] ++ _)[j]? = _
  rw [List.getElem?_append_left (by simp; omega)]
/-- A slice of pairs that can be read. -/
def PairsAt (W : World) (a : Option Addr) (n c : Nat) (l : List (Int × Nat)) : Prop := l.length = n ∧ SliceOf W a n c 2 (fun i => [.int .u16 (l.getD i (0, 0)).1, .int .u16 ((l.getD i (0, 0)).2 : Int)])
theorem PairsAt.below {w w' : World} {a : Option Addr} {n c : Nat} {l : List (Int × Nat)} (h : PairsAt w a n c l) (hb : Below w.heap.size w w') : PairsAt w' a n c l := ⟨h.1, h.2.below hb⟩
theorem PairsAt.of_own {W : World} {B n : Nat} {v : Value} {l : List (Int × Nat)} (h : W.ownsRow B 129 2 v n (rowP l)) (hl : l.length = n) : ∃ a c, v = .slice a n c ∧ PairsAt W a n c l := by
  rcases h.2 with ⟨rfl, rfl⟩ | ⟨g, cap, cur, rfl, hb, hg, hn, hm, hs, hx⟩
  · exact ⟨none, 0, rfl, hl, Nat.le_refl _, Nat.zero_le _, fun h => absurd h (by omega)⟩
  · refine ⟨_, cap, rfl, hl, hn, hm, fun hp => ⟨g, 0, rfl, (h.lt g rfl).2, fun i hi j v hv => ?_⟩⟩
    have hj : j < 2 := by
      have := (List.getElem?_eq_some_iff.1 hv).1
      simp at this; omega
    have hli : l[i]? = some (l.getD i (0, 0)) := by
      rw [List.getD_eq_getElem?_getD, List.getElem?_eq_getElem (by omega)]; rfl
    rw [← rowP_get l i _ hli j hj, ← hx, List.getElem?_take, if_pos (by omega)] at hv
    rw [Array.getElem?_toList] at hv
    have := cell_of_row W g (0 + i * 2 + j) cur _ _ hg
    rw [this, Nat.zero_add]
    exact hv
theorem PairsAt.get {W : World} {a : Option Addr} {n c : Nat} {l : List (Int × Nat)} (h : PairsAt W a n c l) (hp : 0 < n) : ∃ b off, a = some ⟨b, off, none⟩ ∧ b < W.heap.size ∧ ∀ i x, l[i]? = some x → W.cell? ⟨b, off + i * 2, none⟩ = some (.int .u16 x.1) ∧ W.cell? ⟨b, off + i * 2 + 1, none⟩ = some (.int .u16 (x.2 : Int)) := by
  obtain ⟨b, off, ha, hb, hc⟩ := h.2.2.2 hp
  refine ⟨b, off, ha, hb, fun i x hx => ?_⟩
  have hi := (List.getElem?_eq_some_iff.1 hx).1
  have e : l.getD i (0, 0) = x := by rw [List.getD_eq_getElem?_getD, hx]; rfl
  have h0 := hc i (by have := h.1; omega) 0 _ rfl
  have h1 := hc i (by have := h.1; omega) 1 _ rfl
  rw [e] at h0 h1
  exact ⟨by simpa using h0, h1⟩
set_option maxRecDepth 8000 in
set_option maxHeartbeats 4000000 in
theorem pair_take (g : Nat) (p n : Int) (b : Nat) (hb : b < 65536) (r : Bool) (hr : inR p n = r) (w : World) (K : Blk w g 129 #[.int .u16 p, .int .u16 (b : Int)]) :
    Calls Try.prog 75 #[.pointer (some ⟨g, 0, none⟩), .int .u16 n] w fun e w' => e = .returned (.bool r) ∧ Blk w' g 129 #[.int .u16 p, .int .u16 (addB p b n : Nat)] ∧ (∀ k, k ≠ g → w'.heap[k]? = w.heap[k]?) ∧ Below g w w' := by
  obtain ⟨d, hd⟩ : ∃ d, diffI p n = d := ⟨_, rfl⟩
  have HD := Lib.hid (serial_Diff p n d hd)
  have hdb := diff_bd p n
  rw [hd] at hdb
  have c0 := K.cell
  have f0 := K.frozen
  simp at c0
  cases r with
  | false =>
    have ha : addB p b n = b := by unfold addB; rw [hr]; rfl
    rw [ha]
    have hnd : ¬ (1 ≤ d ∧ d ≤ 16) := by rw [← hd]; exact of_decide_eq_false hr
    clear ha hr hd
    by_cases h1 : d < 1
    · go_enter Try.func75, Try.ntmps75
      go_wp2_with fail
      refine (HD.out w).mono ?_
      rintro e w' ⟨rfl, rfl⟩
      go_wp2_with fail
      go_ret
      exact ⟨rfl, K, fun _ _ => rfl, Below.refl _ _⟩
    · have h2 : 16 < d := by omega
      go_enter Try.func75, Try.ntmps75
      go_wp2_with fail
      refine (HD.out w).mono ?_
      rintro e w' ⟨rfl, rfl⟩
      go_wp2_with fail
      go_ret
      exact ⟨rfl, K, fun _ _ => rfl, Below.refl _ _⟩
  | true =>
    have hnd : 1 ≤ d ∧ d ≤ 16 := by rw [← hd]; exact of_decide_eq_true hr
    obtain ⟨j, hj⟩ : ∃ j : Nat, d = (j : Int) + 1 := ⟨(d - 1).toNat, by omega⟩
    have hbn : bitN p n = 2 ^ j := by unfold bitN; rw [hd, hj]; congr 1; omega
    have hlt := bitN_lt hr
    have ha : addB p b n = b ||| 2 ^ j := by unfold addB; rw [hr, if_pos rfl, hbn]
    rw [ha]
    rw [hbn] at hlt
    have hor : bits .or .u16 (b : Int) (IntKind.u16.wrap (2 ^ j)) = ((b ||| 2 ^ j : Nat) : Int) := by
      have e : IntKind.u16.wrap (2 ^ j) = ((2 ^ j : Nat) : Int) := by
        have : ((2 : Int) ^ j) = ((2 ^ j : Nat) : Int) := by simp
        rw [this]
        simp only [IntKind.wrap, IntKind.signed, IntKind.bits]
        simp only [Bool.false_and, Bool.false_eq_true, if_false]
        omega
      rw [e]
      exact u16_or b (2 ^ j) hb hlt
    obtain ⟨y, hy⟩ : ∃ y, b ||| 2 ^ j = y := ⟨_, rfl⟩
    rw [hy] at hor ⊢
    obtain ⟨h1, h2⟩ := hnd
    subst hj
    have wj : IntKind.i64.wrap ((j : Int) + 1 - 1) = (j : Int) := by rw [IntWalk.i64_in _ (by omega)]; omega
    clear hr hd hbn ha hy
    have t1 : ¬ ((j : Int) + 1) < 1 := by omega
    have t2 : ¬ 16 < ((j : Int) + 1) := by omega
    go_enter Try.func75, Try.ntmps75
    go_wp2_with fail
    refine (HD.out w).mono ?_
    rintro e w' ⟨rfl, rfl⟩
    go_wp2_with fail
    go_region
    all_goals
      go_wp2_with fail
      have K2 := (K.drew).set_ 1 (.int .u16 (y : Int))
      simp at K2
      go_ret
      exact ⟨rfl, K2, fun k hk => Below.heap_setCell w.drew ⟨g, 1, none⟩ _ k hk, (Below.refl g w).drew.setCell (p := ⟨g, 1, none⟩) (Nat.le_refl _) _⟩
end Go.Proofs.Ytonamlgipoannaa
