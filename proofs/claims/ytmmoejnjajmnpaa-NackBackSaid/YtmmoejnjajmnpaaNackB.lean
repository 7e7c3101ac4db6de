/- The plain law of a nack's piece: its bytes, and back. No condition but the numbers' bounds. -/
import Derived.Test.YtmmoejnjajmnpaaBytes
import Derived.Test.YtmmoejnjajmnpaaNack6
namespace Go.Proofs.Ytmmoejnjajmnpaa

/-- Pairs as bytes. -/
def encP (ps : List (Int × Nat)) : List Int := ps.flatMap fun x => beI x.1 2 ++ beI (x.2 : Int) 2
def bodyL (f a : Int) (ps : List (Int × Nat)) : List Int := beI f 4 ++ beI a 4 ++ encP ps
/-- Bytes as pairs. -/
def parP : List Int → List (Int × Nat)
  | a :: b :: c :: d :: r => (256 * a + b, (256 * c + d).toNat) :: parP r
  | _ => []
theorem encP_cons (x : Int × Nat) (ps : List (Int × Nat)) : encP (x :: ps) = beI x.1 2 ++ beI (x.2 : Int) 2 ++ encP ps := by simp [encP]
theorem encP_snoc (ps : List (Int × Nat)) (x : Int × Nat) : encP (ps ++ [x]) = encP ps ++ (beI x.1 2 ++ beI (x.2 : Int) 2) := by simp [encP]
theorem encP_len (ps : List (Int × Nat)) : (encP ps).length = 4 * ps.length := by
  induction ps with
  | nil => rfl
  | cons x ps ih => rw [encP_cons, List.length_append, List.length_append, ih, beI_len, beI_len, List.length_cons]; omega
theorem encP_bytes (ps : List (Int × Nat)) : Bytes (encP ps) := by
  induction ps with
  | nil => intro x hx; cases hx
  | cons x ps ih => rw [encP_cons]; exact ((beI_bytes _ _).append (beI_bytes _ _)).append ih
theorem bodyL_bytes (f a : Int) (ps : List (Int × Nat)) : Bytes (bodyL f a ps) := ((beI_bytes _ _).append (beI_bytes _ _)).append (encP_bytes ps)
theorem bodyL_len (f a : Int) (ps : List (Int × Nat)) : (bodyL f a ps).length = 8 + 4 * ps.length := by unfold bodyL; rw [List.length_append, List.length_append, beI_len, beI_len, encP_len]
theorem parP_encP : ∀ {ps : List (Int × Nat)}, PairsOk ps → parP (encP ps) = ps
  | [], _ => rfl
  | (p, b) :: ps, h => by
    obtain ⟨h1, h2⟩ := h _ List.mem_cons_self
    simp only at h1 h2
    rw [encP_cons, beI_two, beI_two]
    simp only [List.cons_append, List.nil_append, parP]
    rw [parP_encP (fun x hx => h x (List.mem_cons_of_mem _ hx))]
    congr 1
    refine Prod.ext ?_ ?_
    · simp only; omega
    · simp only; omega
theorem encP_parP : ∀ {l : List Int}, Bytes l → l.length % 4 = 0 → encP (parP l) = l
  | [], _, _ => rfl
  | [_], _, h => by simp at h
  | [_, _], _, h => by simp at h
  | [_, _, _], _, h => by simp at h
  | a :: b :: c :: d :: r, hb, h => by
    have ha := hb a (by simp)
    have hb' := hb b (by simp)
    have hc := hb c (by simp)
    have hd := hb d (by simp)
    have ih := encP_parP (l := r) (fun x hx => hb x (by simp [hx])) (by simp at h; omega)
    show encP ((256 * a + b, (256 * c + d).toNat) :: parP r) = _
    rw [encP_cons, ih]
    simp only
    rw [be2_num ha hb', Int.toNat_of_nonneg (by omega), be2_num hc hd]
    rfl
theorem parP_ok : ∀ {l : List Int}, Bytes l → PairsOk (parP l)
  | a :: b :: c :: d :: r, hb, x, hx => by
    have ha := hb a (by simp)
    have hb' := hb b (by simp)
    have hc := hb c (by simp)
    have hd := hb d (by simp)
    rcases List.mem_cons.1 (show x ∈ (256 * a + b, (256 * c + d).toNat) :: parP r from hx) with rfl | hx
    · simp only; omega
    · exact parP_ok (l := r) (fun y hy => hb y (by simp [hy])) x hx
  | [], _, _, hx => by cases hx
  | [_], _, _, hx => by cases hx
  | [_, _], _, _, hx => by cases hx
  | [_, _, _], _, _, hx => by cases hx
theorem parP_len : ∀ (l : List Int), (parP l).length = l.length / 4
  | [] => rfl
  | [_] => by simp [parP]
  | [_, _] => by simp [parP]
  | [_, _, _] => by simp [parP]
  | a :: b :: c :: d :: r => by
    show (_ :: parP r).length = _
    rw [List.length_cons, parP_len r]
    simp only [List.length_cons]
    omega
/-- The first two numbers. -/
def n4 : List Int → Int
  | a :: b :: c :: d :: _ => 16777216 * a + 65536 * b + 256 * c + d
  | _ => 0
theorem n4_bd {l : List Int} (h : Bytes l) : 0 ≤ n4 l ∧ n4 l < 4294967296 := by
  match l, h with
  | a :: b :: c :: d :: r, hb =>
    have ha := hb a (by simp)
    have hb' := hb b (by simp)
    have hc := hb c (by simp)
    have hd := hb d (by simp)
    simp only [n4]; omega
  | [], _ => simp [n4]
  | [_], _ => simp [n4]
  | [_, _], _ => simp [n4]
  | [_, _, _], _ => simp [n4]
theorem split4 {l : List Int} (h : 4 ≤ l.length) : ∃ a b c d r, l = a :: b :: c :: d :: r := by
  match l, h with
  | a :: b :: c :: d :: r, _ => exact ⟨a, b, c, d, r, rfl⟩
theorem body_back {l : List Int} (hb : Bytes l) (h8 : 8 ≤ l.length) (h4 : l.length % 4 = 0) : bodyL (n4 l) (n4 (l.drop 4)) (parP (l.drop 8)) = l := by
  obtain ⟨a, b, c, d, r, rfl⟩ := split4 (l := l) (by omega)
  obtain ⟨e, f, g, i, r2, rfl⟩ := split4 (l := r) (by simp at h8; omega)
  have k := fun x (hx : x ∈ a :: b :: c :: d :: e :: f :: g :: i :: r2) => hb x hx
  unfold bodyL
  simp only [List.drop_succ_cons, List.drop_zero, n4]
  rw [be4_num (k a (by simp)) (k b (by simp)) (k c (by simp)) (k d (by simp)), be4_num (k e (by simp)) (k f (by simp)) (k g (by simp)) (k i (by simp)), encP_parP (fun x hx => k x (by simp [hx])) (by simp at h4; omega)]
  rfl
theorem body_n4 {f a : Int} (hf : 0 ≤ f ∧ f < 4294967296) (ha : 0 ≤ a ∧ a < 4294967296) {ps : List (Int × Nat)} (hok : PairsOk ps) :
    n4 (bodyL f a ps) = f ∧ n4 ((bodyL f a ps).drop 4) = a ∧ parP ((bodyL f a ps).drop 8) = ps := by
  unfold bodyL
  rw [beI_four, beI_four]
  simp only [List.cons_append, List.nil_append, List.drop_succ_cons, List.drop_zero, n4]
  exact ⟨by omega, by omega, parP_encP hok⟩
end Go.Proofs.Ytmmoejnjajmnpaa
