/- Parts of a piece: read and written again they are as they were just if each is as the document says. Plain law. -/
import Derived.Test.YtliilcadlijnoaaSub3
namespace Go.Proofs.Ytliilcadlijnoaa
open Go.RowKit

structure PartLaw {α : Type} (s : Nat) (dec : List Int → α) (byt : α → List Int) (may : α → Bool) (path : α → Int) (canon : List Int → Bool) : Prop where
  pos : 0 < s
  len : ∀ x, (byt x).length = s
  can : ∀ l, Bytes l → s ≤ l.length → (byt (dec l) = l.take s ↔ canon l = true)
  may1 : ∀ l, Bytes l → s ≤ l.length → (may (dec l) = true ↔ 1 ≤ path (dec l) ∧ path (dec l) ≤ 15)
/-- The document's reading of m parts: paths rise from last on. -/
def docL {α : Type} (s : Nat) (dec : List Int → α) (path : α → Int) (canon : List Int → Bool) : Nat → Int → List Int → Option (List α)
  | 0, _, _ => some []
  | m + 1, last, l => if last < path (dec l) ∧ path (dec l) ≤ 15 ∧ canon l = true then (docL s dec path canon m (path (dec l)) (l.drop s)).map (dec l :: ·) else none
def okG {α : Type} (may : α → Bool) (path : α → Int) (last : Int) (l : List α) : Option Int := l.foldl (okS may path) (some last)
theorem doc_iff {α : Type} {s : Nat} {dec : List Int → α} {byt : α → List Int} {may : α → Bool} {path : α → Int} {canon : List Int → Bool} (P : PartLaw s dec byt may path canon) :
    ∀ (m k : Nat) (last : Int) (l : List Int), l.length = s * m → Bytes l → 0 ≤ last → 15 ≤ last + k →
      (((okG may path last (decs s dec k l)).isSome = true ∧ (decs s dec k l).flatMap byt = l) ↔ (docL s dec path canon m last l).isSome = true) ∧ ∀ zs, docL s dec path canon m last l = some zs → zs = decs s dec k l
  | 0, k, last, l, hl, hb, h0, hk => by
    have hl0 : l = [] := List.length_eq_zero_iff.1 (by rw [hl, Nat.mul_zero])
    subst hl0
    have hd : decs s dec k [] = [] := decs_none (by have := P.pos; simp; omega)
    rw [hd]
    refine ⟨⟨fun _ => rfl, fun _ => ⟨rfl, rfl⟩⟩, fun zs h => ?_⟩
    unfold docL at h
    injection h with h
    exact h.symm
  | m + 1, k, last, l, hl, hb, h0, hk => by
    have hpos := P.pos
    have hsl : s ≤ l.length := by rw [hl, Nat.mul_succ]; omega
    have hdl : (l.drop s).length = s * m := by rw [List.length_drop, hl, Nat.mul_succ]; omega
    have hmay := P.may1 l hb hsl
    have hcan := P.can l hb hsl
    have htd : l = l.take s ++ l.drop s := (List.take_append_drop s l).symm
    by_cases good : last < path (dec l) ∧ path (dec l) ≤ 15 ∧ canon l = true
    · obtain ⟨g1, g2, g3⟩ := good
      obtain ⟨k', rfl⟩ : ∃ k', k = k' + 1 := ⟨k - 1, by omega⟩
      have hx : decs s dec (k' + 1) l = dec l :: decs s dec k' (l.drop s) := by
        show (if s ≤ l.length then _ else _) = _
        rw [if_pos hsl]
      obtain ⟨ih1, ih2⟩ := doc_iff P m k' (path (dec l)) (l.drop s) hdl (hb.drop s) (by omega) (by omega)
      have hm : may (dec l) = true := hmay.2 ⟨by omega, g2⟩
      have hok : okG may path last (dec l :: decs s dec k' (l.drop s)) = okG may path (path (dec l)) (decs s dec k' (l.drop s)) := by
        unfold okG
        rw [List.foldl_cons]
        congr 1
        unfold okS
        simp [hm, g1]
      have hdoc : docL s dec path canon (m + 1) last l = (docL s dec path canon m (path (dec l)) (l.drop s)).map (dec l :: ·) := by
        show (if _ then _ else _) = _
        rw [if_pos ⟨g1, g2, g3⟩]
      rw [hx, hok, hdoc]
      refine ⟨?_, fun zs h => ?_⟩
      · rw [List.flatMap_cons, hcan.2 g3, Option.isSome_map]
        rw [← ih1]
        constructor
        · rintro ⟨h1, h2⟩
          refine ⟨h1, ?_⟩
          have h3 : l.take s ++ (decs s dec k' (l.drop s)).flatMap byt = l.take s ++ l.drop s := h2.trans htd
          exact List.append_cancel_left h3
        · rintro ⟨h1, h2⟩
          exact ⟨h1, by rw [h2]; exact htd.symm⟩
      · cases hd : docL s dec path canon m (path (dec l)) (l.drop s) with
        | none => rw [hd] at h; cases h
        | some z2 =>
          rw [hd] at h
          simp at h
          rw [← h, ih2 z2 hd]
    · have hdoc : docL s dec path canon (m + 1) last l = none := by
        show (if _ then _ else _) = _
        rw [if_neg good]
      rw [hdoc]
      refine ⟨⟨fun h => ?_, fun h => by cases h⟩, fun zs h => by cases h⟩
      obtain ⟨h1, h2⟩ := h
      exfalso
      cases k with
      | zero =>
        have : l = [] := by rw [← h2]; rfl
        rw [this] at hsl
        simp at hsl
        omega
      | succ k' =>
        have hx : decs s dec (k' + 1) l = dec l :: decs s dec k' (l.drop s) := by
          show (if s ≤ l.length then _ else _) = _
          rw [if_pos hsl]
        rw [hx] at h1 h2
        rw [List.flatMap_cons] at h2
        have hbt : byt (dec l) = l.take s := by
          have h3 : byt (dec l) = (byt (dec l) ++ (decs s dec k' (l.drop s)).flatMap byt).take s := by rw [← P.len (dec l), List.take_left]
          rw [h3, h2]
        have hc := hcan.1 hbt
        unfold okG at h1
        rw [List.foldl_cons] at h1
        by_cases h4 : may (dec l) = true ∧ last < path (dec l)
        · exact good ⟨h4.2, (hmay.1 h4.1).2, hc⟩
        · have : okS may path (some last) (dec l) = none := by unfold okS; simp [h4]
          rw [this, okS_none] at h1
          cases h1
/-- The document's answer for a body: its parts; none: it is not right. -/
def docR {α : Type} (s r : Nat) (dec : List Int → α) (path : α → Int) (canon : List Int → Bool) (L : List Int) : Option (List α) := if 4 + s * r ≤ L.length ∧ L.length % s = 4 % s then docL s dec path canon ((L.length - 4) / s) 0 (L.drop 4) else none
theorem be4_n4 {L : List Int} (hb : Bytes L) (h : 4 ≤ L.length) : beI (n4 L) 4 = L.take 4 := by
  obtain ⟨a, b, c, d, r, rfl⟩ := cut4 h
  have k := fun x (hx : x ∈ a :: b :: c :: d :: r) => hb x hx
  have e := be4_num (a := a) (b := b) (c := c) (d := d) (k a (by simp)) (k b (by simp)) (k c (by simp)) (k d (by simp))
  unfold n4
  simpa using e
theorem body_iff {α : Type} {s : Nat} {dec : List Int → α} {byt : α → List Int} {may : α → Bool} {path : α → Int} {canon : List Int → Bool} (P : PartLaw s dec byt may path canon) (r : Nat) {L : List Int} (hb : Bytes L) (hr : r ≤ 1) :
    (((okF may path (decs s dec 15 (L.drop 4))).isSome = true ∧ beI (src4 L) 4 ++ (decs s dec 15 (L.drop 4)).flatMap byt = L ∧ (r = 1 → decs s dec 15 (L.drop 4) ≠ [])) ↔ (docR s r dec path canon L).isSome = true) ∧ ∀ zs, docR s r dec path canon L = some zs → zs = decs s dec 15 (L.drop 4) := by
  have hpos := P.pos
  have hfl := flat_len byt s P.len (decs s dec 15 (L.drop 4))
  unfold docR
  by_cases hc : 4 + s * r ≤ L.length ∧ L.length % s = 4 % s
  · obtain ⟨h4, hm⟩ := hc
    rw [if_pos ⟨h4, hm⟩]
    have h40 : 4 ≤ L.length := by omega
    have hdvd : (L.length - 4) % s = 0 := (Nat.sub_mod_eq_zero_of_mod_eq hm)
    have hlen : (L.drop 4).length = s * ((L.length - 4) / s) := by
      rw [List.length_drop]
      have := Nat.div_add_mod (L.length - 4) s
      rw [hdvd] at this
      omega
    obtain ⟨i1, i2⟩ := doc_iff P ((L.length - 4) / s) 15 0 (L.drop 4) hlen (hb.drop 4) (Int.le_refl _) (by decide)
    have htd : L = L.take 4 ++ L.drop 4 := (List.take_append_drop 4 L).symm
    refine ⟨?_, i2⟩
    rw [← i1]
    have hs4 : src4 L = n4 L := by unfold src4; rw [if_pos h40]
    rw [hs4, be4_n4 hb h40]
    constructor
    · rintro ⟨h1, h2, _⟩
      exact ⟨h1, List.append_cancel_left (h2.trans htd)⟩
    · rintro ⟨h1, h2⟩
      refine ⟨h1, by rw [h2]; exact htd.symm, fun e => ?_⟩
      subst e
      intro e2
      rw [e2] at h2
      have h3 : (L.drop 4).length = 0 := by rw [← h2]; rfl
      rw [List.length_drop] at h3
      omega
  · rw [if_neg hc]
    refine ⟨⟨fun h => ?_, fun h => by cases h⟩, fun zs h => by cases h⟩
    obtain ⟨h1, h2, h3⟩ := h
    exfalso
    apply hc
    have h4 : L.length = 4 + (decs s dec 15 (L.drop 4)).length * s := by
      conv => lhs; rw [← h2]
      rw [List.length_append, beI_len, hfl]
    refine ⟨?_, by rw [h4, Nat.add_mul_mod_self_right]⟩
    rw [h4]
    rcases Nat.eq_zero_or_pos r with e | e
    · subst e; omega
    · obtain rfl : r = 1 := by omega
      have h5 : 0 < (decs s dec 15 (L.drop 4)).length := List.length_pos_iff.2 (h3 rfl)
      have h6 : 1 * s ≤ (decs s dec 15 (L.drop 4)).length * s := Nat.mul_le_mul_right s h5
      omega
def canA (l : List Int) : Bool := decide (l.getD 1 0 ≤ 1)
def canL (l : List Int) : Bool := decide (l.getD 2 0 = 0 ∧ l.getD 3 0 = 0 ∧ l.getD 7 0 = 0)
theorem be1 (x : Int) (h : 0 ≤ x ∧ x ≤ 255) : beI (x % 4294967296) 1 = [x] := by
  simp [beI, List.range_succ]; omega
theorem bytA_eq (x : AdR) (hp : 0 ≤ x.p ∧ x.p ≤ 255) : bytA x = [x.p, if x.u then 1 else 0, x.r % 4294967296 / 256 % 256, x.r % 4294967296 % 256] := by
  unfold bytA encA
  simp only [List.flatMap_cons, List.flatMap_nil, id, List.append_nil, beAll, List.range_succ, List.range_zero, List.nil_append, List.flatMap_append, List.getD_cons_zero, List.getD_cons_succ]
  rw [be1 x.p hp, beI_two]
  cases x.u <;> simp [beI, List.range_succ]
theorem lawA : PartLaw 4 decA bytA AdR.may AdR.p canA := by
  refine ⟨by decide, bytA_len, fun l hb hl => ?_, fun l hb hl => ?_⟩
  · obtain ⟨a, b, c, d, r, rfl⟩ := cut4 hl
    have ha := hb a (by simp)
    have hbb := hb b (by simp)
    have hc := hb c (by simp)
    have hd := hb d (by simp)
    rw [bytA_eq _ (by simpa [decA] using ha)]
    unfold canA decA n2
    simp
    have h1 : (256 * c + d) % 4294967296 / 256 % 256 = c := by omega
    have h2 : d % 256 = d := by omega
    rw [h1, h2]
    simp
    by_cases e : b = 1
    · simp [e]
    · rw [if_neg e]; omega
  · have ha := hb.at_ 0
    have h2 := n2_bd (hb.drop 2)
    unfold AdR.may decA
    simp
    omega
theorem be3_num {a b c : Int} (ha : 0 ≤ a ∧ a ≤ 255) (hb : 0 ≤ b ∧ b ≤ 255) (hc : 0 ≤ c ∧ c ≤ 255) : beI (sgn24 (65536 * a + 256 * b + c) % 4294967296) 3 = [a, b, c] := by
  unfold sgn24
  simp [beI, List.range_succ]
  split <;> refine ⟨?_, ?_, ?_⟩ <;> omega
theorem bytL_eq (x : LnR) (hp : 0 ≤ x.p ∧ x.p ≤ 255) (hf : 0 ≤ x.f ∧ x.f ≤ 255) : bytL x = [x.p, x.f, 0, 0] ++ (beI (x.l % 4294967296) 3 ++ ([0] ++ (beI x.h 4 ++ (beI x.j 4 ++ (beI x.b 4 ++ (beI x.t 4 ++ beI x.d 4)))))) := by
  unfold bytL encL
  simp only [List.flatMap_cons, List.flatMap_nil, id, List.append_nil, beAll, be4All, List.range_succ, List.range_zero, List.nil_append, List.flatMap_append, List.getD_cons_zero, List.getD_cons_succ]
  rw [be1 x.p hp, be1 x.f hf]
  have e2 : beI (0 % 4294967296) 2 = [0, 0] := by decide
  have e1 : beI (0 % 4294967296) 1 = [0] := by decide
  rw [e2, e1]
  simp
theorem cut28 {l : List Int} (h : 28 ≤ l.length) : ∃ a0 a1 a2 a3 a4 a5 a6 a7 b0 b1 b2 b3 c0 c1 c2 c3 d0 d1 d2 d3 e0 e1 e2 e3 f0 f1 f2 f3 r, l = a0 :: a1 :: a2 :: a3 :: a4 :: a5 :: a6 :: a7 :: b0 :: b1 :: b2 :: b3 :: c0 :: c1 :: c2 :: c3 :: d0 :: d1 :: d2 :: d3 :: e0 :: e1 :: e2 :: e3 :: f0 :: f1 :: f2 :: f3 :: r := by
  obtain ⟨a0, a1, a2, a3, l1, rfl⟩ := cut4 (l := l) (by omega)
  obtain ⟨a4, a5, a6, a7, l2, rfl⟩ := cut4 (l := l1) (by simp at h; omega)
  obtain ⟨b0, b1, b2, b3, l3, rfl⟩ := cut4 (l := l2) (by simp at h; omega)
  obtain ⟨c0, c1, c2, c3, l4, rfl⟩ := cut4 (l := l3) (by simp at h; omega)
  obtain ⟨d0, d1, d2, d3, l5, rfl⟩ := cut4 (l := l4) (by simp at h; omega)
  obtain ⟨e0, e1, e2, e3, l6, rfl⟩ := cut4 (l := l5) (by simp at h; omega)
  obtain ⟨f0, f1, f2, f3, l7, rfl⟩ := cut4 (l := l6) (by simp at h; omega)
  exact ⟨a0, a1, a2, a3, a4, a5, a6, a7, b0, b1, b2, b3, c0, c1, c2, c3, d0, d1, d2, d3, e0, e1, e2, e3, f0, f1, f2, f3, l7, rfl⟩
theorem lawL : PartLaw 28 decL bytL LnR.may LnR.p canL := by
  refine ⟨by decide, bytL_len, fun l hb hl => ?_, fun l hb hl => ?_⟩
  · have h0 := hb.at_ 0
    have h1 := hb.at_ 1
    have hok := hb
    obtain ⟨a0, a1, a2, a3, a4, a5, a6, a7, b0, b1, b2, b3, c0, c1, c2, c3, d0, d1, d2, d3, e0, e1, e2, e3, f0, f1, f2, f3, r, rfl⟩ := cut28 hl
    have k := fun x (hx : x ∈ a0 :: a1 :: a2 :: a3 :: a4 :: a5 :: a6 :: a7 :: b0 :: b1 :: b2 :: b3 :: c0 :: c1 :: c2 :: c3 :: d0 :: d1 :: d2 :: d3 :: e0 :: e1 :: e2 :: e3 :: f0 :: f1 :: f2 :: f3 :: r) => hok x hx
    rw [bytL_eq _ (by simpa [decL] using h0) (by simpa [decL] using h1)]
    have q3 := be3_num (k a4 (by simp)) (k a5 (by simp)) (k a6 (by simp))
    have qb := be4_num (k b0 (by simp)) (k b1 (by simp)) (k b2 (by simp)) (k b3 (by simp))
    have qc := be4_num (k c0 (by simp)) (k c1 (by simp)) (k c2 (by simp)) (k c3 (by simp))
    have qd := be4_num (k d0 (by simp)) (k d1 (by simp)) (k d2 (by simp)) (k d3 (by simp))
    have qe := be4_num (k e0 (by simp)) (k e1 (by simp)) (k e2 (by simp)) (k e3 (by simp))
    have qf := be4_num (k f0 (by simp)) (k f1 (by simp)) (k f2 (by simp)) (k f3 (by simp))
    unfold canL decL n3 n4
    simp only [List.drop_succ_cons, List.drop_zero, List.getD_cons_zero, List.getD_cons_succ, q3, qb, qc, qd, qe, qf, List.take_succ_cons, List.take_zero, List.cons_append, List.nil_append, List.append_nil, List.cons.injEq, true_and, and_true, decide_eq_true_eq]
    constructor
    · rintro ⟨h2, h3, h7⟩; exact ⟨h2.symm, h3.symm, h7.symm⟩
    · rintro ⟨h2, h3, h7⟩; exact ⟨h2.symm, h3.symm, h7.symm⟩
  · have h0 := hb.at_ 0
    have h1 := hb.at_ 1
    have h3 := n3_bd (hb.drop 4)
    have h4 : -8388608 ≤ sgn24 (n3 (l.drop 4)) ∧ sgn24 (n3 (l.drop 4)) ≤ 8388607 := by unfold sgn24; split <;> omega
    unfold LnR.may decL
    simp only [decide_eq_true_eq]
    omega
theorem pieceA_doc {L : List Int} (hb : Bytes L) : decide (pieceA (src4 L) (decs 4 decA 15 (L.drop 4)) = some L) = (docR 4 0 decA AdR.p canA L).isSome ∧ ∀ zs, docR 4 0 decA AdR.p canA L = some zs → zs = decs 4 decA 15 (L.drop 4) := by
  obtain ⟨h1, h2⟩ := body_iff lawA 0 hb (by omega)
  refine ⟨?_, h2⟩
  rw [Bool.eq_iff_iff, ← h1, decide_eq_true_eq]
  unfold pieceA bodyA
  by_cases h : (okF AdR.may AdR.p (decs 4 decA 15 (L.drop 4))).isSome = true
  · rw [if_pos h]
    simp [h]
  · rw [if_neg h]
    simp [h]
theorem pieceL_doc {L : List Int} (hb : Bytes L) : decide (pieceL (src4 L) (decs 28 decL 15 (L.drop 4)) = some L) = (docR 28 1 decL LnR.p canL L).isSome ∧ ∀ zs, docR 28 1 decL LnR.p canL L = some zs → zs = decs 28 decL 15 (L.drop 4) := by
  obtain ⟨h1, h2⟩ := body_iff lawL 1 hb (by omega)
  refine ⟨?_, h2⟩
  rw [Bool.eq_iff_iff, ← h1, decide_eq_true_eq]
  unfold pieceL bodyL
  by_cases hn : decs 28 decL 15 (L.drop 4) = []
  · rw [if_pos hn]
    simp [hn]
  · rw [if_neg hn]
    by_cases h : (okF LnR.may LnR.p (decs 28 decL 15 (L.drop 4))).isSome = true
    · rw [if_pos h]
      simp [h, hn]
    · rw [if_neg h]
      simp [h]
end Go.Proofs.Ytliilcadlijnoaa
