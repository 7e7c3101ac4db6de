/- The document's history: Put. No condition but that the row can be read. -/
import Derived.Test.YtonamlgipoannaaHistR1
namespace Go.Proofs.Ytonamlgipoannaa
open Go.RowKit BigFrame
attribute [local go_sem ↓] Go.wp_at_zero Go.wp_at_succ

/-- Behind a call of the document's: a history of the records L', its row the old one's block or a new one. -/
def RefPost (w w' : World) (x' : Value) (a b c : Int) (L' : List HR) (sa : Option Addr) : Prop :=
  ∃ (sa' : Option Addr) (sc' : Nat), RR w' x' a b c L' sa' sc' ∧ (∀ g off, sa' = some ⟨g, off, none⟩ → (∃ o, sa = some ⟨g, o, none⟩) ∨ w.heap.size ≤ g) ∧ Below w.heap.size w w'
set_option maxRecDepth 8000 in
set_option maxHeartbeats 8000000 in
theorem ref21_Put (x : Value) (a b c : Int) (l : List HR) (sa : Option Addr) (sc : Nat) (s pa : Int) (data : ByteArray) (w : World) (R : RR w x a b c l sa sc) (hl : l.length ≤ 100000) (ha : 1 ≤ a) (hla : (l.length : Int) ≤ a) (ok : Bool) (hok : ok = true ↔ ∀ r ∈ l, r.seq < s) :
    Calls Try.prog 43 #[x, .int .i64 s, .int .i64 pa, .string data] w fun e w' => ∃ x', e = .returned (.tuple #[x', .bool ok]) ∧ RefPost w w' x' a b c (if ok then (if (l.length : Int) = a then l.drop 1 else l) ++ [⟨s, 0, pa, data⟩] else l) sa := by
  obtain ⟨i0, hi0, hz0, hz1, hz2⟩ := info_ref
  have R0 := R
  obtain ⟨rfl, row⟩ := R
  obtain ⟨n, hn⟩ : ∃ n, l.length = n := ⟨_, rfl⟩
  obtain ⟨L', hL'⟩ : ∃ L', (if ok then (if (l.length : Int) = a then l.drop 1 else l) ++ [⟨s, 0, pa, data⟩] else l) = L' := ⟨_, rfl⟩
  rw [hL']
  have HL := Lib.hid hL'
  rw [hn] at row hl hla ⊢
  have HN := Lib.hid hn
  have HROW := Lib.hid row
  have HOK := Lib.hid hok
  have HR0 := Lib.hid R0
  have hsc := row.cap
  have hsm := row.most
  clear row hok hn hL' R0
  obtain ⟨K1, K2, B1⟩ := two_new w #[.int .i64 a, .int .i64 b, .int .i64 c, .slice sa n sc] #[.int .i64 0, .int .i64 0, .int .i64 0, .slice none 0 0] 43 43
  go_enter Try.func43, Try.ntmps43
  go_upto_region 1 with fail
  generalize (w.alloc (.cells #[.int .i64 a, .int .i64 b, .int .i64 c, .slice sa n sc] 43)).alloc (.cells #[.int .i64 0, .int .i64 0, .int .i64 0, .slice none 0 0] 43) = w1 at *
  have c1 := K1.cell
  simp at c1
  have hlt1 := K2.lt
  have s1 := B1.size
  go_wp2_with fail
  go_loopw [16] (fun x16 wr => ∃ k : Nat, k ≤ n ∧ x16 = .int .i64 k ∧ (∀ j r, l[j]? = some r → j < k → r.seq < s) ∧ Below w1.heap.size w1 wr) (fun x16 _ => n - (intOf x16).toNat)
  case atStart => exact ⟨0, by omega, rfl, fun j r _ h => absurd h (by omega), Below.refl _ _⟩
  case round =>
    obtain ⟨k, hk, rfl, hno, Bw⟩ := hrel
    have HNO := Lib.hid hno
    clear hno
    have K1r := K1.below Bw K1.lt
    have K2r := K2.below Bw K2.lt
    have Bx := below_then B1 Bw (Nat.le_refl _)
    by_cases hlt : k < n
    · obtain ⟨g, off, rfl, hg, hcell⟩ := (HROW.out).rec_ (by omega)
      have hql : k < l.length := by have := HN.out; omega
      obtain ⟨r, hrr⟩ : ∃ r, l[k]? = some r := ⟨_, List.getElem?_eq_getElem hql⟩
      obtain ⟨e0, e1, e2, e3⟩ := hcell k r hrr
      have d0 := (Bx.cell (p := ⟨g, off + k * 4, none⟩) hg).trans e0
      have d1 := (Bx.cell (p := ⟨g, off + k * 4 + 1, none⟩) hg).trans e1
      have d2 := (Bx.cell (p := ⟨g, off + k * 4 + 2, none⟩) hg).trans e2
      have d3 := (Bx.cell (p := ⟨g, off + k * 4 + 3, none⟩) hg).trans e3
      have HRR := Lib.hid hrr
      have p0 : (0 : Int) ≤ (k : Int) := by omega
      have p1 : (k : Int) < (n : Int) := by omega
      have wk : IntKind.i64.wrap ((k : Int) + 1) = ((k + 1 : Nat) : Int) := by rw [IntWalk.i64_in _ (by omega)]; omega
      have Ka := Blk.new wr 99 #[.int .i64 r.seq, .int .i64 r.tries, .int .i64 r.path, .string r.data]
      have Ba : Below wr.heap.size wr (wr.alloc (.cells #[.int .i64 r.seq, .int .i64 r.tries, .int .i64 r.path, .string r.data] 99)) := (Below.refl _ wr).alloc (Nat.le_refl _) _
      have K1a := K1r.below Ba K1r.lt
      have K2a := K2r.below Ba K2r.lt
      have Bw2 := below_then Bw Ba (Nat.le_refl _)
      clear e0 e1 e2 e3 hrr hcell hql
      go_upto_region 4 with fail
      clear d0 d1 d2 d3
      generalize wr.alloc (.cells #[.int .i64 r.seq, .int .i64 r.tries, .int .i64 r.path, .string r.data] 99) = wa at *
      have ca := Ka.cell
      simp at ca
      by_cases hs : s ≤ r.seq
      · obtain rfl : ok = false := by
          cases ok with
          | false => rfl
          | true =>
            have := HOK.out.1 rfl r (List.mem_of_getElem? HRR.out)
            omega
        obtain ⟨w5, e5, K5, B5, hk5⟩ := four_set K2a rfl (.int .i64 a) (.int .i64 b) (.int .i64 c) (.slice (some ⟨g, off, none⟩) n sc) w.heap.size (by omega)
        have c1a := K1a.cell
        have c2 := K2a.cell
        have f2 := K2a.frozen
        have c5 := K5.cell
        simp at c1a c2 c5
        have BE := (below_then B1 Bw2 (Nat.le_refl _)).trans B5
        have hL : L' = l := by rw [← HL.out]; rfl
        have HLL := Lib.hid hL
        clear hL
        go_wp2_with fail
        refine bodyPost_ret (v := .tuple #[.agg #[.int .i64 a, .int .i64 b, .int .i64 c, .slice (some ⟨g, off, none⟩) n sc], .bool false]) ?_ rfl ⟨_, rfl, some ⟨g, off, none⟩, sc, ?_, fun g' o' e => .inl ⟨o', e⟩, BE⟩
        · simp [results, Try.results43, go_sem, c5]
          try rfl
        · have h0 := HR0.out.below BE
          rw [HN.out] at h0
          rw [HLL.out]
          exact ⟨by rw [HN.out], h0.row⟩
      · go_wp2_with fail
        go_roundw
        case rel =>
          refine ⟨k + 1, by omega, by go_num, fun j r' hj hjk => ?_, Bw2⟩
          rcases Nat.lt_or_ge j k with h1 | h1
          · exact HNO.out j r' hj h1
          · obtain rfl : j = k := by omega
            rw [HRR.out] at hj
            injection hj with hj
            rw [← hj]; omega
        case measure => simp only [intOf]; omega
    · obtain rfl : k = n := by omega
      have p1 : ¬ (k : Int) < (k : Int) := by omega
      obtain rfl : ok = true := HOK.out.2 (fun r hm => by
        obtain ⟨i, hi, rfl⟩ := List.mem_iff_getElem.1 hm
        exact HNO.out i l[i] (List.getElem?_eq_getElem hi) (by have := HN.out; omega))
      have c1r := K1r.cell
      have c1r' := (K1r.alloc (.cells #[] 99)).cell
      simp at c1r c1r'
      have Bl : Below wr.heap.size wr (wr.alloc (.cells #[] 99)) := (Below.refl _ wr).alloc (Nat.le_refl _) _
      have own1 := own_lit wr 99 4
      have hn1 := ((HROW.out.below Bx).below Bl).news
      have hlen : (rowR l).length = k * 4 := by rw [rowR_len, HN.out]
      have hone := rowR_one l
      have K1l := K1r.lt
      have K2l := K2r.lt
      go_upto_region 7 with fail
      clear p1 hlt c1
      go_upto_region 8 with (first | (at_builtin; refine wpList_append_sl rfl _ _ 41 rfl wr.heap.size 99 i0 (.agg zRec) 4 40 Try.underlying41 hi0 hz0 hz1 hz2 rfl (by decide) _ _ _ rfl own1 sa k sc (rowR l) rfl hlen hn1 hone (by rw [maxLen_eq]; omega) (by omega) (by simp) ?_; intro v2 w2 own2 hgrow2 hat2 hsh2; obtain ⟨s2, k2, rfl⟩ := hsh2; have hg2 := (show (wr.alloc (.cells #[] 99)).grownBy w2 (some wr.heap.size) from hgrow2); have B2 : Below wr.heap.size wr w2 := (((Below.refl _ wr).alloc (Nat.le_refl _) _).grown hg2 (by simp) (fun j hj => by injection hj with hj; omega)); have hnew2 := World.news_of_block (Blk.new w2 99 #[.int .i64 s, .int .i64 0, .int .i64 pa, .string data]); have sB2 := B2.size; simp only [Nat.zero_add, List.nil_append] at own2; clear hgrow2 hat2 hg2 own1) | (at_builtin; refine wpList_append_lies _ rfl _ _ 41 rfl wr.heap.size 99 i0 (.agg zRec) 4 40 Try.underlying41 hi0 hz0 hz1 hz2 rfl (by decide) _ _ _ rfl (own2.alloc _) ⟨w2.heap.size, 0, none⟩ 1 1 [.int .i64 s, .int .i64 0, .int .i64 pa, .string data] rfl rfl hnew2 (by simp [Value.oneCell']) (by omega) (by rw [maxLen_eq]; omega) (by omega) (by simp; omega) _ rfl ?_; intro g3 k3 w3 own3 hgrow3 hat3 hlt3; have B3 : Below wr.heap.size wr w3 := (B2.alloc sB2 _).grown hgrow3 (by simp; omega) (fun j hj => (own2.lt j hj).1)))
      have hrow : rowR l ++ [.int .i64 s, .int .i64 0, .int .i64 pa, .string data] = rowR (l ++ [⟨s, 0, pa, data⟩]) := by rw [rowR_append]; rfl
      rw [hrow] at own3
      have R3 := RowAt.of_own own3 (by rw [List.length_append, HN.out]; rfl)
      have hcap3 := R3.cap
      have hmst3 := R3.most
      have hbg : wr.heap.size ≤ g3 := (own3.lt g3 rfl).1
      have K13 := K1r.below B3 K1l
      have K23 := K2r.below B3 K2l
      have Bw3 := below_then Bx B3 (Nat.le_refl _)
      have c13 := K13.cell
      have f13 := K13.frozen
      simp at c13
      have hk1 : ((k + 1 : Nat) : Int) = (k : Int) + 1 := by omega
      clear own2 own3 hgrow3 hat3 B2 hn1 hnew2 hrow c1r c1r' K1r K2r B3
      by_cases hfull : (k : Int) = a
      · have x1 : a < (k : Int) + 1 := by omega
        have x2 : ¬ k3 = 1 := by omega
        have x3 : 1 ≤ k3 := by omega
        have x4 : (1 : Int) ≤ (k : Int) + 1 := by omega
        have HLL := Lib.hid (show L' = (l ++ [(⟨s, 0, pa, data⟩ : HR)]).drop 1 by
          rw [← HL.out, HN.out, if_pos hfull]
          simp only [if_true]
          rw [List.drop_append_of_le_length (by rw [HN.out]; omega)])
        have HLN := Lib.hid (show ((l ++ [(⟨s, 0, pa, data⟩ : HR)]).drop 1).length = k by rw [List.length_drop, List.length_append, HN.out]; rfl)
        have HF := Lib.hid hfull
        clear hfull
        have K14 := K13.set_ 3 (.slice (some ⟨g3, 4, none⟩) k (k3 - 1))
        have K24 := K23.far (p := ⟨w.heap.size, 3, none⟩) (by simp) (.slice (some ⟨g3, 4, none⟩) k (k3 - 1))
        have B4 : Below w.heap.size w (w3.setCell ⟨w.heap.size, 3, none⟩ (.slice (some ⟨g3, 4, none⟩) k (k3 - 1))) := Bw3.setCell (p := ⟨w.heap.size, 3, none⟩) (Nat.le_refl _) _
        have R4 := R3.at_ (W' := w3.setCell ⟨w.heap.size, 3, none⟩ (.slice (some ⟨g3, 4, none⟩) k (k3 - 1))) (by simp) (fun g off e _ => Below.heap_setCell _ ⟨w.heap.size, 3, none⟩ _ g (by injection e with e; injection e with e1 e2; have := Bx.size; simp; omega))
        simp at K14
        go_upto_region 11 with fail
        generalize w3.setCell ⟨w.heap.size, 3, none⟩ (.slice (some ⟨g3, 4, none⟩) k (k3 - 1)) = w4 at *
        have c14 := K14.cell
        simp at c14
        have K24l := K24.lt
        obtain ⟨w5, e5, K5, B5, hk5⟩ := four_set K24 rfl (.int .i64 a) (.int .i64 b) (.int .i64 c) (.slice (some ⟨g3, 4, none⟩) k (k3 - 1)) w.heap.size (by omega)
        have c2 := K24.cell
        have f2 := K24.frozen
        have c5 := K5.cell
        simp at c2 c5
        have BE := B4.trans B5
        have R5 := R4.at_ (W' := w5) B5.size (fun g off e _ => hk5 g (by injection e with e; injection e with e1 e2; have := Bx.size; omega))
        clear K13 K23 c13 f13
        go_wp2_with fail
        refine bodyPost_ret (v := .tuple #[.agg #[.int .i64 a, .int .i64 b, .int .i64 c, .slice (some ⟨g3, 4, none⟩) k (k3 - 1)], .bool true]) ?_ rfl ⟨_, rfl, _, _, ⟨by rw [HLL.out, HLN.out], by rw [HLL.out, HLN.out]; exact R5.drop1⟩, fun g' o' e => .inr (by injection e with e; injection e with e1 e2; have := Bx.size; omega), BE⟩
        simp [results, Try.results43, go_sem, c5]
        try rfl
      · have x1 : ¬ a < (k : Int) + 1 := by omega
        have HLL := Lib.hid (show L' = (l ++ [(⟨s, 0, pa, data⟩ : HR)]) by
          rw [← HL.out, HN.out, if_neg hfull]
          rfl)
        have HLN := Lib.hid (show (l ++ [(⟨s, 0, pa, data⟩ : HR)]).length = k + 1 by rw [List.length_append, HN.out]; rfl)
        clear hfull
        have K14 := K13.set_ 3 (.slice (some ⟨g3, 0, none⟩) (k + 1) k3)
        have K24 := K23.far (p := ⟨w.heap.size, 3, none⟩) (by simp) (.slice (some ⟨g3, 0, none⟩) (k + 1) k3)
        have B4 : Below w.heap.size w (w3.setCell ⟨w.heap.size, 3, none⟩ (.slice (some ⟨g3, 0, none⟩) (k + 1) k3)) := Bw3.setCell (p := ⟨w.heap.size, 3, none⟩) (Nat.le_refl _) _
        have R4 := R3.at_ (W' := w3.setCell ⟨w.heap.size, 3, none⟩ (.slice (some ⟨g3, 0, none⟩) (k + 1) k3)) (by simp) (fun g off e _ => Below.heap_setCell _ ⟨w.heap.size, 3, none⟩ _ g (by injection e with e; injection e with e1 e2; have := Bx.size; simp; omega))
        simp at K14
        go_upto_region 11 with fail
        generalize w3.setCell ⟨w.heap.size, 3, none⟩ (.slice (some ⟨g3, 0, none⟩) (k + 1) k3) = w4 at *
        have c14 := K14.cell
        simp at c14
        have K24l := K24.lt
        obtain ⟨w5, e5, K5, B5, hk5⟩ := four_set K24 rfl (.int .i64 a) (.int .i64 b) (.int .i64 c) (.slice (some ⟨g3, 0, none⟩) (k + 1) k3) w.heap.size (by omega)
        have c2 := K24.cell
        have f2 := K24.frozen
        have c5 := K5.cell
        simp at c2 c5
        have BE := B4.trans B5
        have R5 := R4.at_ (W' := w5) B5.size (fun g off e _ => hk5 g (by injection e with e; injection e with e1 e2; have := Bx.size; omega))
        clear K13 K23 c13 f13
        go_wp2_with fail
        refine bodyPost_ret (v := .tuple #[.agg #[.int .i64 a, .int .i64 b, .int .i64 c, .slice (some ⟨g3, 0, none⟩) (k + 1) k3], .bool true]) ?_ rfl ⟨_, rfl, _, _, ⟨by rw [HLL.out, HLN.out], by rw [HLL.out, HLN.out]; exact R5⟩, fun g' o' e => .inr (by injection e with e; injection e with e1 e2; have := Bx.size; omega), BE⟩
        simp [results, Try.results43, go_sem, c5]
        try rfl
end Go.Proofs.Ytonamlgipoannaa
