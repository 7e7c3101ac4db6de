/- The reference's Turn, walked: it gives the text whose bits are turned so. No condition but the texts' lengths. -/
import Derived.Test.YtkopapiblihmmaaCrcTurn
import Derived.Test.YtkopapiblihmmaaCrcSealP
namespace Go.Proofs.Ytkopapiblihmmaa
open Go.RowKit
attribute [local go_sem ↓] Go.wp_at_zero Go.wp_at_succ

def bI (d : Bool) : Int := if d then 1 else 0
def rowB (n : Nat) (d : Nat → Bool) : List Value := (List.range n).map fun i => Value.int .i64 (bI (d i))
theorem bitCells_row (n : Nat) (d : Nat → Bool) : bitCells ((List.range n).map d) = rowB n d := by
  unfold bitCells rowB bI
  simp
theorem rowB_get (n : Nat) (d : Nat → Bool) (i : Nat) (h : i < n) : (rowB n d)[i]? = some (.int .i64 (bI (d i))) := by simp [rowB, h]
theorem rowB_len (n : Nat) (d : Nat → Bool) : (rowB n d).length = n := by simp [rowB]
theorem rowB_set (n : Nat) (d : Nat → Bool) (k : Nat) (b : Bool) : (rowB n d).set k (.int .i64 (bI b)) = rowB n (fun i => if i = k then b else d i) := by
  apply List.ext_getElem?
  intro i
  rw [List.getElem?_set, rowB_len]
  by_cases hi : i < n
  · rw [rowB_get _ _ _ hi, rowB_get _ _ _ hi]
    by_cases h : k = i
    · subst h; simp [hi]
    · rw [if_neg h, if_neg (Ne.symm h)]
  · have h0 : ∀ e, (rowB n e)[i]? = none := fun e => List.getElem?_eq_none (by rw [rowB_len]; omega)
    rw [h0, h0]
    by_cases h : k = i
    · subst h; simp [hi]
    · rw [if_neg h]
theorem rowB_congr (n : Nat) (d e : Nat → Bool) (h : ∀ i, i < n → d i = e i) : rowB n d = rowB n e := by
  apply List.ext_getElem?
  intro i
  by_cases hi : i < n
  · rw [rowB_get _ _ _ hi, rowB_get _ _ _ hi, h i hi]
  · rw [List.getElem?_eq_none (by rw [rowB_len]; omega), List.getElem?_eq_none (by rw [rowB_len]; omega)]
theorem own_ne {w : World} {base : Nat} {e1 e2 : TypeId} {s1 s2 n1 n2 : Nat} {v1 v2 : Value} {x1 x2 : List Value} (h1 : w.ownsRow base e1 s1 v1 n1 x1) (h2 : w.ownsRow base e2 s2 v2 n2 x2) (hne : e1 ≠ e2) : v1.ownBlock = none ∨ v1.ownBlock ≠ v2.ownBlock := by
  rcases h1.2 with ⟨rfl, _⟩ | ⟨g, cap, cur, rfl, _, hg, _⟩
  · exact .inl rfl
  · right
    rcases h2.2 with ⟨rfl, _⟩ | ⟨g', cap', cur', rfl, _, hg', _⟩
    · simp [Value.ownBlock]
    · intro he
      have : g = g' := by simpa [Value.ownBlock] using he
      subst this
      rw [hg] at hg'
      injection hg' with h
      injection h with _ h
      exact hne h
/-- What the call has put together as bytes reads as a text. -/
theorem conv_own {w : World} {base n : Nat} {v : Value} (g : Nat → Nat) (h : w.ownsRow base 5 1 v n ((List.range n).map fun j => Value.int .u8 (g j : Int))) (hg : ∀ j, g j < 256) (t : ByteArray) (ht : t.size = n) (hb : ∀ i, i < 8 * n → bitA t i = (g (i / 8)).testBit (7 - i % 8)) :
    (convert 33 9 v).run Try.prog w = .ok (.string t) w := by
  obtain ⟨a, c, rfl, S⟩ := SliceOf.of_own h (fun j => .int .u8 (g j : Int)) (fun i hi => by simp [hi])
  rcases Nat.eq_zero_or_pos n with h0 | h0
  · subst h0
    have ht0 : t = ⟨#[]⟩ := by
      apply Go.WideShapes.bytes_inj
      exact List.eq_nil_of_length_eq_zero (by simpa using ht)
    subst ht0
    rcases h.2 with ⟨hv, _⟩ | ⟨g', cap, cur, hv, _⟩
    · injection hv with hv1 hv2 hv3
      subst hv1
      exact run_convert_bytes_nil (P := Try.prog) w 33 5 Try.underlying33 Try.underlying5 0 c 9 Try.underlying9
    · injection hv with hv1 hv2 hv3
      subst hv1
      exact run_convert_bytes_arg (P := Try.prog) w 33 5 Try.underlying33 Try.underlying5 g' 0 0 c [] rfl (fun i hi => absurd hi (by omega)) 9 Try.underlying9
  · obtain ⟨b, off, rfl, _, hc⟩ := S.at1 h0
    rw [← row_text n g hg t ht hb]
    exact run_convert_bytes_arg (P := Try.prog) w 33 5 Try.underlying33 Try.underlying5 b off n c ((List.range n).map fun j => (g j : Int)) (by simp) (fun i hi => by
      rw [hc i hi]; simp [hi]) 9 Try.underlying9
theorem mask_mod (m : BitVec 32) (k : Nat) (hk : k < 32) : ((m.toNat / 2 ^ (31 - k) % 2 : Nat) : Int) = bI (m.getLsbD (31 - k)) := by
  show _ = bI (m.toNat.testBit (31 - k))
  rw [Nat.testBit_eq_decide_div_mod_eq]
  rcases Nat.mod_two_eq_zero_or_one (m.toNat / 2 ^ (31 - k)) with h | h <;> rw [h] <;> rfl

theorem mask_tmod (m : BitVec 32) (k : Nat) (hk : k < 32) : ((m.toNat : Int) / (2 : Int) ^ (31 - k)).tmod 2 = bI (m.getLsbD (31 - k)) := by
  rw [← mask_mod m k hk]
  have e : ((m.toNat : Int) / (2 : Int) ^ (31 - k)) = ((m.toNat / 2 ^ (31 - k) : Nat) : Int) := by rw [Int.natCast_ediv, Int.natCast_pow]; rfl
  rw [e, Int.tmod_eq_emod_of_nonneg (Int.natCast_nonneg _)]
  omega
set_option maxHeartbeats 4000000 in
theorem ref02_Turn (s t : ByteArray) (a1 : Int) (at_ : Nat) (mask : BitVec 32) (hs : s.size ≤ 50000) (hat : max 0 (min a1 (8 * s.size)) = at_) (h : IsTurn s t at_ mask) (w : World) :
    Calls Try.prog 20 #[.string s, .int .i64 a1, .int .u32 (mask.toNat : Int)] w fun e w' => e = .returned (.string t) ∧ Below w.heap.size w w' := by
  obtain ⟨i0, hi0, hz0, hz1, hz2⟩ := info_parts (show (Try.prog.info? 5).map (fun i => (i.zero, i.size, i.bytes)) = some (some (.int .u8 0), 1, 1) by kernel_rfl)
  obtain ⟨z, hz⟩ : ∃ z, s.size = z := ⟨_, rfl⟩
  obtain ⟨n, hn⟩ : ∃ n, 8 * z = n := ⟨_, rfl⟩
  have hat1 : max 0 (min a1 (n : Int)) = (at_ : Int) := by rw [← hat, ← hn, ← hz]; rfl
  have hat2 : at_ ≤ n := by omega
  have hn5 : n ≤ 400000 := by omega
  have hz5 : z ≤ 50000 := by omega
  have HN := Lib.hid hn
  have HZ := Lib.hid hz
  have HT := Lib.hid h
  have HBITS := Lib.hid (fun W => ref02_Bits s W (by omega))
  clear hat h hn hs hz
  go_enter Try.func20, Try.ntmps20
  go_wp2_with fail
  refine (HBITS.out _).mono ?_
  rintro e w1 ⟨v1, rfl, own1, B1⟩
  rw [HZ.out, HN.out] at own1
  obtain ⟨a, c, hv1, _⟩ := SliceOf.of_own own1 (fun i => .int .i64 (bI (bitA s i))) (fun i hi => by
    rw [bits_bitA, HZ.out, HN.out, bitCells_row]; exact rowB_get _ _ _ hi)
  rw [hv1] at own1 ⊢
  rw [bits_bitA, HZ.out, HN.out, bitCells_row] at own1
  clear hv1
  go_wp2_with fail
  go_loopw [8] (fun i wr => ∃ k : Nat, k ≤ 32 ∧ i = .int .i64 k ∧ wr.ownsRow w.heap.size 3 1 (.slice a n c) n (rowB n (fun i => bitA s i ^^ (tbit at_ mask i && decide (i < at_ + k)))) ∧ Below w.heap.size w wr) (fun i _ => 32 - (intOf i).toNat)
  case atStart =>
    refine ⟨0, by omega, rfl, ?_, B1⟩
    have : rowB n (fun i => bitA s i ^^ (tbit at_ mask i && decide (i < at_ + 0))) = rowB n (bitA s) := rowB_congr _ _ _ (fun i hi => by
      unfold tbit
      by_cases h : at_ ≤ i
      · have : ¬ i < at_ := by omega
        simp [this]
      · simp [h])
    rw [this]
    exact own1
  case round =>
    clear own1 B1
    obtain ⟨k, hk, rfl, own, hB⟩ := hrel
    by_cases hgo : k < 32 ∧ at_ + k < n
    · obtain ⟨h1, h2⟩ := hgo
      obtain ⟨g, cap, hv, _, _⟩ := own.form (by omega)
      injection hv with hv1 _ hv3
      subst hv1 hv3
      have c0 := (own.cellAt (at_ + k) (by omega)).trans (rowB_get _ _ _ h2)
      have f0 := own.frozenAt (at_ + k)
      have hm := mask_tmod mask k h1
      have htb : tbit at_ mask (at_ + k) = mask.getLsbD (31 - k) := by
        unfold tbit
        have e1 : at_ ≤ at_ + k := by omega
        have e2 : at_ + k < at_ + 32 := by omega
        have e3 : at_ + k - at_ = k := by omega
        simp [e1, e2, e3]
      have hcur : (bitA s (at_ + k) ^^ (tbit at_ mask (at_ + k) && decide (at_ + k < at_ + k))) = bitA s (at_ + k) := by simp
      rw [hcur] at c0
      obtain ⟨y, hy⟩ : ∃ y, bI (bitA s (at_ + k)) = y := ⟨_, rfl⟩
      have y0 : 0 ≤ y := by rw [← hy]; unfold bI; split <;> omega
      have y1 : y ≤ 1 := by rw [← hy]; unfold bI; split <;> omega
      rw [hy] at c0
      have HY := Lib.hid hy
      have j1 : (0 : Int) ≤ (at_ : Int) + (k : Int) := by omega
      have j2 : (at_ : Int) + (k : Int) < (n : Int) := by omega
      cases hb : mask.getLsbD (31 - k)
      · rw [hb] at hm htb
        have hm2 : ((mask.toNat : Int) / (2 : Int) ^ (31 - k)).tmod 2 = 0 := hm
        have HTB := Lib.hid htb
        clear hm htb hb hy hcur
        go_wp2_with fail
        go_roundw
        case rel =>
          refine ⟨k + 1, by omega, by go_num, ?_, hB⟩
          have e : rowB n (fun i => bitA s i ^^ (tbit at_ mask i && decide (i < at_ + (k + 1)))) = rowB n (fun i => bitA s i ^^ (tbit at_ mask i && decide (i < at_ + k))) := rowB_congr _ _ _ (fun i hi => by
            by_cases h : i = at_ + k
            · subst h; rw [HTB.out]; simp
            · have : decide (i < at_ + (k + 1)) = decide (i < at_ + k) := by
                by_cases h3 : i < at_ + k
                · simp [h3]; omega
                · simp [h3]; omega
              rw [this])
          rw [e]
          exact own
        case measure => simp only [intOf]; omega
      · rw [hb] at hm htb
        have hm2 : ((mask.toNat : Int) / (2 : Int) ^ (31 - k)).tmod 2 = 1 := hm
        have HTB := Lib.hid htb
        clear hm htb hb hy hcur
        go_wp2_with fail
        go_roundw
        case rel =>
          obtain ⟨hst, hgr⟩ := own.stored (at_ + k) (.int .i64 (1 - y))
          have hlt := (own.lt g rfl).1
          refine ⟨k + 1, by omega, by go_num, ?_, hB.setCell hlt _⟩
          have hyy : (1 - y) = bI (!bitA s (at_ + k)) := by rw [← HY.out]; unfold bI; cases bitA s (at_ + k) <;> rfl
          rw [hyy, rowB_set] at hst
          have e : rowB n (fun i => bitA s i ^^ (tbit at_ mask i && decide (i < at_ + (k + 1)))) = rowB n (fun i => if i = at_ + k then !bitA s (at_ + k) else (bitA s i ^^ (tbit at_ mask i && decide (i < at_ + k)))) := rowB_congr _ _ _ (fun i hi => by
            by_cases h : i = at_ + k
            · subst h; rw [if_pos rfl, HTB.out]; simp
            · have : decide (i < at_ + (k + 1)) = decide (i < at_ + k) := by
                by_cases h3 : i < at_ + k
                · simp [h3]; omega
                · simp [h3]; omega
              rw [if_neg h, this])
          rw [e, hyy]
          exact hst
        case measure => simp only [intOf]; omega
    · have ownT : wr.ownsRow w.heap.size 3 1 (.slice a n c) n (rowB n (bitA t)) := by
        have hT := HT.out
        have e : rowB n (fun i => bitA s i ^^ (tbit at_ mask i && decide (i < at_ + k))) = rowB n (bitA t) := rowB_congr _ _ _ (fun i hi => by
          rw [hT.2 i (by have := HZ.out; have := HN.out; omega)]
          by_cases h : i < at_ + k
          · simp [h]
          · have : tbit at_ mask i = false := by
              unfold tbit
              have : ¬ i < at_ + 32 := by omega
              simp [this]
            rw [this]; simp)
        rw [← e]; exact own
      clear own
      have hgo2 : k < 32 → n ≤ at_ + k := fun h => by omega
      clear hgo
      have hx : (k < 32 ∧ n ≤ at_ + k) ∨ k = 32 := by
        rcases Nat.lt_or_ge k 32 with h | h
        · exact .inl ⟨h, hgo2 h⟩
        · exact .inr (by omega)
      clear hgo2
      have hn8 : n = 8 * z := HN.out.symm
      have HN8 := Lib.hid hn8
      clear hn8
      obtain ⟨gT, hgT⟩ : ∃ gT : Nat → Nat, (fun j => byteOf (fun k => bitA t (8 * j + k)) 8) = gT := ⟨_, rfl⟩
      have HG := Lib.hid hgT
      have hg8 : ∀ j, gT j < 256 := fun j => by rw [← hgT]; exact byteOf_lt _ 8
      have HG8 := Lib.hid hg8
      clear hgT hg8
      rcases hx with ⟨h1, h2⟩ | rfl
      all_goals
        go_wp2_with fail
        have own3 := ownT.alloc (.cells #[] 5)
        have own4 : (wr.alloc (.cells #[] 5)).ownsRow w.heap.size 5 1 (.slice (some ⟨wr.heap.size, 0, none⟩) 0 0) 0 ((List.range 0).map fun j => Value.int .u8 (gT j : Int)) :=
          World.ownsRow_lit (base := w.heap.size) (size := 1) (e := 5) wr #[] 0 hB.size (by decide) rfl
        have B4 := hB.alloc hB.size (.cells #[] 5)
        clear ownT hB
        obtain ⟨wo, rfl⟩ : ∃ wo : World, wo = wr := ⟨_, rfl⟩
        go_loopw [9, 10] (fun v i wr => ∃ q m : Nat, q ≤ z ∧ m ≤ n ∧ Hid (m = 8 * q) ∧ i = .int .i64 m ∧ wr.ownsRow w.heap.size 3 1 (.slice a n c) n (rowB n (bitA t)) ∧ wr.ownsRow w.heap.size 5 1 v q ((List.range q).map fun j => Value.int .u8 (gT j : Int)) ∧ Below w.heap.size w wr) (fun _ i _ => n - (intOf i).toNat)
        case atStart => exact ⟨0, 0, by omega, by omega, Lib.hid rfl, rfl, own3, own4, B4⟩
        case round =>
          clear own3 own4 B4
          obtain ⟨q, m, hq, hm, HM, rfl, o1, o2, hB⟩ := hrel
          by_cases hlt : q < z
          · have hmn : m < n := by have := HM.out; have := HN8.out; omega
            have hm7 : m + 7 < n := by have := HM.out; have := HN8.out; omega
            go_wp2_with fail
            go_loop [11, 12] (fun x i => ∃ j y : Nat, j ≤ 8 ∧ i = .int .i64 j ∧ x = .int .i64 (y : Int) ∧ Hid (y = byteOf (fun k => bitA t (8 * q + k)) j) ∧ y < 256) (fun _ i => 8 - (intOf i).toNat)
            case atStart => exact ⟨0, 0, by omega, rfl, rfl, Lib.hid rfl, by omega⟩
            case round =>
              obtain ⟨j, y, hj, rfl, rfl, HY, hy⟩ := hrel
              by_cases hlt2 : j < 8
              · obtain ⟨g, cap, hv, _, _⟩ := o1.form (by omega)
                injection hv with hv1 _ hv3
                subst hv1 hv3
                have c0 := (o1.cellAt (m + j) (by omega)).trans (rowB_get _ _ _ (by omega))
                obtain ⟨x, hx⟩ : ∃ x, bI (bitA t (m + j)) = x := ⟨_, rfl⟩
                have x0 : 0 ≤ x := by rw [← hx]; unfold bI; split <;> omega
                have x1 : x ≤ 1 := by rw [← hx]; unfold bI; split <;> omega
                rw [hx] at c0
                have hnew : (2 * y + x.toNat) = byteOf (fun k => bitA t (8 * q + k)) (j + 1) := by
                  show _ = 2 * byteOf (fun k => bitA t (8 * q + k)) j + (if bitA t (8 * q + j) then 1 else 0)
                  rw [HY.out, ← hx, HM.out]
                  unfold bI
                  cases bitA t (8 * q + j) <;> simp
                have hnl : byteOf (fun k => bitA t (8 * q + k)) (j + 1) < 256 := by
                  have h5 := byteOf_lt (fun k => bitA t (8 * q + k)) (j + 1)
                  have h6 : 2 ^ (j + 1) ≤ 2 ^ 8 := Nat.pow_le_pow_right (by omega) (by omega)
                  omega
                rw [← hnew] at hnl
                have HNEW := Lib.hid hnew
                have j1 : (0 : Int) ≤ (m : Int) + (j : Int) := by omega
                have j2 : (m : Int) + (j : Int) < (n : Int) := by omega
                clear hx hnew
                go_wp2_with fail
                go_round
                case rel => exact ⟨j + 1, 2 * y + x.toNat, by omega, by go_num, congrArg (Value.int .i64) (by omega), HNEW, hnl⟩
                case measure => simp [intOf]; omega
              · obtain rfl : j = 8 := by omega
                have hyg : y = gT q := by rw [HY.out, ← HG.out]
                have HYG := Lib.hid hyg
                clear hyg
                go_wp2_with (at_builtin; refine wpList_append_lies _ rfl _ _ 33 rfl w.heap.size 5 i0 (.int .u8 0) 1 1 Try.underlying33 hi0 hz0 hz1 hz2 rfl (by decide) _ _ _ rfl (o2.alloc _) ⟨wr.heap.size, 0, none⟩ 1 1 [.int .u8 (y : Int)] rfl rfl (cell_one_new _ _ _) (by simp [Value.oneCell']) (by omega) (by rw [maxLen_eq]; omega) (by omega) (Nat.le_trans hB.size (by simp)) _ rfl ?_; intro g' cap' w1' hown1 hgrow hat hlt1)
                have hB1 := (hB.alloc hB.size _).grown hgrow (by have := hB.size; simp; omega) (fun j hj => (o2.lt j hj).1)
                have o1' := (o1.alloc _).kept hgrow (own_ne o1 o2 (by decide))
                go_roundw
                case rel =>
                  have p1 : q + 1 ≤ z := hlt
                  have p2 : m + 8 ≤ n := by have := HM.out; have := HN8.out; omega
                  have p3 : Hid (m + 8 = 8 * (q + 1)) := Lib.hid (by have := HM.out; omega)
                  have p4 : (m : Int) + 8 = ((m + 8 : Nat) : Int) := by omega
                  rw [HYG.out] at hown1
                  have p5 : w1'.ownsRow w.heap.size 5 1 (.slice (some ⟨g', 0, none⟩) (q + 1) cap') (q + 1) ((List.range (q + 1)).map fun j => Value.int .u8 (gT j : Int)) := by
                    rw [List.range_succ, List.map_append]
                    exact hown1
                  first
                  | exact ⟨q + 1, m + 8, p1, p2, p3, congrArg (Value.int .i64) p4, o1', p5, hB1⟩
                  | exact ⟨q + 1, p1, m + 8, p2, p3, p4, o1', p5, hB1⟩
                case measure => simp only [intOf]; omega
          · obtain rfl : q = z := by omega
            have hmn : m = n := by have := HM.out; have := HN8.out; omega
            have hT := HT.out
            have hcv := conv_own gT o2 HG8.out t (hT.1.trans HZ.out) (fun i hi => by
              rw [← HG.out]
              simp only
              rw [byteOf_bit _ 8 _ (by omega)]
              congr 1
              omega)
            subst hmn
            clear hT
            go_wp2_with fail
            go_ret
            exact ⟨rfl, hB⟩
end Go.Proofs.Ytkopapiblihmmaa
