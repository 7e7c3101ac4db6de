/- From the first bit to the last one in which two texts are not alike: the program's way and the reference's, walked. No condition but the texts' lengths. -/
import Derived.Test.YtkopapiblihmmaaCrc2
import Derived.Deep.QuietTactic
import Derived.Deep.Draws
namespace Go.Proofs.Ytkopapiblihmmaa
open Go.RowKit

/-- The first and the last place of those below n at which d says yes; -1: none. -/
def fl : Nat → (Nat → Bool) → Int × Int
  | 0, _ => (-1, -1)
  | n + 1, d => if d n then (if (fl n d).1 < 0 then (n : Int) else (fl n d).1, (n : Int)) else fl n d
def byteD (x : Nat) (t : Nat) : Bool := x.testBit (7 - t)
theorem fl_succ (n : Nat) (d : Nat → Bool) : fl (n + 1) d = if d n then (if (fl n d).1 < 0 then (n : Int) else (fl n d).1, (n : Int)) else fl n d := rfl
theorem fl_bd (n : Nat) (d : Nat → Bool) : ((fl n d).1 = -1 ∧ (fl n d).2 = -1) ∨ (0 ≤ (fl n d).1 ∧ (fl n d).1 ≤ (fl n d).2 ∧ (fl n d).2 < n) := by
  induction n with
  | zero => exact .inl ⟨rfl, rfl⟩
  | succ n ih =>
    unfold fl
    split
    · right
      by_cases h : (fl n d).1 < 0
      · simp only [h, if_true]; omega
      · simp only [h, if_false]; omega
    · omega
theorem fl_congr (n : Nat) (d e : Nat → Bool) (h : ∀ i, i < n → d i = e i) : fl n d = fl n e := by
  induction n with
  | zero => rfl
  | succ n ih => unfold fl; rw [ih (fun i hi => h i (by omega)), h n (by omega)]
theorem fl_add (m n : Nat) (d : Nat → Bool) :
    fl (m + n) d = if (fl n (fun t => d (m + t))).2 < 0 then fl m d else (if (fl m d).1 < 0 then (m : Int) + (fl n (fun t => d (m + t))).1 else (fl m d).1, (m : Int) + (fl n (fun t => d (m + t))).2) := by
  induction n with
  | zero => rfl
  | succ n ih =>
    have b1 := fl_bd m d
    have b2 := fl_bd n (fun t => d (m + t))
    show fl (m + n + 1) d = _
    rw [fl_succ (m + n) d, fl_succ n (fun t => d (m + t)), ih]
    generalize fl n (fun t => d (m + t)) = y at *
    generalize fl m d = x at *
    obtain ⟨x1, x2⟩ := x
    obtain ⟨y1, y2⟩ := y
    simp only at *
    by_cases hd : d (m + n) = true
    · simp only [hd, if_true]
      rw [if_neg (show ¬ ((n : Int) < 0) by omega)]
      by_cases h2 : y2 < 0
      · simp only [h2, if_true]
        have hy : y1 < 0 := by omega
        by_cases h1 : x1 < 0
        · simp [h1, hy]
        · simp [h1]
      · simp only [h2, if_false]
        have hy : ¬ y1 < 0 := by omega
        have hy2 : ¬ ((m : Int) + y1 < 0) := by omega
        by_cases h1 : x1 < 0
        · simp [h1, hy, hy2]
        · simp [h1]
    · simp [hd]
theorem below_drewN {B : Nat} {a w : World} (h : Below B a w) (n : Nat) : Below B a (w.drewN n) := ⟨h.os, h.tape, h.output, h.size, h.block⟩
def spanI (n : Nat) (d : Nat → Bool) : Int := if (fl n d).1 < 0 then 0 else (fl n d).2 - (fl n d).1 + 1
def bitA (s : ByteArray) (i : Nat) : Bool := (s.data.toList.getD (i / 8) 0).toNat.testBit (7 - i % 8)
def diffD (a b : ByteArray) (i : Nat) : Bool := bitA a i ^^ bitA b i
def burstI (a b : ByteArray) : Int := if a.size = b.size then spanI (8 * a.size) (diffD a b) else -1
theorem bitsN_get (b i : Nat) (h : i < 8) : (bitsN b).getD i false = b.testBit (7 - i) := by
  match i, h with
  | 0, _ => rfl
  | 1, _ => rfl
  | 2, _ => rfl
  | 3, _ => rfl
  | 4, _ => rfl
  | 5, _ => rfl
  | 6, _ => rfl
  | 7, _ => rfl
theorem bitsL_getD (l : List UInt8) (i : Nat) (h : i < 8 * l.length) : (bitsL l).getD i false = (l.getD (i / 8) 0).toNat.testBit (7 - i % 8) := by
  induction l generalizing i with
  | nil => simp at h
  | cons c l ih =>
    rw [bitsL_cons]
    have hlen : (bitsN c.toNat).length = 8 := rfl
    by_cases h8 : i < 8
    · have h0 : i / 8 = 0 := by omega
      have h1 : i % 8 = i := by omega
      rw [h0, h1, List.getD_eq_getElem?_getD, List.getElem?_append_left (by rw [hlen]; exact h8), ← List.getD_eq_getElem?_getD, bitsN_get _ _ h8]
      rfl
    · have h0 : i / 8 = (i - 8) / 8 + 1 := by omega
      have h1 : i % 8 = (i - 8) % 8 := by omega
      rw [h0, h1, List.getD_eq_getElem?_getD, List.getElem?_append_right (by rw [hlen]; omega), hlen, ← List.getD_eq_getElem?_getD, ih (i - 8) (by simp at h; omega)]
      rfl
theorem bitsL_bitA (s : ByteArray) (i : Nat) (h : i < 8 * s.size) : (bitsL s.data.toList).getD i false = bitA s i := bitsL_getD _ _ (by simpa using h)
theorem byteD_diff (a b : ByteArray) (k t : Nat) (ha : k < a.size) (hb : k < b.size) (ht : t < 8) : diffD a b (8 * k + t) = byteD (a[k].toNat ^^^ b[k].toNat) t := by
  have h1 : (8 * k + t) / 8 = k := by omega
  have h2 : (8 * k + t) % 8 = t := by omega
  unfold diffD bitA byteD
  rw [h1, h2, Nat.testBit_xor]
  have e : ∀ (s : ByteArray) (hs : k < s.size), s.data.toList.getD k 0 = s[k] := fun s hs => by
    rw [List.getD_eq_getElem?_getD, List.getElem?_eq_getElem (by simpa using hs)]; rfl
  rw [e a ha, e b hb]

set_option maxRecDepth 1000000 in
set_option maxHeartbeats 4000000 in
theorem bits_Len8 (x : Nat) (hx : x < 256) (h0 : x ≠ 0) (n : Int) (h : 8 - (fl 8 (byteD x)).1 = n) (w : World) :
    Calls Try.prog 28 #[.int .u8 (x : Int)] w fun e w' => e = .returned (.int .i64 n) ∧ w = w' := by
  have HN := Lib.hid h
  have H0 := Lib.hid h0
  clear h h0
  go_enter Try.func28, Try.ntmps28
  go_wp2
  go_ret
  refine ⟨ret_int ?_, rfl⟩
  rw [byte_wrap, ← HN.out, ByteArray.getElem_eq_getElem_data, Array.getElem_eq_getD 0]
  have h0 := H0.out
  clear H0 HN
  obtain ⟨i, rfl⟩ : ∃ i : Fin 256, i.1 = x := ⟨⟨x, hx⟩, rfl⟩
  clear hx
  rename_i hh
  clear hh
  revert i
  decide +kernel
set_option maxHeartbeats 400000 in
theorem bits_Lz8 (x : Nat) (hx : x < 256) (h0 : x ≠ 0) (n : Int) (h : (fl 8 (byteD x)).1 = n) (w : World) :
    Calls Try.prog 23 #[.int .u8 (x : Int)] w fun e w' => e = .returned (.int .i64 n) ∧ w = w' := by
  have hb := fl_bd 8 (byteD x)
  have b1 : -1 ≤ n := by omega
  have b2 : n ≤ 8 := by omega
  have H := Lib.hid (fun W => bits_Len8 x hx h0 (8 - n) (by rw [h]) W)
  clear h h0 hb
  go_enter Try.func23, Try.ntmps23
  go_wp2_with fail
  refine (H.out _).mono ?_
  rintro e w' ⟨rfl, rfl⟩
  go_wp2
  go_ret
  exact ⟨ret_int (by omega), rfl⟩
set_option maxRecDepth 1000000 in
set_option maxHeartbeats 4000000 in
theorem bits_Tz8 (x : Nat) (hx : x < 256) (h0 : x ≠ 0) (n : Int) (h : 7 - (fl 8 (byteD x)).2 = n) (w : World) :
    Calls Try.prog 24 #[.int .u8 (x : Int)] w fun e w' => e = .returned (.int .i64 n) ∧ w = w' := by
  have HN := Lib.hid h
  have H0 := Lib.hid h0
  clear h h0
  go_enter Try.func24, Try.ntmps24
  go_wp2
  go_ret
  refine ⟨ret_int ?_, rfl⟩
  rw [byte_wrap, ← HN.out, ByteArray.getElem_eq_getElem_data, Array.getElem_eq_getD 0]
  have h0 := H0.out
  clear H0 HN
  obtain ⟨i, rfl⟩ : ∃ i : Fin 256, i.1 = x := ⟨⟨x, hx⟩, rfl⟩
  clear hx
  rename_i hh
  clear hh
  revert i
  decide +kernel
theorem fl_byte (x : Nat) (hx : x < 256) : (x = 0 → (fl 8 (byteD x)).2 < 0) ∧ (x ≠ 0 → 0 ≤ (fl 8 (byteD x)).1 ∧ 0 ≤ (fl 8 (byteD x)).2 ∧ (fl 8 (byteD x)).2 ≤ 7 ∧ (fl 8 (byteD x)).1 ≤ 7) := by
  obtain ⟨i, rfl⟩ : ∃ i : Fin 256, i.1 = x := ⟨⟨x, hx⟩, rfl⟩
  clear hx
  revert i
  decide +kernel

set_option maxHeartbeats 4000000 in
theorem crc_Burst (a b : ByteArray) (ha : a.size ≤ 100000) (hb : b.size ≤ 100000) (r : Int) (h : burstI a b = r) (w : World) :
    Calls Try.prog 15 #[.string a, .string b] w fun e w' => e = .returned (.int .i64 r) ∧ Below w.heap.size w w' := by
  unfold burstI at h
  by_cases hs : a.size = b.size
  · rw [if_pos hs] at h
    have HR := Lib.hid h
    have HS := Lib.hid hs
    clear h hs
    obtain ⟨n, hn⟩ : ∃ n, a.size = n := ⟨_, rfl⟩
    have hn2 : b.size = n := by rw [← HS.out]; exact hn
    go_enter Try.func15, Try.ntmps15
    go_wp2_with fail
    go_loopw [5, 6, 16] (fun f l i wr => ∃ (k : Nat) (x y : Int), k ≤ n ∧ i = .int .i64 k ∧ f = .int .i64 x ∧ l = .int .i64 y ∧ Hid (fl (8 * k) (diffD a b) = (x, y)) ∧ Below w.heap.size w wr) (fun _ _ i _ => n - (intOf i).toNat)
    case atStart => exact ⟨0, -1, -1, by omega, rfl, rfl, rfl, Lib.hid rfl, Below.refl _ _⟩
    case round =>
      obtain ⟨k, x, y, hk, rfl, rfl, rfl, HF, hB⟩ := hrel
      have hbd := fl_bd (8 * k) (diffD a b)
      rw [HF.out] at hbd
      simp only at hbd
      by_cases hlt : k < n
      · have ka : k < a.size := by omega
        have kb : k < b.size := by omega
        obtain ⟨c, hc⟩ : ∃ c, a[k].toNat ^^^ b[k].toNat = c := ⟨_, rfl⟩
        have hc1 : c < 256 := by rw [← hc]; exact Nat.xor_lt_two_pow (n := 8) a[k].toNat_lt b[k].toNat_lt
        have hcx : bits .xor .u8 (a[k].toNat : Int) (b[k].toNat : Int) = (c : Int) := by rw [u8_xor_nat _ _ a[k].toNat_lt b[k].toNat_lt, hc]
        have hfl := fl_add (8 * k) 8 (diffD a b)
        rw [fl_congr 8 _ (byteD c) (fun t ht => by rw [byteD_diff a b k t ka kb ht, hc]), HF.out] at hfl
        simp only at hfl
        have hfb := fl_byte c hc1
        have HFL := Lib.hid hfl
        have i1 : (0 : Int) ≤ (k : Int) := by omega
        have i2 : (k : Int) < (n : Int) := by omega
        clear hfl hc
        by_cases h0 : c = 0
        · subst h0
          have hneg := hfb.1 rfl
          clear hfb
          have HNEG := Lib.hid hneg
          clear hneg hbd
          go_wp2_with fail
          go_quiet (fail)
          go_wp2_with fail
          go_roundw
          case rel => exact ⟨k + 1, x, y, by omega, by go_num, rfl, rfl, Lib.hid (by show fl (8 * k + 8) _ = _; rw [HFL.out, if_pos HNEG.out]), below_drewN hB _⟩
          case measure => simp only [intOf]; omega
        · obtain ⟨p1, p2, p3, p4⟩ := hfb.2 h0
          clear hfb
          obtain ⟨f, hf⟩ : ∃ f, (fl 8 (byteD c)).1 = f := ⟨_, rfl⟩
          obtain ⟨l, hl⟩ : ∃ l, (fl 8 (byteD c)).2 = l := ⟨_, rfl⟩
          have hlz := Lib.hid (fun W => bits_Lz8 c hc1 h0 f hf W)
          have htz := Lib.hid (fun W => bits_Tz8 c hc1 h0 (7 - l) (by rw [hl]) W)
          rw [hf] at p1 p4
          rw [hl] at p2 p3
          have HF8 := Lib.hid hf
          have HL8 := Lib.hid hl
          clear hf hl
          have c0 : ((c : Int) == 0) = false := by rw [beq_eq_false_iff_ne]; omega
          by_cases hx : x < 0
          · have hfin : fl (8 * (k + 1)) (diffD a b) = ((k : Int) * 8 + f, (k : Int) * 8 + l) := by
              show fl (8 * k + 8) _ = _
              rw [HFL.out, HL8.out, HF8.out, if_neg (by omega), if_pos hx]
              simp only [Prod.mk.injEq, true_and]; omega
            have HFIN := Lib.hid hfin
            clear hfin
            go_wp2_with fail
            go_quiet (fail)
            go_wp2_with fail
            refine (hlz.out _).mono ?_
            rintro e w2 ⟨rfl, rfl⟩
            go_wp2_with fail
            refine (htz.out _).mono ?_
            rintro e w3 ⟨rfl, rfl⟩
            go_wp2_with fail
            go_roundw
            case rel => exact ⟨k + 1, _, (k : Int) * 8 + l, by omega, by go_num, rfl, by congr 1; omega, HFIN, below_drewN hB _⟩
            case measure => simp only [intOf]; omega
          · have hfin : fl (8 * (k + 1)) (diffD a b) = (x, (k : Int) * 8 + l) := by
              show fl (8 * k + 8) _ = _
              rw [HFL.out, HL8.out, if_neg (by omega), if_neg hx]
              simp only [Prod.mk.injEq, true_and]; omega
            have HFIN := Lib.hid hfin
            clear hfin
            go_wp2_with fail
            go_quiet (fail)
            go_wp2_with fail
            refine (htz.out _).mono ?_
            rintro e w3 ⟨rfl, rfl⟩
            go_wp2_with fail
            go_roundw
            case rel => exact ⟨k + 1, _, (k : Int) * 8 + l, by omega, by go_num, rfl, by congr 1; omega, HFIN, below_drewN hB _⟩
            case measure => simp only [intOf]; omega
      · obtain rfl : k = n := by omega
        have hr := HR.out
        unfold spanI at hr
        rw [hn, HF.out] at hr
        simp only at hr
        have HR2 := Lib.hid hr
        clear hr HR
        by_cases hx : x < 0
        · go_wp2_with fail
          go_ret
          exact ⟨ret_int (by have := HR2.out; rw [if_pos (by omega)] at this; exact this), hB⟩
        · go_wp2_with fail
          go_ret
          exact ⟨ret_int (by have := HR2.out; rw [if_neg (by omega)] at this; exact this), hB⟩
  · rw [if_neg hs] at h
    subst h
    have hs2 : ((a.size : Int) != (b.size : Int)) = true := by rw [bne_iff_ne]; omega
    go_enter Try.func15, Try.ntmps15
    go_wp2_with fail
    go_ret
    exact ⟨rfl, Below.refl _ _⟩

set_option maxHeartbeats 4000000 in
theorem ref02_Burst (a b : ByteArray) (ha : a.size ≤ 100000) (hb : b.size ≤ 100000) (r : Int) (h : burstI a b = r) (w : World) :
    Calls Try.prog 16 #[.string a, .string b] w fun e w' => e = .returned (.int .i64 r) ∧ Below w.heap.size w w' := by
  unfold burstI at h
  by_cases hs : a.size = b.size
  · rw [if_pos hs] at h
    have HR := Lib.hid h
    obtain ⟨n, hn⟩ : ∃ n, 8 * a.size = n := ⟨_, rfl⟩
    have hn2 : 8 * b.size = n := by omega
    have hne : ((a.size : Int) != (b.size : Int)) = false := by rw [bne_eq_false_iff_eq]; omega
    have hn3 : n ≤ 1000000 := by omega
    have HN := Lib.hid hn
    have HN2 := Lib.hid hn2
    have HA := Lib.hid ha
    have HB := Lib.hid hb
    clear h hs hn hn2 ha hb
    go_enter Try.func16, Try.ntmps16
    go_wp2_with fail
    refine (ref02_Bits a _ HA.out).mono ?_
    rintro e w1 ⟨v1, rfl, own1, B1⟩
    rw [HN.out] at own1
    go_wp2_with fail
    refine (ref02_Bits b _ HB.out).mono ?_
    rintro e w2 ⟨v2, rfl, own2, B2⟩
    rw [HN2.out] at own2
    obtain ⟨a1, c1, rfl, S1⟩ := SliceOf.of_own own1 (fun i => .int .i64 (if bitA a i then 1 else 0)) (fun i hi => by
      rw [bitCells_get _ _ (by rw [bitsL_len]; have := HN.out; simp; omega), bitsL_bitA a i (by have := HN.out; omega)])
    obtain ⟨a2, c2, rfl, S2⟩ := SliceOf.of_own own2 (fun i => .int .i64 (if bitA b i then 1 else 0)) (fun i hi => by
      rw [bitCells_get _ _ (by rw [bitsL_len]; have := HN2.out; simp; omega), bitsL_bitA b i (by have := HN2.out; omega)])
    have S1' := S1.below B2
    have BB : Below w.heap.size w w2 := B1.trans (B2.mono B1.size)
    have H1 := Lib.hid S1'
    have H2 := Lib.hid S2
    clear own1 own2 B1 B2 S1 S2 S1' hne
    go_wp2_with fail
    go_loopw [7, 8, 21] (fun f l i wr => ∃ (k : Nat) (x y : Int), k ≤ n ∧ i = .int .i64 k ∧ f = .int .i64 x ∧ l = .int .i64 y ∧ Hid (fl k (diffD a b) = (x, y)) ∧ Below w2.heap.size w2 wr) (fun _ _ i _ => n - (intOf i).toNat)
    case atStart => exact ⟨0, -1, -1, by omega, rfl, rfl, rfl, Lib.hid rfl, Below.refl _ _⟩
    case round =>
      obtain ⟨k, x, y, hk, rfl, rfl, rfl, HF, hB⟩ := hrel
      have hbd := fl_bd k (diffD a b)
      rw [HF.out] at hbd
      simp only at hbd
      by_cases hlt : k < n
      · obtain ⟨b1, o1, rfl, hb1, hc1⟩ := H1.out.at1 (by omega)
        obtain ⟨b2, o2, rfl, hb2, hc2⟩ := H2.out.at1 (by omega)
        have d1 := fun q => ((below_drewN hB q).cell (p := ⟨b1, o1 + k, none⟩) hb1).trans (hc1 k hlt)
        have d2 := fun q => ((below_drewN hB q).cell (p := ⟨b2, o2 + k, none⟩) hb2).trans (hc2 k hlt)
        clear hc1 hc2
        have hfs := fl_succ k (diffD a b)
        rw [HF.out] at hfs
        simp only at hfs
        unfold diffD at hfs
        generalize bitA a k = u at *
        generalize bitA b k = v at *
        have i1 : (0 : Int) ≤ (k : Int) := by omega
        have i2 : (k : Int) < (n : Int) := by omega
        have HFS := Lib.hid hfs
        clear hfs
        by_cases huv : u = v
        · subst huv
          have hq : ((if u then (1 : Int) else 0) != (if u then (1 : Int) else 0)) = false := by simp
          generalize (if u then (1 : Int) else 0) = z at *
          go_wp2_with fail
          go_quiet (fail)
          go_wp2_with fail
          go_roundw
          case rel => exact ⟨k + 1, x, y, by omega, by go_num, rfl, rfl, Lib.hid (by have := HFS.out; simp at this; exact this), below_drewN hB _⟩
          case measure => simp only [intOf]; omega
        · have hq : ((if u then (1 : Int) else 0) != (if v then (1 : Int) else 0)) = true := by
            cases u <;> cases v <;> simp at huv ⊢
          have hxor : (u ^^ v) = true := by cases u <;> cases v <;> simp at huv ⊢
          have HX := Lib.hid hxor
          clear hxor huv
          generalize (if u then (1 : Int) else 0) = z1 at *
          generalize (if v then (1 : Int) else 0) = z2 at *
          by_cases hx : x < 0
          · go_wp2_with fail
            go_quiet (fail)
            go_wp2_with fail
            go_roundw
            case rel => exact ⟨k + 1, k, k, by omega, by go_num, rfl, rfl, Lib.hid (by have := HFS.out; rw [HX.out, if_pos rfl, if_pos (by omega)] at this; exact this), below_drewN hB _⟩
            case measure => simp only [intOf]; omega
          · go_wp2_with fail
            go_quiet (fail)
            go_wp2_with fail
            go_roundw
            case rel => exact ⟨k + 1, x, k, by omega, by go_num, rfl, rfl, Lib.hid (by have := HFS.out; rw [HX.out, if_pos rfl, if_neg (by omega)] at this; exact this), below_drewN hB _⟩
            case measure => simp only [intOf]; omega
      · obtain rfl : k = n := by omega
        have hr := HR.out
        unfold spanI at hr
        rw [HN.out, HF.out] at hr
        simp only at hr
        have HR2 := Lib.hid hr
        clear hr HR
        by_cases hx : x < 0
        · go_wp2_with fail
          go_ret
          exact ⟨ret_int (by have := HR2.out; rw [if_pos (by omega)] at this; exact this), BB.trans (hB.mono BB.size)⟩
        · go_wp2_with fail
          go_ret
          exact ⟨ret_int (by have := HR2.out; rw [if_neg (by omega)] at this; exact this), BB.trans (hB.mono BB.size)⟩
  · rw [if_neg hs] at h
    subst h
    have hs2 : ((a.size : Int) != (b.size : Int)) = true := by rw [bne_iff_ne]; omega
    go_enter Try.func16, Try.ntmps16
    go_wp2_with fail
    go_ret
    exact ⟨rfl, Below.refl _ _⟩
end Go.Proofs.Ytkopapiblihmmaa
