/- Package report: a block is read. No condition but that the reader stands. -/
import Derived.Test.YtolgdcchnmbmnaaRep3
import Derived.Test.YtolgdcchnmbmnaaPenZ
namespace Go.Proofs.Ytolgdcchnmbmnaa
open Go.RowKit BigFrame
attribute [local go_sem ↓] Go.wp_at_zero Go.wp_at_succ

theorem seven_set_ {w : World} {g : Nat} {t : TypeId} {y0 y1 y2 y3 y4 y5 y6 : Value} (h : Blk w g t #[y0, y1, y2, y3, y4, y5, y6]) (x0 x1 x2 x3 x4 x5 x6 : Value) (B : Nat) (hB : B ≤ g) :
    ∃ w2, ((((((w.setCell ⟨g, 0, none⟩ x0).setCell ⟨g, 1, none⟩ x1).setCell ⟨g, 2, none⟩ x2).setCell ⟨g, 3, none⟩ x3).setCell ⟨g, 4, none⟩ x4).setCell ⟨g, 5, none⟩ x5).setCell ⟨g, 6, none⟩ x6 = w2 ∧ Blk w2 g t #[x0, x1, x2, x3, x4, x5, x6] ∧ Below B w w2 ∧ (∀ k, k ≠ g → w2.heap[k]? = w.heap[k]?) := by
  have k0 := h.set_ 0 x0; simp at k0
  have k1 := k0.set_ 1 x1; simp at k1
  have k2 := k1.set_ 2 x2; simp at k2
  have k3 := k2.set_ 3 x3; simp at k3
  have k4 := k3.set_ 4 x4; simp at k4
  have k5 := k4.set_ 5 x5; simp at k5
  have k6 := k5.set_ 6 x6; simp at k6
  exact ⟨_, rfl, k6, (((((((Below.refl _ _).setCell hB _).setCell hB _).setCell hB _).setCell hB _).setCell hB _).setCell hB _).setCell hB _, fun k hk => by rw [Below.heap_setCell _ _ _ _ hk, Below.heap_setCell _ _ _ _ hk, Below.heap_setCell _ _ _ _ hk, Below.heap_setCell _ _ _ _ hk, Below.heap_setCell _ _ _ _ hk, Below.heap_setCell _ _ _ _ hk, Below.heap_setCell _ _ _ _ hk]⟩
theorem Blk.tail4_ {w : World} {g : Nat} {t : TypeId} {y0 y1 y2 y3 y4 y5 y6 : Value} (h : Blk w g t #[y0, y1, y2, y3, y4, y5, y6]) (x3 x4 x5 x6 : Value) (B : Nat) (hB : B ≤ g) :
    ∃ w2, (((w.setCell ⟨g, 3, none⟩ x3).setCell ⟨g, 4, none⟩ x4).setCell ⟨g, 5, none⟩ x5).setCell ⟨g, 6, none⟩ x6 = w2 ∧ Blk w2 g t #[y0, y1, y2, x3, x4, x5, x6] ∧ Below B w w2 ∧ (∀ k, k ≠ g → w2.heap[k]? = w.heap[k]?) := by
  have k3 := h.set_ 3 x3; simp at k3
  have k4 := k3.set_ 4 x4; simp at k4
  have k5 := k4.set_ 5 x5; simp at k5
  have k6 := k5.set_ 6 x6; simp at k6
  exact ⟨_, rfl, k6, ((((Below.refl _ _).setCell hB _).setCell hB _).setCell hB _).setCell hB _, fun k hk => by rw [Below.heap_setCell _ _ _ _ hk, Below.heap_setCell _ _ _ _ hk, Below.heap_setCell _ _ _ _ hk, Below.heap_setCell _ _ _ _ hk]⟩
theorem bytB_eq (s f l h j a d : Int) (r : List Int) : bytB ⟨s, f, l, h, j, a, d⟩ ++ r = beI s 4 ++ (beI (f % 4294967296) 1 ++ (beI (l % 4294967296) 3 ++ (beI h 4 ++ (beI j 4 ++ (beI a 4 ++ (beI d 4 ++ r)))))) := by
  unfold bytB encB be4All beAll
  simp [List.range_succ]
def zBkA : Array Value := #[.int .u32 0, .int .i64 0, .int .i64 0, .int .u32 0, .int .u32 0, .int .u32 0, .int .u32 0]
set_option maxRecDepth 8000 in
set_option maxHeartbeats 8000000 in
theorem rep_block (g : Nat) (s f l h j a d : Int) (r : List Int) (w : World) (I : InZ w g (bytB ⟨s, f, l, h, j, a, d⟩ ++ r)) (hok : BkR.Ok ⟨s, f, l, h, j, a, d⟩) (hm : BkR.may ⟨s, f, l, h, j, a, d⟩ = true) (hr : r.length ≤ 80000) :
    Calls Try.prog 28 #[.pointer (some ⟨g, 0, none⟩)] w fun e w' => e = .returned (.agg #[.int .u32 s, .int .i64 f, .int .i64 l, .int .u32 h, .int .u32 j, .int .u32 a, .int .u32 d]) ∧ InZ w' g r ∧ OldBut w w' g := by
  rw [bytB_eq] at I
  obtain ⟨⟨s0, s1⟩, ⟨h0, h1⟩, ⟨j0, j1⟩, ⟨a0, a1⟩, ⟨d0, d1⟩⟩ := hok
  have hm2 : 0 ≤ f ∧ f ≤ 255 ∧ -8388608 ≤ l ∧ l < 8388608 := by unfold BkR.may at hm; simpa using hm
  obtain ⟨f0, f1, l0, l1⟩ := hm2
  simp only at s0 s1 h0 h1 j0 j1 a0 a1 d0 d1
  rw [Int.emod_eq_of_lt f0 (by omega)] at I
  obtain ⟨lm, hlm⟩ : ∃ x, l % 4294967296 = x := ⟨_, rfl⟩
  rw [hlm] at I
  obtain ⟨q, hq⟩ : ∃ x, lm % 16777216 = x := ⟨_, rfl⟩
  have q0 : 0 ≤ q := by omega
  have q1 : q < 16777216 := by omega
  have hsg : signI q = l := by unfold signI; split <;> omega
  have HSG := Lib.hid (fun W => rep_signed q l q0 q1 hsg W)
  have R1 := Lib.hid (fun W (I : InZ W g _) => penZ_U32 g s (beI f 1 ++ (beI lm 3 ++ (beI h 4 ++ (beI j 4 ++ (beI a 4 ++ (beI d 4 ++ r)))))) W I s0 s1 (by simp [beI_len]; omega))
  have R2 := Lib.hid (fun W (I : InZ W g _) => penZ_U8 g f (beI lm 3 ++ (beI h 4 ++ (beI j 4 ++ (beI a 4 ++ (beI d 4 ++ r))))) W I f0 f1 (by simp [beI_len]; omega))
  have R3 := Lib.hid (fun W (I : InZ W g _) => penZ_U24 g lm (beI h 4 ++ (beI j 4 ++ (beI a 4 ++ (beI d 4 ++ r)))) W I (by omega) (by simp [beI_len]; omega))
  have R4 := Lib.hid (fun W (I : InZ W g _) => penZ_U32 g h (beI j 4 ++ (beI a 4 ++ (beI d 4 ++ r))) W I h0 h1 (by simp [beI_len]; omega))
  have R5 := Lib.hid (fun W (I : InZ W g _) => penZ_U32 g j (beI a 4 ++ (beI d 4 ++ r)) W I j0 j1 (by simp [beI_len]; omega))
  have R6 := Lib.hid (fun W (I : InZ W g _) => penZ_U32 g a (beI d 4 ++ r) W I a0 a1 (by simp [beI_len]; omega))
  have R7 := Lib.hid (fun W (I : InZ W g _) => penZ_U32 g d r W I d0 d1 (by omega))
  rw [hq] at R3
  clear hlm hq hm hsg
  have K0 := Blk.new w 49 zBkA
  have B0 : Below w.heap.size w (w.alloc (.cells zBkA 49)) := (Below.refl _ w).alloc (Nat.le_refl _) _
  have I0 := I.below B0
  have gl := I.lt
  have O0 : OldBut w (w.alloc (.cells zBkA 49)) g := .of_below B0
  unfold zBkA at K0 B0 I0 O0
  go_enter Try.func28, Try.ntmps28
  go_upto_region 1 with fail
  generalize w.alloc (.cells #[.int .u32 0, .int .i64 0, .int .i64 0, .int .u32 0, .int .u32 0, .int .u32 0, .int .u32 0] 49) = w1 at *
  have s1' := B0.size
  have hl1 := K0.lt
  clear B0 I
  go_wp2_with fail
  refine (R1.out w1 I0).mono ?_
  rintro e w2 ⟨rfl, I2, O2⟩
  go_wp2_with fail
  refine (R2.out w2 I2).mono ?_
  rintro e w3 ⟨rfl, I3, O3⟩
  go_wp2_with fail
  refine (R3.out w3 I3).mono ?_
  rintro e w4 ⟨rfl, I4, O4⟩
  go_wp2_with fail
  refine (HSG.out w4).mono ?_
  rintro e w4' ⟨rfl, rfl⟩
  have O14 := O2.trans (O3.trans O4)
  have K4 := O14.blk K0 (by omega)
  have O04 := O0.trans O14
  have s4 := O14.below.size
  have Ka := Blk.new w4 49 #[.int .u32 s, .int .i64 f, .int .i64 l, .int .u32 0, .int .u32 0, .int .u32 0, .int .u32 0]
  have Ba : Below w4.heap.size w4 (w4.alloc (.cells #[.int .u32 s, .int .i64 f, .int .i64 l, .int .u32 0, .int .u32 0, .int .u32 0, .int .u32 0] 49)) := (Below.refl _ w4).alloc (Nat.le_refl _) _
  have I5 := I4.below Ba
  have K5 := K4.below Ba K4.lt
  have O05 := O04.trans (OldBut.of_below (g := g) Ba)
  have n3g : w4.heap.size ≠ g := by have := I4.lt; omega
  have n3w : w4.heap.size ≠ w.heap.size := by omega
  have n3l : w.heap.size ≤ w4.heap.size := by omega
  clear I0 O0 I2 O2 I3 O3 O4 I4 O14 K4 O04 Ba K0
  go_upto_region 2 with fail
  obtain ⟨ga, hga⟩ : ∃ ga, w4.heap.size = ga := ⟨_, rfl⟩
  rw [hga] at Ka n3g n3w n3l ⊢
  generalize w4.alloc (.cells #[.int .u32 s, .int .i64 f, .int .i64 l, .int .u32 0, .int .u32 0, .int .u32 0, .int .u32 0] 49) = w5 at *
  clear hga
  go_wp2_with fail
  refine (R4.out w5 I5).mono ?_
  rintro e w10 ⟨rfl, I10, O10⟩
  go_wp2_with fail
  refine (R5.out w10 I10).mono ?_
  rintro e w11 ⟨rfl, I11, O11⟩
  go_wp2_with fail
  refine (R6.out w11 I11).mono ?_
  rintro e w12 ⟨rfl, I12, O12⟩
  go_wp2_with fail
  refine (R7.out w12 I12).mono ?_
  rintro e w14 ⟨rfl, I14, O14⟩
  have OA := O10.trans (O11.trans (O12.trans O14))
  have Kb := OA.blk Ka n3g
  have K14 := OA.blk K5 (by omega)
  have O014 := O05.trans OA
  clear I5 I10 O10 I11 O11 I12 O12 O14 OA Ka K5 O05
  have cb := Kb.cell
  have fb := Kb.frozen
  simp at cb
  obtain ⟨w15, e15, K15, B15, hk15⟩ := Kb.tail4_ (.int .u32 h) (.int .u32 j) (.int .u32 a) (.int .u32 d) 0 (Nat.zero_le _)
  have O015 := O014.new_ hk15 n3l B15
  have I15 := I14.at_ (hk15 g (Ne.symm n3g))
  have K15w : Blk w15 w.heap.size 49 _ := (hk15 _ (Ne.symm n3w)).trans K14
  clear I14 O014 K14 hk15 B15
  go_upto_region 3 with fail
  clear cb fb Kb
  generalize (((w14.setCell ⟨ga, 3, none⟩ (.int .u32 h)).setCell ⟨ga, 4, none⟩ (.int .u32 j)).setCell ⟨ga, 5, none⟩ (.int .u32 a)).setCell ⟨ga, 6, none⟩ (.int .u32 d) = w15' at *
  subst e15
  have cc := K15.cell
  simp at cc
  have cw := K15w.cell
  have fw := K15w.frozen
  simp at cw
  obtain ⟨w16, e16, K16, B16, hk16⟩ := seven_set_ K15w (.int .u32 s) (.int .i64 f) (.int .i64 l) (.int .u32 h) (.int .u32 j) (.int .u32 a) (.int .u32 d) w.heap.size (Nat.le_refl _)
  have c16 := K16.cell
  simp at c16
  have O016 := O015.new_ hk16 (Nat.le_refl _) (B16.mono (Nat.zero_le _))
  have I16 := I15.at_ (hk16 g (by omega))
  go_wp2_with fail
  refine bodyPost_ret (v := .agg #[.int .u32 s, .int .i64 f, .int .i64 l, .int .u32 h, .int .u32 j, .int .u32 a, .int .u32 d]) ?_ rfl ⟨rfl, I16, O016⟩
  simp [results, Try.results28, go_sem, c16]
theorem encS_eq (c t p b : Int) (r : List Int) : encS c t p b ++ r = beI (c / 4294967296) 4 ++ (beI (c % 4294967296) 4 ++ (beI t 4 ++ (beI p 4 ++ (beI b 4 ++ r)))) := by
  unfold encS be4All
  simp [List.range_succ]
theorem i64_or_hi (x y : Int) (x0 : 0 ≤ x) (x1 : x ≤ 256) (y0 : 0 ≤ y) (y1 : y < 4294967296) : bits .or .i64 (x * 4294967296) y = x * 4294967296 + y := by
  obtain ⟨a, rfl⟩ : ∃ a : Nat, (a : Int) = x := ⟨x.toNat, Int.toNat_of_nonneg x0⟩
  obtain ⟨b, rfl⟩ : ∃ b : Nat, (b : Int) = y := ⟨y.toNat, Int.toNat_of_nonneg y0⟩
  have key : (BitVec.ofInt 64 ((a : Int) * 4294967296) ||| BitVec.ofInt 64 (b : Int)).toNat = a * 4294967296 + b := by
    have e1 : BitVec.ofInt 64 ((a : Int) * 4294967296) = BitVec.ofNat 64 (a * 4294967296) := by
      rw [← BitVec.ofInt_natCast]; congr 1
    rw [e1, BitVec.ofInt_natCast, BitVec.toNat_or, BitVec.toNat_ofNat, BitVec.toNat_ofNat, Nat.mod_eq_of_lt (by omega), Nat.mod_eq_of_lt (by omega)]
    have := Nat.two_pow_add_eq_or_of_lt (i := 32) (b := b) (by omega) a
    rw [show a * 4294967296 = 2 ^ 32 * a by omega, ← this]
  show IntKind.i64.wrap ((BitVec.ofInt 64 ((a : Int) * 4294967296) ||| BitVec.ofInt 64 (b : Int)).toNat : Nat) = _
  rw [key, IntKind.wrap_i64]
  omega
set_option maxRecDepth 8000 in
set_option maxHeartbeats 8000000 in
theorem rep_sent (g : Nat) (c t p b : Int) (r : List Int) (w : World) (I : InZ w g (encS c t p b ++ r)) (hc : 0 ≤ c ∧ c ≤ 1099511627776) (ht : U32 t) (hp : U32 p) (hb : U32 b) (hr : r.length ≤ 80000) :
    Calls Try.prog 27 #[.pointer (some ⟨g, 0, none⟩)] w fun e w' => e = .returned (.agg #[.int .i64 c, .int .u32 t, .int .u32 p, .int .u32 b]) ∧ InZ w' g r ∧ OldBut w w' g := by
  rw [encS_eq] at I
  obtain ⟨t0, t1⟩ := ht
  obtain ⟨p0, p1⟩ := hp
  obtain ⟨b0, b1⟩ := hb
  obtain ⟨x, hx⟩ : ∃ x, c / 4294967296 = x := ⟨_, rfl⟩
  obtain ⟨y, hy⟩ : ∃ y, c % 4294967296 = y := ⟨_, rfl⟩
  rw [hx, hy] at I
  have x0 : 0 ≤ x := by omega
  have x1 : x ≤ 256 := by omega
  have y0 : 0 ≤ y := by omega
  have y1 : y < 4294967296 := by omega
  have R1 := Lib.hid (fun W (I : InZ W g _) => penZ_U32 g x (beI y 4 ++ (beI t 4 ++ (beI p 4 ++ (beI b 4 ++ r)))) W I x0 (by omega) (by simp [beI_len]; omega))
  have R2 := Lib.hid (fun W (I : InZ W g _) => penZ_U32 g y (beI t 4 ++ (beI p 4 ++ (beI b 4 ++ r))) W I y0 y1 (by simp [beI_len]; omega))
  have R3 := Lib.hid (fun W (I : InZ W g _) => penZ_U32 g t (beI p 4 ++ (beI b 4 ++ r)) W I t0 t1 (by simp [beI_len]; omega))
  have R4 := Lib.hid (fun W (I : InZ W g _) => penZ_U32 g p (beI b 4 ++ r) W I p0 p1 (by simp [beI_len]; omega))
  have R5 := Lib.hid (fun W (I : InZ W g _) => penZ_U32 g b r W I b0 b1 (by omega))
  have hcv : x * 4294967296 + y = c := by omega
  have HCV := Lib.hid hcv
  clear hx hy hcv
  have K0 := Blk.new w 29 #[.int .i64 0, .int .u32 0, .int .u32 0, .int .u32 0]
  have B0 : Below w.heap.size w (w.alloc (.cells #[.int .i64 0, .int .u32 0, .int .u32 0, .int .u32 0] 29)) := (Below.refl _ w).alloc (Nat.le_refl _) _
  have I0 := I.below B0
  have gl := I.lt
  have O0 : OldBut w (w.alloc (.cells #[.int .i64 0, .int .u32 0, .int .u32 0, .int .u32 0] 29)) g := .of_below B0
  go_enter Try.func27, Try.ntmps27
  go_upto_region 1 with fail
  generalize w.alloc (.cells #[.int .i64 0, .int .u32 0, .int .u32 0, .int .u32 0] 29) = w1 at *
  clear B0 I
  go_wp2_with fail
  refine (R1.out w1 I0).mono ?_
  rintro e w2 ⟨rfl, I2, O2⟩
  go_wp2_with fail
  refine (R2.out w2 I2).mono ?_
  rintro e w3 ⟨rfl, I3, O3⟩
  have hyp : bits .or .i64 (x * 4294967296) y = c := by rw [← HCV.out]; exact i64_or_hi x y x0 x1 y0 y1
  go_wp2_with fail
  refine (R3.out w3 I3).mono ?_
  rintro e w4 ⟨rfl, I4, O4⟩
  go_wp2_with fail
  refine (R4.out w4 I4).mono ?_
  rintro e w5 ⟨rfl, I5, O5⟩
  go_wp2_with fail
  refine (R5.out w5 I5).mono ?_
  rintro e w6 ⟨rfl, I6, O6⟩
  have OA := O2.trans (O3.trans (O4.trans (O5.trans O6)))
  have K6 := OA.blk K0 (by omega)
  have O06 := O0.trans OA
  clear I0 O0 I2 O2 I3 O3 I4 O4 I5 O5 O6 OA K0
  have c6 := K6.cell
  have f6 := K6.frozen
  simp at c6
  obtain ⟨w7, e7, K7, B7, hk7⟩ := four_set K6 rfl (.int .i64 c) (.int .u32 t) (.int .u32 p) (.int .u32 b) w.heap.size (Nat.le_refl _)
  have c7 := K7.cell
  simp at c7
  have O07 := O06.new_ hk7 (Nat.le_refl _) (B7.mono (Nat.zero_le _))
  have I7 := I6.at_ (hk7 g (by omega))
  go_wp2_with fail
  refine bodyPost_ret (v := .agg #[.int .i64 c, .int .u32 t, .int .u32 p, .int .u32 b]) ?_ rfl ⟨rfl, I7, O07⟩
  simp [results, Try.results27, go_sem, c7]
end Go.Proofs.Ytolgdcchnmbmnaa
