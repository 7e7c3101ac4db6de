/- NackBack, walked. No condition. -/
import Derived.Test.YtmmoejnjajmnpaaNackReads
namespace Go.Proofs.Ytmmoejnjajmnpaa
open Go.RowKit BigFrame
attribute [local go_sem ↓] Go.wp_at_zero Go.wp_at_succ
theorem pcc_eql (x0 y0 : Int) (x1 y1 : Int) (x2 y2 : ByteArray) (w : World) : (binOp .eql 48 (.agg #[.int .i64 x0, .int .i64 x1, .string x2]) (.agg #[.int .i64 y0, .int .i64 y1, .string y2])).run Try.prog w = .ok (.bool ((x0 == y0) && (x1 == y1) && (x2.toList == y2.toList))) w := by
  have hS : Try.prog.underlying 48 = some (.struct (Try.prog.fieldsOf 48)) := by kernel_rfl
  have hp : Try.prog.stoodInHeld 48 = false := by kernel_rfl
  have u3 := Try.underlying3
  have a3 := Try.isAgg3
  have z3 := Try.sizeOf3
  have u9 := Try.underlying9
  have a9 := Try.isAgg9
  have z9 := Try.sizeOf9
  rw [run_eql_struct, show (10000 : Nat) = 9999 + 1 from rfl, run_equalIn_agg w 9999 48 _ _ hS hp]
  simp only [Program.fieldsOf, Try.underlying48]
  go_simp
  by_cases h0 : x0 = y0
  rotate_left
  · simp [h0]
  subst h0
  by_cases h1 : x1 = y1
  rotate_left
  · simp [h1]
  subst h1
  cases h2 : (x2.toList == y2.toList)
  · (try simp [h2]); try simpa using h2
  (try simp [h2])
  try simpa using h2
theorem pcc_neq (x0 y0 : Int) (x1 y1 : Int) (x2 y2 : ByteArray) (w : World) : (binOp .neq 48 (.agg #[.int .i64 x0, .int .i64 x1, .string x2]) (.agg #[.int .i64 y0, .int .i64 y1, .string y2])).run Try.prog w = .ok (.bool (!((x0 == y0) && (x1 == y1) && (x2.toList == y2.toList)))) w := by
  have hS : Try.prog.underlying 48 = some (.struct (Try.prog.fieldsOf 48)) := by kernel_rfl
  have hp : Try.prog.stoodInHeld 48 = false := by kernel_rfl
  have u3 := Try.underlying3
  have a3 := Try.isAgg3
  have z3 := Try.sizeOf3
  have u9 := Try.underlying9
  have a9 := Try.isAgg9
  have z9 := Try.sizeOf9
  rw [run_neq_struct, show (10000 : Nat) = 9999 + 1 from rfl, run_equalIn_agg w 9999 48 _ _ hS hp]
  simp only [Program.fieldsOf, Try.underlying48]
  go_simp
  by_cases h0 : x0 = y0
  rotate_left
  · simp [h0]
  subst h0
  by_cases h1 : x1 = y1
  rotate_left
  · simp [h1]
  subst h1
  cases h2 : (x2.toList == y2.toList)
  · (try simp [h2]); try simpa using h2
  (try simp [h2])
  try simpa using h2
theorem pcc_guard (op : BinOp) (x y : Operand) (xs ys : Array Value) (w : World) : (eqGuard op 48 x y (.agg xs) (.agg ys)).run Try.prog w = .ok () w := run_eqGuard_agg w op 48 x y xs ys (by kernel_rfl)

attribute [local go_sem] pc7_eql pc7_neq pc7_guard pcc_eql pcc_neq pcc_guard

/-- What the calls of two regions yield. -/
def FBk (B m i1 i2 : Nat) (ps : List (Int × Nat)) (i : Nat) (v : Value) (W : World) : Prop := (i = i1 ∨ i = i2) → W.ownsRow B 40 2 v m (rowQ ps)
theorem FBk_lasts (B m i1 i2 : Nat) (ps : List (Int × Nat)) : Lasts (FBk B m i1 i2 ps) := fun i v W W' h hb hi => own_lasts (h hi) hb
structure GBk (m : Nat) (pv : Value) (q : Nat) (v : Value) : Prop where
  a9 : q = 9 → ∃ a c, v = .slice a m c
  a10 : q = 10 → v = pv
structure GBl (m : Nat) (q : Nat) (v : Value) : Prop where
  a19 : q = 19 → ∃ a c, v = .slice a m c
  a22 : q = 22 → ∃ a c, v = .slice a m c
  a23 : q = 23 → v = .bool true
theorem wf_u32 {x : Int} (h : (Lit.int .u32 x).wf = true) : 0 ≤ x ∧ x < 4294967296 := by
  simp [Lit.wf, IntKind.min, IntKind.max, IntKind.signed, IntKind.bits] at h
  omega
set_option maxRecDepth 8000 in
set_option maxHeartbeats 8000000 in
theorem NackBack_walk (a0x0 : Int) (a0x1 : Int) (a0x2a : Option Addr) (a0x2l a0x2c : Nat) (a0x2e0 : Nat → Int) (a0x2e1 : Nat → Int) (w : World) (a0x0w0 : (Lit.int .u32 a0x0).wf = true) (a0x1w0 : (Lit.int .u32 a0x1).wf = true) (a0x2S : SliceOf w a0x2a a0x2l a0x2c 2 (fun j => [.int .u16 (a0x2e0 j), .int .u16 (a0x2e1 j)])) (a0x2F0 : ∀ j, j < a0x2l → (Lit.int .u16 (a0x2e0 j)).wf = true) (a0x2F1 : ∀ j, j < a0x2l → (Lit.int .u16 (a0x2e1 j)).wf = true) :
    Calls Try.prog 6 #[.agg #[.int .u32 a0x0, .int .u32 a0x1, .slice a0x2a a0x2l a0x2c]] w fun e w' => e = .returned (.bool true) ∧ Below w.heap.size w w' := by
  obtain ⟨ip, hp0, hp1, hp2, hp3⟩ := info_pair
  have hsz := a0x2S.size_le
  have hcap := a0x2S.1
  have hcm := a0x2S.2.1
  rw [maxLen_eq] at hcm
  obtain ⟨n, hn⟩ : ∃ n : Nat, min a0x2l 302 = n := ⟨_, rfl⟩
  have hm1 : (if 302 < (a0x2l : Int) then 302 else (a0x2l : Int)) = (n : Int) := by rw [← hn]; split <;> omega
  have hm2 : min (a0x2l : Int) 302 = (n : Int) := by omega
  have n302 : n ≤ 302 := by omega
  have nl : n ≤ a0x2l := by omega
  have nc : (n : Int) ≤ (a0x2c : Int) := by omega
  obtain ⟨ps, P, hok⟩ := PairsAt.of_args a0x2S a0x2F0 a0x2F1 n nl
  have HOK := Lib.hid hok
  have HPL := Lib.hid P.1
  have hfb := wf_u32 a0x0w0
  have hab := wf_u32 a0x1w0
  obtain ⟨fr, hfr⟩ : ∃ f, a0x0 = f := ⟨_, rfl⟩
  obtain ⟨ab, haq⟩ : ∃ f, a0x1 = f := ⟨_, rfl⟩
  rw [hfr] at hfb ⊢
  rw [haq] at hab ⊢
  -- the piece, of both
  have HPC : ∃ (cnt kd : Int) (S : ByteArray) (yes : Bool), (∀ W av cv, PairsAt W av n cv ps → Calls Try.prog 20 #[.agg #[.int .u32 fr, .int .u32 ab, .slice av n cv]] W fun e w' => e = .returned (.agg #[.int .i64 cnt, .int .i64 kd, .string S]) ∧ Below W.heap.size W w') ∧
      (∀ W av cv, RefAt W av n cv ps → Calls Try.prog 21 #[.int .i64 fr, .int .i64 ab, .slice av n cv] W fun e w' => e = .returned (.agg #[.int .i64 cnt, .int .i64 kd, .string S]) ∧ Below W.heap.size W w') ∧
      (yes = true → cnt = 1 ∧ kd = 205 ∧ S = strOfNums (bodyL fr ab ps) ∧ 0 < n ∧ n ≤ 300) ∧ (yes = false → cnt = 0 ∧ kd = 0 ∧ S = ⟨#[]⟩ ∧ (n = 0 ∨ 300 < n)) := by
    by_cases h : 0 < n ∧ n ≤ 300
    · exact ⟨1, 205, _, true, fun W av cv P => nack_PieceYes fr ab av n cv ps W P hok h hfb hab, fun W av cv P => ref10_PieceYes fr ab av n cv ps W P hok h hfb hab, fun _ => ⟨rfl, rfl, rfl, h.1, h.2⟩, (fun e => by cases e)⟩
    · exact ⟨0, 0, _, false, fun W av cv _ => nack_PieceNo fr ab av n cv W (by omega), fun W av cv _ => ref10_PieceNo fr ab av n cv W (by omega), (fun e => by cases e), fun _ => ⟨rfl, rfl, rfl, by omega⟩⟩
  obtain ⟨cnt, kd, S, yes, HA0, HB0, hyes, hno⟩ := HPC
  have HA := Lib.hid HA0
  have HB := Lib.hid HB0
  have HYES := Lib.hid hyes
  have HNO := Lib.hid hno
  have HTO := Lib.hid (fun W a c (P : PairsAt W a n c ps) => law10_told a n c ps W P (by omega) HOK.out)
  have HSM := Lib.hid (fun W av bv ca cb (A : RefAt W av n ca ps) (B : RefAt W bv n cb ps) => law10_same av bv n ca cb ps W A B (by omega))
  obtain ⟨f0, f1⟩ := hfb
  obtain ⟨b0, b1⟩ := hab
  have wf : IntKind.i64.wrap fr = fr := IntWalk.i64_in _ (by omega)
  have wa : IntKind.i64.wrap ab = ab := IntWalk.i64_in _ (by omega)
  clear hn hok a0x2S a0x2F0 a0x2F1 a0x0w0 a0x1w0 hfr haq HA0 HB0 hyes hno
  have K0 := Blk.new w 36 #[.int .u32 fr, .int .u32 ab, .slice a0x2a a0x2l a0x2c]
  have B0 : Below w.heap.size w (w.alloc (.cells #[.int .u32 fr, .int .u32 ab, .slice a0x2a a0x2l a0x2c] 36)) := (Below.refl _ w).alloc (Nat.le_refl _) _
  go_enter Try.func6, Try.ntmps6
  go_upto_region 1 with fail
  generalize w.alloc (.cells #[.int .u32 fr, .int .u32 ab, .slice a0x2a a0x2l a0x2c] 36) = w0 at *
  go_wp2_with fail
  refine (law10_awake _).mono ?_
  rintro e' w1 ⟨rfl, B1⟩
  have K1 := K0.below B1 K0.lt
  have B01 := below_then B0 B1 (Nat.le_refl _)
  have P1 := P.below B01
  have k1 := K1.cell
  have f1' := K1.frozen
  simp at k1
  have hl1 := K1.lt
  have ownl := own_lit w1 30 2
  have Bl : Below w1.heap.size w1 (w1.alloc (.cells #[] 30)) := (Below.refl _ w1).alloc (Nat.le_refl _) _
  have P1l := P1.below Bl
  have hnews := P1l.news
  have hlen : (rowP ps).length = n * 2 := by rw [rowP_len, HPL.out]
  have hone := rowP_one ps
  go_upto_region 4 with (at_builtin; refine wpList_append_sl rfl _ _ 26 rfl w1.heap.size 30 ip (.agg #[.int .u16 0, .int .u16 0]) 2 4 Try.underlying26 hp0 hp1 hp2 hp3 rfl (by decide) _ _ _ rfl ownl a0x2a n a0x2c (rowP ps) rfl hlen hnews hone (by rw [maxLen_eq]; omega) (by omega) (by simp) ?_; intro v2 w2 own2 hgrow2 hat2 hsh2; obtain ⟨a2, c2, rfl⟩ := hsh2; have hg2 := (show (w1.alloc (.cells #[] 30)).grownBy w2 (some w1.heap.size) from hgrow2); have B2 : Below w1.heap.size w1 w2 := (((Below.refl _ w1).alloc (Nat.le_refl _) _).grown hg2 (by simp) (fun j hj => by injection hj with hj; omega)); have K2 := K1.below B2 K1.lt; have k2 := K2.cell; have f2 := K2.frozen; simp at k2; simp only [Nat.zero_add, List.nil_append] at own2)
  have hr2 := fun j (hj : (Value.slice a2 n c2).ownBlock = some j) => (own2.lt j hj).1
  have K3 := K2.set_ 2 (.slice a2 n c2)
  simp at K3
  have own3 := own_at2 own2 (w' := w2.setCell ⟨w.heap.size, 2, none⟩ (.slice a2 n c2)) (fun j hj => Below.heap_setCell _ ⟨w.heap.size, 2, none⟩ _ j (by have := hr2 j hj; simp; omega))
  have B03 : Below w.heap.size w (w2.setCell ⟨w.heap.size, 2, none⟩ (.slice a2 n c2)) := (below_then B01 B2 (Nat.le_refl _)).setCell (p := ⟨w.heap.size, 2, none⟩) (Nat.le_refl _) _
  generalize w2.setCell ⟨w.heap.size, 2, none⟩ (.slice a2 n c2) = w3 at *
  clear k1 f1' k2 f2 K2 K1 own2 B2 hg2 hgrow2 hat2 hnews P1l P1 P B01 ownl Bl hlen
  obtain ⟨a2', c2', hv, P3⟩ := PairsAt.of_own own3 HPL.out
  injection hv with e1 e2 e3
  subst e1 e3
  have k3 := K3.cell
  simp at k3
  go_wp2_with fail
  refine (HA.out w3 _ _ P3).mono ?_
  rintro e' w4 ⟨rfl, B4⟩
  have Kp := Blk.new w4 48 #[.int .i64 cnt, .int .i64 kd, .string S]
  have Bp : Below w4.heap.size w4 (w4.alloc (.cells #[.int .i64 cnt, .int .i64 kd, .string S] 48)) := (Below.refl _ w4).alloc (Nat.le_refl _) _
  have K5 := (K3.below B4 K3.lt).below Bp (K3.below B4 K3.lt).lt
  have P5 := (P3.below B4).below Bp
  have B05 := below_then (below_then B03 B4 (Nat.le_refl _)) Bp (Nat.le_refl _)
  go_upto_region 5 with fail
  clear k3
  obtain ⟨gp, hgp⟩ : ∃ gp, w4.heap.size = gp := ⟨_, rfl⟩
  rw [hgp] at Kp ⊢
  generalize w4.alloc (.cells #[.int .i64 cnt, .int .i64 kd, .string S] 48) = w5 at *
  clear K3 own3 B03 P3 B4 Bp hgp
  have hne := Facts.ne w5 (FBk w5.heap.size n 9 9 ps)
  have hFL := FBk_lasts w5.heap.size n 9 9 ps
  have E1 := fun (gx : UWF (Facts w5 (FBk w5.heap.size n 9 9 ps))) => (K5.below gx.holds.below K5.lt).cell
  have E2 := fun (gx : UWF (Facts w5 (FBk w5.heap.size n 9 9 ps))) => (Kp.below gx.holds.below Kp.lt).cell
  simp at E1 E2
  refine wp_region_free [(0, 9, some 9), (10, 0, some 10), (11, 1, none)] (Facts w5 (FBk w5.heap.size n 9 9 ps)) (GBk n (.agg #[.int .i64 cnt, .int .i64 kd, .string S])) (fun y => if y = 9 then .slice none n 0 else .agg #[.int .i64 cnt, .int .i64 kd, .string S]) (by kernel_rfl) (by kernel_rfl) ?_ ?_ ?_ ?_
  · intro z hz LL G W hC
    simp [moversI] at hz
    refine hC.quiet (fun v V hi => ?_)
    omega
  · exact Facts.start _ _ _
  · intro z
    exact ⟨fun e => by subst e; exact ⟨_, _, rfl⟩, fun e => by subst e; rfl⟩
  · intro G hG
    obtain ⟨x9, y9, g9⟩ := (hG 9).a9 rfl
    have g10 := (hG 10).a10 rfl
    simp only [walkF, List.drop_zero, List.drop_succ_cons, List.take_succ_cons, List.take_zero, List.toList_toArray]; (repeat (go_big_quiet_step (fail))); refine wpQuiet_nil ?_
    refine ⟨_, _, _, _, _, _, rfl, .inl ⟨rfl, ?_, ?_⟩⟩
    · intro LL W hL hA hC
      refine ⟨?_⟩; go_simp; simp only [movesToUpon]
      refine (HTO.out W _ _ (P5.below hC.below)).mono ?_
      rintro e w' ⟨v', rfl, own', hb'⟩
      obtain ⟨xa, ya, rfl⟩ := own_any own'
      exact ⟨_, rfl, ⟨fun _ => ⟨_, _, rfl⟩, (fun e => by cases e)⟩, hC.add hFL hb' (fun _ => own_down own' hC.below.size)⟩
    · intro K' hK'; dsimp only at hK'; rw [g9]; go_big_quiet_op; go_big_quiet_on; (repeat (go_big_quiet_step (fail))); refine wpQuiet_nil ?_
      refine ⟨_, _, _, _, _, _, rfl, .inl ⟨rfl, ?_, ?_⟩⟩
      · intro LL W hL hA hC
        have r9 : W.ownsRow w5.heap.size 40 2 (G 9) n (rowQ ps) := hC.fact 9 (hA 9 (by kernel_rfl)) (.inl rfl)
        rw [g9] at r9
        obtain ⟨xa, ya, hv, R⟩ := RefAt.of_own r9 HPL.out
        injection hv with f1' f2' f3'
        subst f1' f3'
        refine ⟨?_⟩; go_simp; simp only [movesToUpon]
        refine (HB.out W _ _ R).mono ?_
        rintro e w' ⟨rfl, hb'⟩
        exact ⟨_, rfl, ⟨(fun e => by cases e), fun _ => rfl⟩, hC.add hFL hb' (fun hi => by omega)⟩
      · intro K' hK'; dsimp only at hK'; rw [g10]; go_big_quiet_op; go_big_quiet_on; (repeat (go_big_quiet_step (fail))); refine wpQuiet_nil ?_
        intro LL w9 hL hC
        have K9 := K5.below hC.below K5.lt
        have Kp9 := Kp.below hC.below Kp.lt
        have P9 := P5.below hC.below
        have B09 := below_then B05 hC.below (Nat.le_refl _)
        clear hC hL hG g9 g10 E1 E2 hne hFL K5 Kp P5 B05
        have k9 := K9.cell
        have kp9 := Kp9.cell
        simp at k9 kp9
        cases yes with
        | false =>
          obtain ⟨rfl, rfl, rfl, hnn⟩ := HNO.out rfl
          by_cases hn0 : n = 0
          · have c1 : ((n : Int) == 0) = true := by simp [hn0]
            clear hnn hn0
            go_wp2_with fail
            go_ret
            exact ⟨by first | rfl | simp, B09⟩
          · have c1 : ((n : Int) == 0) = false := by simp [hn0]
            have c2 : (300 : Int) < (n : Int) := by omega
            clear hnn hn0
            go_wp2_with fail
            go_ret
            exact ⟨by first | rfl | simp, B09⟩
        | true =>
          obtain ⟨rfl, rfl, hS, hn0, hn3⟩ := HYES.out rfl
          have hSl : S.size = 8 + 4 * n := by rw [hS, strOfNums_size, bodyL_len, HPL.out]
          have hOf := fun W => nack_OfOk S W (by omega) (by omega) (by omega)
          have hbI : bytesI S = bodyL fr ab ps := by rw [hS]; exact bytesI_str (bodyL_bytes fr ab ps)
          obtain ⟨hb1, hb2, hb3⟩ := body_n4 ⟨f0, f1⟩ ⟨b0, b1⟩ HOK.out
          simp only [hbI, hb1, hb2, hb3, HPL.out] at hOf
          have HOF := Lib.hid hOf
          clear hOf hbI hb1 hb2 hb3 hS hSl
          go_wp2_with fail
          refine (HOF.out w9).mono ?_
          rintro e w10 ⟨v10, rfl, ⟨a10, c10, rfl⟩, own10, B10⟩
          obtain ⟨a10', c10', hv, P10⟩ := PairsAt.of_own own10 HPL.out
          injection hv with f1' f2' f3'
          subst f1' f3'
          have Kn := Blk.new w10 36 #[.int .u32 fr, .int .u32 ab, .slice a10 n c10]
          have Bn : Below w10.heap.size w10 (w10.alloc (.cells #[.int .u32 fr, .int .u32 ab, .slice a10 n c10] 36)) := (Below.refl _ w10).alloc (Nat.le_refl _) _
          have K11 := (K9.below B10 K9.lt).below Bn (K9.below B10 K9.lt).lt
          have P11 := (P9.below B10).below Bn
          have Q11 := P10.below Bn
          have B011 := below_then (below_then B09 B10 (Nat.le_refl _)) Bn (Nat.le_refl _)
          clear k9 kp9
          go_upto_region 10 with fail
          obtain ⟨gn, hgn⟩ : ∃ gn, w10.heap.size = gn := ⟨_, rfl⟩
          rw [hgn] at Kn ⊢
          generalize w10.alloc (.cells #[.int .u32 fr, .int .u32 ab, .slice a10 n c10] 36) = w11 at *
          clear hgn Bn B10 P10 own10 K9 Kp9 P9 B09
          have hne := Facts.ne w11 (FBk w11.heap.size n 19 22 ps)
          have hFL := FBk_lasts w11.heap.size n 19 22 ps
          have E1 := fun (gx : UWF (Facts w11 (FBk w11.heap.size n 19 22 ps))) => (K11.below gx.holds.below K11.lt).cell
          have E2 := fun (gx : UWF (Facts w11 (FBk w11.heap.size n 19 22 ps))) => (Kn.below gx.holds.below Kn.lt).cell
          simp at E1 E2
          refine wp_region_free [(0, 19, some 19), (20, 2, some 22), (23, 0, some 23), (24, 2, none)] (Facts w11 (FBk w11.heap.size n 19 22 ps)) (GBl n) (fun y => if y = 23 then .bool true else .slice none n 0) (by kernel_rfl) (by kernel_rfl) ?_ ?_ ?_ ?_
          · intro z hz LL G W hC
            simp [moversI] at hz
            refine hC.quiet (fun v V hi => ?_)
            omega
          · exact Facts.start _ _ _
          · intro z
            exact ⟨fun e => by subst e; exact ⟨_, _, rfl⟩, fun e => by subst e; exact ⟨_, _, rfl⟩, fun e => by subst e; rfl⟩
          · intro G hG
            obtain ⟨x19, y19, g19⟩ := (hG 19).a19 rfl
            obtain ⟨x22, y22, g22⟩ := (hG 22).a22 rfl
            have g23 := (hG 23).a23 rfl
            simp only [walkF, List.drop_zero, List.drop_succ_cons, List.take_succ_cons, List.take_zero, List.toList_toArray]; (repeat (go_big_quiet_step (fail))); refine wpQuiet_nil ?_
            refine ⟨_, _, _, _, _, _, rfl, .inl ⟨rfl, ?_, ?_⟩⟩
            · intro LL W hL hA hC
              refine ⟨?_⟩; go_simp; simp only [movesToUpon]
              refine (HTO.out W _ _ (Q11.below hC.below)).mono ?_
              rintro e w' ⟨v', rfl, own', hb'⟩
              obtain ⟨xa, ya, rfl⟩ := own_any own'
              exact ⟨_, rfl, ⟨fun _ => ⟨_, _, rfl⟩, (fun e => by cases e), (fun e => by cases e)⟩, hC.add hFL hb' (fun _ => own_down own' hC.below.size)⟩
            · intro K' hK'; dsimp only at hK'; rw [g19]; go_big_quiet_op; go_big_quiet_on; (repeat (go_big_quiet_step (fail))); refine wpQuiet_nil ?_
              refine ⟨_, _, _, _, _, _, rfl, .inl ⟨rfl, ?_, ?_⟩⟩
              · intro LL W hL hA hC
                refine ⟨?_⟩; go_simp; simp only [movesToUpon]
                refine (HTO.out W _ _ (P11.below hC.below)).mono ?_
                rintro e w' ⟨v', rfl, own', hb'⟩
                obtain ⟨xa, ya, rfl⟩ := own_any own'
                exact ⟨_, rfl, ⟨(fun e => by cases e), fun _ => ⟨_, _, rfl⟩, (fun e => by cases e)⟩, hC.add hFL hb' (fun _ => own_down own' hC.below.size)⟩
              · intro K' hK'; dsimp only at hK'; rw [g22]; go_big_quiet_op; go_big_quiet_on; (repeat (go_big_quiet_step (fail))); refine wpQuiet_nil ?_
                refine ⟨_, _, _, _, _, _, rfl, .inl ⟨rfl, ?_, ?_⟩⟩
                · intro LL W hL hA hC
                  have r19 : W.ownsRow w11.heap.size 40 2 (G 19) n (rowQ ps) := hC.fact 19 (hA 19 (by kernel_rfl)) (.inl rfl)
                  have r22 : W.ownsRow w11.heap.size 40 2 (G 22) n (rowQ ps) := hC.fact 22 (hA 22 (by kernel_rfl)) (.inr rfl)
                  rw [g19] at r19
                  rw [g22] at r22
                  obtain ⟨xa, ya, hv, R⟩ := RefAt.of_own r19 HPL.out
                  injection hv with f1' f2' f3'
                  subst f1' f3'
                  obtain ⟨xb, yb, hv, R2⟩ := RefAt.of_own r22 HPL.out
                  injection hv with f1' f2' f3'
                  subst f1' f3'
                  refine ⟨?_⟩; go_simp; simp only [movesToUpon]
                  refine (HSM.out W _ _ _ _ R R2).mono ?_
                  rintro e w' ⟨rfl, hb'⟩
                  exact ⟨_, rfl, ⟨(fun e => by cases e), (fun e => by cases e), fun _ => rfl⟩, hC.add hFL hb' (fun hi => by omega)⟩
                · intro K' hK'; dsimp only at hK'; rw [g23]; go_big_quiet_op; go_big_quiet_on; (repeat (go_big_quiet_step (fail))); refine wpQuiet_nil ?_
                  intro LL w12 hL hC
                  have BE := below_then B011 hC.below (Nat.le_refl _)
                  clear hC hL hG g19 g22 g23 E1 E2 hne
                  go_wp2_with fail
                  go_ret
                  exact ⟨by first | rfl | simp, BE⟩
end Go.Proofs.Ytmmoejnjajmnpaa
