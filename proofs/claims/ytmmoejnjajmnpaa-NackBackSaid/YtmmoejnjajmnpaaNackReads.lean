/- NackReads, walked. No condition. -/
import Derived.Test.YtmmoejnjajmnpaaNackI
import Derived.Test.YtmmoejnjajmnpaaNackPairs
import Derived.Test.YtmmoejnjajmnpaaCut
namespace Go.Proofs.Ytmmoejnjajmnpaa
open Go.RowKit BigFrame
attribute [local go_sem ↓] Go.wp_at_zero Go.wp_at_succ
theorem pc7_eql (x0 y0 : Int) (x1 y1 : Int) (x2 y2 : ByteArray) (w : World) : (binOp .eql 50 (.agg #[.int .i64 x0, .int .i64 x1, .string x2]) (.agg #[.int .i64 y0, .int .i64 y1, .string y2])).run Try.prog w = .ok (.bool ((x0 == y0) && (x1 == y1) && (x2.toList == y2.toList))) w := by
  have hS : Try.prog.underlying 50 = some (.struct (Try.prog.fieldsOf 50)) := by kernel_rfl
  have hp : Try.prog.stoodInHeld 50 = false := by kernel_rfl
  have u3 := Try.underlying3
  have a3 := Try.isAgg3
  have z3 := Try.sizeOf3
  have u9 := Try.underlying9
  have a9 := Try.isAgg9
  have z9 := Try.sizeOf9
  rw [run_eql_struct, show (10000 : Nat) = 9999 + 1 from rfl, run_equalIn_agg w 9999 50 _ _ hS hp]
  simp only [Program.fieldsOf, Try.underlying50]
  go_simp
  by_cases h0 : x0 = y0
  rotate_left
  · simp [h0]
  subst h0
  by_cases h1 : x1 = y1
  rotate_left
  · simp [h1]
  subst h1
  cases h2 : (x2.toList == y2.toList)
  · (try simp [h2]); try simpa using h2
  (try simp [h2])
  try simpa using h2
theorem pc7_neq (x0 y0 : Int) (x1 y1 : Int) (x2 y2 : ByteArray) (w : World) : (binOp .neq 50 (.agg #[.int .i64 x0, .int .i64 x1, .string x2]) (.agg #[.int .i64 y0, .int .i64 y1, .string y2])).run Try.prog w = .ok (.bool (!((x0 == y0) && (x1 == y1) && (x2.toList == y2.toList)))) w := by
  have hS : Try.prog.underlying 50 = some (.struct (Try.prog.fieldsOf 50)) := by kernel_rfl
  have hp : Try.prog.stoodInHeld 50 = false := by kernel_rfl
  have u3 := Try.underlying3
  have a3 := Try.isAgg3
  have z3 := Try.sizeOf3
  have u9 := Try.underlying9
  have a9 := Try.isAgg9
  have z9 := Try.sizeOf9
  rw [run_neq_struct, show (10000 : Nat) = 9999 + 1 from rfl, run_equalIn_agg w 9999 50 _ _ hS hp]
  simp only [Program.fieldsOf, Try.underlying50]
  go_simp
  by_cases h0 : x0 = y0
  rotate_left
  · simp [h0]
  subst h0
  by_cases h1 : x1 = y1
  rotate_left
  · simp [h1]
  subst h1
  cases h2 : (x2.toList == y2.toList)
  · (try simp [h2]); try simpa using h2
  (try simp [h2])
  try simpa using h2
theorem pc7_guard (op : BinOp) (x y : Operand) (xs ys : Array Value) (w : World) : (eqGuard op 50 x y (.agg xs) (.agg ys)).run Try.prog w = .ok () w := run_eqGuard_agg w op 50 x y xs ys (by kernel_rfl)

attribute [local go_sem] pc7_eql pc7_neq pc7_guard

theorem pairsAt_nil (W : World) : PairsAt W none 0 0 [] := ⟨rfl, Nat.le_refl _, Nat.zero_le _, fun h => absurd h (by omega)⟩
theorem refAt_nil (W : World) : RefAt W none 0 0 [] := ⟨rfl, Nat.le_refl _, Nat.zero_le _, fun h => absurd h (by omega)⟩
theorem errOf_zero {cnt kd : Int} {z : Nat} (h : errOf cnt kd z = 0) : kd = 205 ∧ cnt = 1 ∧ 12 ≤ z ∧ z ≤ 1208 ∧ z % 4 = 0 := by
  unfold errOf at h
  split at h
  · cases h
  · split at h
    · cases h
    · split at h
      · cases h
      · omega
/-- What the last line's calls yield. -/
def FRd (B m : Nat) (ps : List (Int × Nat)) (i : Nat) (v : Value) (W : World) : Prop :=
  match i with
  | 20 => W.ownsRow B 40 2 v m (rowQ ps)
  | _ => True
theorem FRd_lasts (B m : Nat) (ps : List (Int × Nat)) : Lasts (FRd B m ps) := by
  intro i v W W' h hb
  unfold FRd at *
  split at h
  · exact own_lasts h hb
  · trivial
structure GRd (m : Nat) (pv : Value) (q : Nat) (v : Value) : Prop where
  a20 : q = 20 → ∃ a c, v = .slice a m c
  a22 : q = 22 → v = .bool true
  a29 : q = 29 → v = pv
set_option maxRecDepth 8000 in
set_option maxHeartbeats 8000000 in
theorem NackReads_walk (a0x0 : Int) (a0x1 : Int) (a0x2 : ByteArray) (w : World) (a0x0w0 : (Lit.int .i64 a0x0).wf = true) (a0x1w0 : (Lit.int .i64 a0x1).wf = true) (a0x2w0 : a0x2.size ≤ maxLen) :
    Calls Try.prog 7 #[.agg #[.int .i64 a0x0, .int .i64 a0x1, .string a0x2]] w fun e w' => e = .returned (.bool true) ∧ Below w.heap.size w w' := by
  obtain ⟨s, hs⟩ : ∃ s, cutB a0x2 1300 = s := ⟨_, rfl⟩
  have hcz := (cutB_size a0x2 1300).1
  rw [hs] at hcz
  have HCUT := Lib.hid (fun W => law02_Cut a0x2 s 1300 a0x2w0 (by decide) hs W)
  have hms : s.size ≤ maxLen := by rw [maxLen_eq]; omega
  obtain ⟨er, her⟩ : ∃ er, errOf a0x0 a0x1 s.size = er := ⟨_, rfl⟩
  have K0 := Blk.new w 50 #[.int .i64 a0x0, .int .i64 a0x1, .string a0x2]
  have B0 : Below w.heap.size w (w.alloc (.cells #[.int .i64 a0x0, .int .i64 a0x1, .string a0x2] 50)) := (Below.refl _ w).alloc (Nat.le_refl _) _
  clear hs a0x0w0 a0x1w0 a0x2w0
  by_cases h0 : er = 0
  · subst h0
    obtain ⟨rfl, rfl, z0, z1, z4⟩ := errOf_zero her
    have HO := Lib.hid (fun W => nack_OfOk s W z0 z1 z4)
    have HR := Lib.hid (fun W => ref10_OfOk s W z0 z1 z4)
    have hLb := bytesI_ok s
    obtain ⟨f, hf⟩ : ∃ f, n4 (bytesI s) = f := ⟨_, rfl⟩
    obtain ⟨a, ha⟩ : ∃ f, n4 ((bytesI s).drop 4) = f := ⟨_, rfl⟩
    obtain ⟨ps, hps⟩ : ∃ ps, parP ((bytesI s).drop 8) = ps := ⟨_, rfl⟩
    have hfb := n4_bd hLb
    have hab := n4_bd (l := (bytesI s).drop 4) (fun x hx => hLb x (List.drop_subset _ _ hx))
    have hok : PairsOk ps := by rw [← hps]; exact parP_ok (fun x hx => hLb x (List.drop_subset _ _ hx))
    have hbb := body_back hLb (by rw [bytesI_len]; omega) (by rw [bytesI_len]; exact z4)
    rw [hf, ha, hps] at hbb
    rw [hf] at hfb
    rw [ha] at hab
    obtain ⟨m, hm⟩ : ∃ m, ps.length = m := ⟨_, rfl⟩
    have hml : m = (s.size - 8) / 4 := by rw [← hm, ← hps, parP_len, List.length_drop, bytesI_len]
    rw [hf, ha, hps, hm] at HO HR
    have HP := Lib.hid (fun W av cv (P : PairsAt W av m cv ps) => nack_PieceYes f a av m cv ps W P hok (by omega) hfb hab)
    rw [hbb, str_bytesI] at HP
    have HTO := Lib.hid (fun W a c (P : PairsAt W a m c ps) => law10_told a m c ps W P (by omega) hok)
    have HSM := Lib.hid (fun W av bv ca cb (A : RefAt W av m ca ps) (B : RefAt W bv m cb ps) => law10_same av bv m ca cb ps W A B (by omega))
    have HM := Lib.hid hm
    obtain ⟨f0, f1⟩ := hfb
    obtain ⟨a0, a1⟩ := hab
    have wf : IntKind.i64.wrap f = f := IntWalk.i64_in _ (by omega)
    have wa : IntKind.i64.wrap a = a := IntWalk.i64_in _ (by omega)
    clear her z0 z1 z4 hLb hf ha hps hok hbb hm hml hms
    go_enter Try.func7, Try.ntmps7
    go_upto_region 1 with fail
    generalize w.alloc (.cells #[.int .i64 1, .int .i64 205, .string a0x2] 50) = w0 at *
    go_wp2_with fail
    refine (law10_awake _).mono ?_
    rintro e w1 ⟨rfl, B1⟩
    have K1 := K0.below B1 K0.lt
    have B01 := below_then B0 B1 (Nat.le_refl _)
    have k1 := K1.cell
    have f1' := K1.frozen
    simp at k1
    clear K0 B0 B1
    go_wp2_with fail
    refine (HCUT.out w1).mono ?_
    rintro e w' ⟨rfl, rfl⟩
    have K2 := K1.set_ 2 (.string s)
    simp at K2
    have B02 : Below w.heap.size w (w1.setCell ⟨w.heap.size, 2, none⟩ (.string s)) := B01.setCell (p := ⟨w.heap.size, 2, none⟩) (Nat.le_refl _) _
    go_upto_region 4 with fail
    generalize w1.setCell ⟨w.heap.size, 2, none⟩ (.string s) = w2 at *
    clear K1 B01 k1 f1'
    have k2 := K2.cell
    simp at k2
    go_wp2_with fail
    refine (HO.out w2).mono ?_
    rintro e w3 ⟨v3, rfl, ⟨a3, c3, rfl⟩, own3, B3⟩
    have Kn := Blk.new w3 36 #[.int .u32 f, .int .u32 a, .slice a3 m c3]
    have Bn : Below w3.heap.size w3 (w3.alloc (.cells #[.int .u32 f, .int .u32 a, .slice a3 m c3] 36)) := (Below.refl _ w3).alloc (Nat.le_refl _) _
    have K3 := (K2.below B3 K2.lt).below Bn (K2.below B3 K2.lt).lt
    have B03 := below_then (below_then B02 B3 (Nat.le_refl _)) Bn (Nat.le_refl _)
    have own3n := own_lasts own3 Bn
    go_upto_region 5 with fail
    clear k2
    obtain ⟨gn, hgn⟩ : ∃ gn, w3.heap.size = gn := ⟨_, rfl⟩
    rw [hgn] at Kn ⊢
    generalize w3.alloc (.cells #[.int .u32 f, .int .u32 a, .slice a3 m c3] 36) = w4 at *
    clear own3 B3 Bn K2 B02 hgn
    have k3 := K3.cell
    simp at k3
    go_wp2_with fail
    refine (HR.out w4).mono ?_
    rintro e w5 ⟨v5, rfl, ⟨a5, c5, rfl⟩, own5, B5⟩
    have K5 := K3.below B5 K3.lt
    have Kn5 := Kn.below B5 Kn.lt
    have own35 := own_lasts own3n B5
    have B05 := below_then B03 B5 (Nat.le_refl _)
    obtain ⟨a3', c3', hv, P5⟩ := PairsAt.of_own own35 HM.out
    injection hv with f1' f2' f3'
    subst f1' f3'
    obtain ⟨a5', c5', hv, R5⟩ := RefAt.of_own own5 HM.out
    injection hv with f1' f2' f3'
    subst f1' f3'
    clear k3 K3 Kn B03 B5 own3n own5 own35
    go_upto_region 6 with fail
    have hne := Facts.ne w5 (FRd w5.heap.size m ps)
    have hFL := FRd_lasts w5.heap.size m ps
    have E1 := fun (gx : UWF (Facts w5 (FRd w5.heap.size m ps))) => (K5.below gx.holds.below K5.lt).cell
    have E2 := fun (gx : UWF (Facts w5 (FRd w5.heap.size m ps))) => (Kn5.below gx.holds.below Kn5.lt).cell
    simp at E1 E2
    refine wp_region_free [(0, 20, some 20), (21, 1, some 22), (23, 6, some 29), (30, 5, none)] (Facts w5 (FRd w5.heap.size m ps)) (GRd m (.agg #[.int .i64 1, .int .i64 205, .string s])) (fun y => if y = 20 then .slice none m 0 else if y = 22 then .bool true else .agg #[.int .i64 1, .int .i64 205, .string s]) (by kernel_rfl) (by kernel_rfl) ?_ ?_ ?_ ?_
    · intro z hz LL G W hC
      simp [moversI] at hz
      refine hC.quiet (fun v V => ?_)
      unfold FRd
      split <;> first | trivial | omega
    · exact Facts.start _ _ _
    · intro z
      exact ⟨fun e => by subst e; exact ⟨_, _, rfl⟩, fun e => by subst e; rfl, fun e => by subst e; rfl⟩
    · intro G hG
      obtain ⟨x20, y20, g20⟩ := (hG 20).a20 rfl
      have g22 := (hG 22).a22 rfl
      have g29 := (hG 29).a29 rfl
      simp only [walkF, List.drop_zero, List.drop_succ_cons, List.take_succ_cons, List.take_zero, List.toList_toArray]; (repeat (go_big_quiet_step (fail))); refine wpQuiet_nil ?_
      refine ⟨_, _, _, _, _, _, rfl, .inl ⟨rfl, ?_, ?_⟩⟩
      · intro LL W hL hA hC
        refine ⟨?_⟩; go_simp; simp only [movesToUpon]
        refine (HTO.out W _ _ (P5.below hC.below)).mono ?_
        rintro e w' ⟨v', rfl, own', hb'⟩
        obtain ⟨xa, ya, rfl⟩ := own_any own'
        exact ⟨_, rfl, ⟨fun _ => ⟨_, _, rfl⟩, (fun e => by cases e), (fun e => by cases e)⟩, hC.add hFL hb' (own_down own' hC.below.size)⟩
      · intro K' hK'; dsimp only at hK'; rw [g20]; go_big_quiet_op; go_big_quiet_on; (repeat (go_big_quiet_step (fail))); refine wpQuiet_nil ?_
        refine ⟨_, _, _, _, _, _, rfl, .inl ⟨rfl, ?_, ?_⟩⟩
        · intro LL W hL hA hC
          have r20 : W.ownsRow w5.heap.size 40 2 (G 20) m (rowQ ps) := hC.fact 20 (hA 20 (by kernel_rfl))
          rw [g20] at r20
          obtain ⟨xa, ya, hv, R⟩ := RefAt.of_own r20 HM.out
          injection hv with f1' f2' f3'
          subst f1' f3'
          refine ⟨?_⟩; go_simp; simp only [movesToUpon]
          refine (HSM.out W _ _ _ _ R (R5.below hC.below)).mono ?_
          rintro e w' ⟨rfl, hb'⟩
          exact ⟨_, rfl, ⟨(fun e => by cases e), fun _ => rfl, (fun e => by cases e)⟩, hC.add hFL hb' trivial⟩
        · intro K' hK'; dsimp only at hK'; rw [g22]; go_big_quiet_op; go_big_quiet_on; (repeat (go_big_quiet_step (fail))); refine wpQuiet_nil ?_
          refine ⟨_, _, _, _, _, _, rfl, .inl ⟨rfl, ?_, ?_⟩⟩
          · intro LL W hL hA hC
            refine ⟨?_⟩; go_simp; simp only [movesToUpon]
            refine (HP.out W _ _ (P5.below hC.below)).mono ?_
            rintro e w' ⟨rfl, hb'⟩
            exact ⟨_, rfl, ⟨(fun e => by cases e), (fun e => by cases e), fun _ => rfl⟩, hC.add hFL hb' trivial⟩
          · intro K' hK'; dsimp only at hK'; rw [g29]; go_big_quiet_op; go_big_quiet_on; (repeat (go_big_quiet_step (fail))); refine wpQuiet_nil ?_
            intro LL w9 hL hC
            have BE := below_then B05 hC.below (Nat.le_refl _)
            clear hC hL hG g20 g22 g29 E1 E2 hne
            go_wp2_with fail
            go_ret
            exact ⟨by first | rfl | simp, BE⟩
  · have HO := Lib.hid (fun W => nack_OfErr a0x0 a0x1 s er W her h0 hms)
    have HR := Lib.hid (fun W => ref10_OfErr a0x0 a0x1 s er W her h0 hms)
    have HTO := Lib.hid (fun W => law10_told none 0 0 [] W (pairsAt_nil W) (by decide) (fun x hx => by cases hx))
    have HSM := Lib.hid (fun W av ca (A : RefAt W av 0 ca []) => law10_same av none 0 ca 0 [] W A (refAt_nil W) (by decide))
    have e5 : (er != 0) = true := by simp [h0]
    clear her hms h0
    go_enter Try.func7, Try.ntmps7
    go_upto_region 1 with fail
    generalize w.alloc (.cells #[.int .i64 a0x0, .int .i64 a0x1, .string a0x2] 50) = w0 at *
    go_wp2_with fail
    refine (law10_awake _).mono ?_
    rintro e w1 ⟨rfl, B1⟩
    have K1 := K0.below B1 K0.lt
    have B01 := below_then B0 B1 (Nat.le_refl _)
    have k1 := K1.cell
    have f1' := K1.frozen
    simp at k1
    clear K0 B0 B1
    go_wp2_with fail
    refine (HCUT.out w1).mono ?_
    rintro e w' ⟨rfl, rfl⟩
    have K2 := K1.set_ 2 (.string s)
    simp at K2
    have B02 : Below w.heap.size w (w1.setCell ⟨w.heap.size, 2, none⟩ (.string s)) := B01.setCell (p := ⟨w.heap.size, 2, none⟩) (Nat.le_refl _) _
    go_upto_region 4 with fail
    generalize w1.setCell ⟨w.heap.size, 2, none⟩ (.string s) = w2 at *
    clear K1 B01 k1 f1'
    have k2 := K2.cell
    simp at k2
    go_wp2_with fail
    refine (HO.out w2).mono ?_
    rintro e w3 ⟨rfl, B3⟩
    have Kn := Blk.new w3 36 #[.int .u32 0, .int .u32 0, .slice none 0 0]
    have Bn : Below w3.heap.size w3 (w3.alloc (.cells #[.int .u32 0, .int .u32 0, .slice none 0 0] 36)) := (Below.refl _ w3).alloc (Nat.le_refl _) _
    have K3 := (K2.below B3 K2.lt).below Bn (K2.below B3 K2.lt).lt
    have B03 := below_then (below_then B02 B3 (Nat.le_refl _)) Bn (Nat.le_refl _)
    go_upto_region 5 with fail
    clear k2
    obtain ⟨gn, hgn⟩ : ∃ gn, w3.heap.size = gn := ⟨_, rfl⟩
    rw [hgn] at Kn ⊢
    generalize w3.alloc (.cells #[.int .u32 0, .int .u32 0, .slice none 0 0] 36) = w4 at *
    clear B3 Bn K2 B02 hgn
    have k3 := K3.cell
    simp at k3
    go_wp2_with fail
    refine (HR.out w4).mono ?_
    rintro e w5 ⟨rfl, B5⟩
    have K5 := K3.below B5 K3.lt
    have Kn5 := Kn.below B5 Kn.lt
    have B05 := below_then B03 B5 (Nat.le_refl _)
    clear k3 K3 Kn B03 B5
    go_upto_region 6 with fail
    have hne := Facts.ne w5 (FRd w5.heap.size 0 [])
    have hFL := FRd_lasts w5.heap.size 0 []
    have E1 := fun (gx : UWF (Facts w5 (FRd w5.heap.size 0 []))) => (K5.below gx.holds.below K5.lt).cell
    have E2 := fun (gx : UWF (Facts w5 (FRd w5.heap.size 0 []))) => (Kn5.below gx.holds.below Kn5.lt).cell
    simp at E1 E2
    refine wp_region_free [(0, 20, some 20), (21, 1, some 22), (23, 6, some 29), (30, 5, none)] (Facts w5 (FRd w5.heap.size 0 [])) (GRd 0 undef) (fun y => if y = 20 then .slice none 0 0 else if y = 22 then .bool true else undef) (by kernel_rfl) (by kernel_rfl) ?_ ?_ ?_ ?_
    · intro z hz LL G W hC
      simp [moversI] at hz
      refine hC.quiet (fun v V => ?_)
      unfold FRd
      split <;> first | trivial | omega
    · exact Facts.start _ _ _
    · intro z
      exact ⟨fun e => by subst e; exact ⟨_, _, rfl⟩, fun e => by subst e; rfl, fun e => by subst e; rfl⟩
    · intro G hG
      obtain ⟨x20, y20, g20⟩ := (hG 20).a20 rfl
      have g22 := (hG 22).a22 rfl
      simp only [walkF, List.drop_zero, List.drop_succ_cons, List.take_succ_cons, List.take_zero, List.toList_toArray]; (repeat (go_big_quiet_step (fail))); refine wpQuiet_nil ?_
      refine ⟨_, _, _, _, _, _, rfl, .inl ⟨rfl, ?_, ?_⟩⟩
      · intro LL W hL hA hC
        refine ⟨?_⟩; go_simp; simp only [movesToUpon]
        refine (HTO.out W).mono ?_
        rintro e w' ⟨v', rfl, own', hb'⟩
        obtain ⟨xa, ya, rfl⟩ := own_any own'
        exact ⟨_, rfl, ⟨fun _ => ⟨_, _, rfl⟩, (fun e => by cases e), (fun e => by cases e)⟩, hC.add hFL hb' (own_down own' hC.below.size)⟩
      · intro K' hK'; dsimp only at hK'; rw [g20]; go_big_quiet_op; go_big_quiet_on; (repeat (go_big_quiet_step (fail))); refine wpQuiet_nil ?_
        refine ⟨_, _, _, _, _, _, rfl, .inl ⟨rfl, ?_, ?_⟩⟩
        · intro LL W hL hA hC
          have r20 : W.ownsRow w5.heap.size 40 2 (G 20) 0 (rowQ []) := hC.fact 20 (hA 20 (by kernel_rfl))
          rw [g20] at r20
          obtain ⟨xa, ya, hv, R⟩ := RefAt.of_own r20 rfl
          injection hv with f1' f2' f3'
          subst f1' f3'
          refine ⟨?_⟩; go_simp; simp only [movesToUpon]
          refine (HSM.out W _ _ R).mono ?_
          rintro e w' ⟨rfl, hb'⟩
          exact ⟨_, rfl, ⟨(fun e => by cases e), fun _ => rfl, (fun e => by cases e)⟩, hC.add hFL hb' trivial⟩
        · intro K' hK'; dsimp only at hK'; rw [g22]; go_big_quiet_op; go_big_quiet_on; (repeat (go_big_quiet_step (fail))); refine wpQuiet_nil ?_
          refine ⟨_, _, _, _, _, _, rfl, .inr ⟨rfl, fun LL W hL hC => hC.quiet (fun v V => trivial), ?_⟩⟩
          intro K' hK'; dsimp only at hK'; go_big_quiet_op; go_big_quiet_on; (repeat (go_big_quiet_step (fail))); refine wpQuiet_nil ?_
          intro LL w9 hL hC
          have BE := below_then B05 hC.below (Nat.le_refl _)
          clear hC hL hG g20 g22 E1 E2 hne
          go_wp2_with fail
          go_ret
          exact ⟨by first | rfl | simp, BE⟩
end Go.Proofs.Ytmmoejnjajmnpaa
