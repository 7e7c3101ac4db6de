/- HistoryPlays, walked. No condition. (Printed by gen_hda.py.) -/
import Derived.Test.YtonamlgipoannaaHistDoA
import Derived.Test.YtonamlgipoannaaHist8
namespace Go.Proofs.Ytonamlgipoannaa
open Go.RowKit BigFrame
attribute [local go_sem ↓] Go.wp_at_zero Go.wp_at_succ

theorem rowat_nil (W : World) : RowAt W none 0 0 [] := ⟨rfl, Nat.le_refl _, by omega, (fun g off e => by cases e), fun h => absurd h (by omega)⟩
set_option maxRecDepth 8000 in
set_option maxHeartbeats 8000000 in
theorem HistoryPlays_walk (a0 : Int) (a1 : Int) (a2a : Option Addr) (a2l a2c : Nat) (a2e0 : Nat → Int) (a2e1 : Nat → Int) (a2e2 : Nat → Int) (a2e3 : Nat → ByteArray) (w : World) (a0w : (Lit.int .i64 a0).wf = true) (a1w : (Lit.int .i64 a1).wf = true) (a2S : SliceOf w a2a a2l a2c 4 (fun i => [.int .i64 (a2e0 i), .int .i64 (a2e1 i), .int .i64 (a2e2 i), .string (a2e3 i)])) (a2F0 : ∀ i, i < a2l → (Lit.int .i64 (a2e0 i)).wf = true) (a2F1 : ∀ i, i < a2l → (Lit.int .i64 (a2e1 i)).wf = true) (a2F2 : ∀ i, i < a2l → (Lit.int .i64 (a2e2 i)).wf = true) (a2F3 : ∀ i, i < a2l → (a2e3 i).size ≤ maxLen) :
    Calls Try.prog 5 #[.int .i64 a0, .int .i64 a1, .slice a2a a2l a2c] w fun e w' => e = .returned (.bool true) ∧ Below w.heap.size w w' := by
  obtain ⟨a, ha⟩ : ∃ a, clipI a0 1 65535 = a := ⟨_, rfl⟩
  obtain ⟨b, hb⟩ : ∃ b, clipI a1 0 100 = b := ⟨_, rfl⟩
  have a01 : 1 ≤ a ∧ a ≤ 65535 := by rw [← ha]; unfold clipI; omega
  have b01 : 0 ≤ b ∧ b ≤ 100 := by rw [← hb]; unfold clipI; omega
  have HNew := Lib.hid (fun W => hist_New a0 a1 a b ha hb W)
  have HRN := Lib.hid (fun W => ref21_New a0 a1 a b ha hb W)
  have HS := Lib.hid a2S
  have HF3 := Lib.hid a2F3
  have hl2 := a2S.size_le
  obtain ⟨p, hp⟩ : ∃ p, (if 65535 < a0 then 65535 else a0) = p := ⟨_, rfl⟩
  have hpa : (if 1 < p then p else 1) = a := by rw [← ha, ← hp]; unfold clipI; split <;> split <;> omega
  clear ha hb a2S a2F0 a2F1 a2F2 a2F3 a0w a1w
  go_enter Try.func5, Try.ntmps5
  go_wp2_with fail
  refine (law21_awake _).mono ?_
  rintro e w1 ⟨rfl, B1⟩
  go_wp2_with fail
  refine (HNew.out _).mono ?_
  rintro e w2 ⟨rfl, q2, B2⟩
  obtain ⟨g, hg⟩ : ∃ g, w1.heap.size = g := ⟨_, rfl⟩
  rw [hg] at q2 B2 ⊢
  go_wp2_with fail
  refine (HRN.out _).mono ?_
  rintro e w3 ⟨rfl, B3⟩
  have q3 := q2.below B3
  have s1 := B1.size
  have s3 := B3.size
  have gl := q2.blk.lt
  have K := Blk.new w3 43 #[.int .i64 a, .int .i64 b, .int .i64 0, .slice none 0 0]
  have B3' : Below w3.heap.size w3 (w3.alloc (.cells #[.int .i64 a, .int .i64 b, .int .i64 0, .slice none 0 0] 43)) := (Below.refl _ w3).alloc (Nat.le_refl _) _
  obtain ⟨xb, hxb⟩ : ∃ xb, w3.heap.size = xb := ⟨_, rfl⟩
  have HB : BothH (w3.alloc (.cells #[.int .i64 a, .int .i64 b, .int .i64 0, .slice none 0 0] 43)) g xb a b 0 [] (.slice none 0 0) none 0 :=
    ⟨q3.below B3', rowat_nil _, by rw [← hxb]; exact K, (fun k o e => by cases e), (fun e => by cases e), by omega, ⟨rising_nil, (fun s h => by cases h)⟩, by first | (simp; done) | (simp; omega)⟩
  have B03 : Below w.heap.size w (w3.alloc (.cells #[.int .i64 a, .int .i64 b, .int .i64 0, .slice none 0 0] 43)) := below_then (B1.trans ((B2.mono (by omega)).trans (B3.mono (by omega)))) B3' (Nat.le_refl _)
  have hgw : w.heap.size ≤ g := by omega
  have hxw : w.heap.size ≤ xb := by omega
  go_upto_region 4 with fail
  rw [hxb] at *
  generalize w3.alloc (.cells #[.int .i64 a, .int .i64 b, .int .i64 0, .slice none 0 0] 43) = w4 at *
  clear K B3' B1 B2 B3 q2 q3
  go_upto_region 7 with fail
  go_wp2_with fail
  go_loopw [10] (fun xi wr => ∃ (i : Nat) (c : Int) (l : List HR) (v : Value) (sa : Option Addr) (sc : Nat), i ≤ a2l ∧ i ≤ 60 ∧ xi = .int .i64 i ∧ BothH wr g xb a b c l v sa sc ∧ l.length ≤ i ∧ 0 ≤ c ∧ c ≤ i ∧ (∀ k, v.ownBlock = some k → w.heap.size ≤ k) ∧ Below w.heap.size w wr) (fun xi _ => a2l - (intOf xi).toNat)
  case atStart => exact ⟨0, 0, [], _, _, _, by omega, by omega, rfl, HB, by simp, by omega, by omega, (fun k e => by cases e), B03⟩
  case round =>
    clear HB B03 gl
    obtain ⟨i, c, l, v, sa, sc, hi, hi40, rfl, H, hl, hc0', hc1', hv, B⟩ := hrel
    by_cases hgo : i < a2l ∧ i < 60
    · obtain ⟨hlt, h40⟩ := hgo
      obtain ⟨bb, off, rfl, hbb, hcell⟩ := HS.out.at4x (by omega)
      obtain ⟨hc0, hc1, hc2, hc3⟩ := hcell i hlt
      have SF := HF3.out i hlt
      obtain ⟨kd, hkd⟩ : ∃ kd, a2e0 i = kd := ⟨_, rfl⟩
      obtain ⟨sq, hsq⟩ : ∃ N, a2e1 i = N := ⟨_, rfl⟩
      obtain ⟨pa, hpa⟩ : ∃ N, a2e2 i = N := ⟨_, rfl⟩
      obtain ⟨data, hdata⟩ : ∃ N, a2e3 i = N := ⟨_, rfl⟩
      rw [hkd] at hc0
      rw [hsq] at hc1
      rw [hpa] at hc2
      rw [hdata] at hc3 SF
      have SF' := Lib.hid SF
      clear hkd hsq hpa hdata hcell SF
      have i0 : (0 : Int) ≤ (i : Int) := by omega
      have i1 : (i : Int) < (a2l : Int) := by omega
      have i2 : (i : Int) < 60 := by omega
      have wk : IntKind.i64.wrap ((i : Int) + 1) = ((i + 1 : Nat) : Int) := by rw [IntWalk.i64_in _ (by omega)]; omega
      obtain ⟨n, hn⟩ : ∃ n, l.length = n := ⟨_, rfl⟩
      have HN := Lib.hid hn
      have hll : n ≤ 60 := by omega
      clear hn
      go_upto_region 10 with fail
      have hne : Nonempty (UWF (CDoH wr g xb a b c l v sa sc)) := ⟨⟨fun _ => false, fun _ => undef, wr.drew, CDoH.start H _⟩⟩
      have sB := B.size
      refine wp_region_free [(0, 1, some 1), (2, 4, some 6), (7, 3, some 10), (11, 1, none)] (CDoH wr g xb a b c l v sa sc) (GDoH a b c (.slice sa l.length sc)) (G0DoH a b c (.slice sa l.length sc)) (by kernel_rfl) (by kernel_rfl) ?_ ?_ ?_ ?_
      · intro z hz LL G W hC
        simp [moversI] at hz
        exact hC.quiet (by omega) (by omega) (by omega)
      · exact CDoH.start H _
      · exact G0DoH_ok a b c (.slice sa l.length sc)
      · intro G hG
        have g1 := (hG 1).load rfl
        obtain ⟨c1, ra, rn, rc, g6⟩ := (hG 6).call rfl
        have E := fun (gw : UWF (CDoH wr g xb a b c l v sa sc)) => B.trans (gw.holds.down sB hgw hxw hv)
        have E0 := fun (gw : UWF (CDoH wr g xb a b c l v sa sc)) => ((E gw).cell (p := ⟨bb, off + i * 4, none⟩) hbb).trans hc0
        have E1 := fun (gw : UWF (CDoH wr g xb a b c l v sa sc)) => ((E gw).cell (p := ⟨bb, off + i * 4 + 1, none⟩) hbb).trans hc1
        have E2 := fun (gw : UWF (CDoH wr g xb a b c l v sa sc)) => ((E gw).cell (p := ⟨bb, off + i * 4 + 2, none⟩) hbb).trans hc2
        have E3 := fun (gw : UWF (CDoH wr g xb a b c l v sa sc)) => ((E gw).cell (p := ⟨bb, off + i * 4 + 3, none⟩) hbb).trans hc3
        simp only [walkF, List.drop_zero, List.drop_succ_cons, List.take_succ_cons, List.take_zero, List.toList_toArray]; (repeat (go_big_quiet_step (fail))); refine wpQuiet_nil ?_
        refine ⟨_, _, _, _, _, _, rfl, .inl ⟨rfl, ?_, ?_⟩⟩
        · intro LL W hL hA hC
          have k0 := (hC.x0 (hC.xb0 hL)).cell
          simp at k0
          refine ⟨?_⟩; go_simp; simp only [movesToUpon]
          exact ⟨⟨fun _ => rfl, (fun e => by cases e)⟩, hC.loaded hL _⟩
        · intro K' hK'; dsimp only at hK'; rw [g1]; go_big_quiet_op; go_big_quiet_on; (repeat (go_big_quiet_step (fail))); refine wpQuiet_nil ?_
          refine ⟨_, _, _, _, _, _, rfl, .inl ⟨rfl, ?_, ?_⟩⟩
          · intro LL W hL hA hC
            refine ⟨?_⟩; go_simp; simp only [movesToUpon]
            exact hC.call H hL kd sq pa data (by omega) SF'.out (by omega) (by omega) (by omega) (by have := HN.out; omega)
          · intro K' hK'; dsimp only at hK'; rw [g6]; go_big_quiet_op; go_big_quiet_on; (repeat (go_big_quiet_step (fail))); refine wpQuiet_nil ?_
            refine ⟨_, _, _, _, _, _, rfl, .inl ⟨rfl, ?_, ?_⟩⟩
            · intro LL W hL hA hC
              have k0 := hC.x0 hL
              have ck0 := k0.cell
              have fk0 := k0.frozen
              simp at ck0
              obtain ⟨wS, eS, KS, BS, hkS⟩ := four_set k0 rfl (.int .i64 a) (.int .i64 b) (.int .i64 c1) (.slice ra rn rc) 0 (Nat.zero_le _)
              refine ⟨?_⟩; go_simp; simp only [movesToUpon]
              exact ⟨⟨(fun e => by cases e), (fun e => by cases e)⟩, hC.stored H (hA 1 (by kernel_rfl)) (hA 6 (by kernel_rfl)) g6 KS BS hkS _⟩
            · intro K' hK'; dsimp only at hK'; go_big_quiet_op; go_big_quiet_on; (repeat (go_big_quiet_step (fail))); refine wpQuiet_nil ?_
              intro LL w9 hL hC
              have B9 := hC.down sB hgw hxw hv
              have s9 := hC.size
              obtain ⟨l', v', hrn, H9, hl9, hc9, hc9', hr9⟩ := hC.done H (hL 6 (by decide)) (hL 10 (by decide)) g6
              have HRN := Lib.hid hrn
              clear hrn
              clear hC hL hG g1 g6 E E0 E1 E2 E3 hne hc0 hc1 hc2 hc3
              have hv9 : ∀ k, v'.ownBlock = some k → w.heap.size ≤ k := fun k hk => by
                rcases hr9 k hk with h1 | h1
                · exact hv k h1
                · omega
              have B09 := B.trans B9
              clear B9 B hr9 hv H

              obtain ⟨n', hn'⟩ : ∃ n, l'.length = n := ⟨_, rfl⟩
              have hm1 := H9.most
              have HI := Lib.hid (law21_Is g (.agg #[.int .i64 a, .int .i64 b, .int .i64 c1, .slice ra l'.length rc]) a b c1 l' v' ra rc w9 H9.q ⟨rfl, H9.row⟩ (by omega))
              have HLn := Lib.hid (fun W (h : HV W g a b c1 l' v') => hist_Len g a b c1 l' v' W h)
              have X := H9.x.cell
              simp at X
              rw [hn'] at HLn hm1 HI hl9 X
              have t1 : ¬ a < (n' : Int) := by omega
              have HN' := Lib.hid hn'
              clear hn'
              go_wp2_with fail
              refine HI.out.mono ?_
              rintro e wx ⟨rfl, BX⟩
              have HX := H9.below BX
              go_wp2_with fail
              refine (HLn.out wx HX.q).mono ?_
              rintro e wy ⟨rfl, rfl⟩
              clear X HI HLn H9
              have BE := below_then B09 BX (Nat.le_refl _)
              go_wp2_with fail
              go_roundw
              case rel => exact ⟨i + 1, c1, l', v', ra, rc, by omega, by omega, by go_num, HX, by have := HN'.out; have := HN.out; omega, by omega, by omega, hv9, BE⟩
              case measure => simp only [intOf]; omega
    · have hex : (i : Int) < (a2l : Int) → ¬ (i : Int) < 60 := by omega
      by_cases h1 : i < a2l
      · have i1 : (i : Int) < (a2l : Int) := by omega
        have i2 : ¬ (i : Int) < 60 := by omega
        go_wp2_with fail
        go_ret
        exact ⟨rfl, B⟩
      · have i1 : ¬ (i : Int) < (a2l : Int) := by omega
        go_wp2_with fail
        go_ret
        exact ⟨rfl, B⟩
end Go.Proofs.Ytonamlgipoannaa
