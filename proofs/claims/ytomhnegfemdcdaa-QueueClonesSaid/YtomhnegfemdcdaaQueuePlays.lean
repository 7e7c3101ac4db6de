/- QueuePlays, walked. No condition. -/
import Derived.Test.YtomhnegfemdcdaaQueueDoA
namespace Go.Proofs.Ytomhnegfemdcdaa
open Go.RowKit BigFrame
attribute [local go_sem ↓] Go.wp_at_zero Go.wp_at_succ

theorem SliceOf.at3x {w : World} {a : Option Addr} {len cap : Nat} {X Y Z : Nat → Value} (h : SliceOf w a len cap 3 (fun i => [X i, Y i, Z i])) (hp : 0 < len) :
    ∃ b off, a = some ⟨b, off, none⟩ ∧ b < w.heap.size ∧ ∀ i, i < len → w.cell? ⟨b, off + i * 3, none⟩ = some (X i) ∧ w.cell? ⟨b, off + i * 3 + 1, none⟩ = some (Y i) ∧ w.cell? ⟨b, off + i * 3 + 2, none⟩ = some (Z i) := by
  obtain ⟨b, off, ha, hb, hc⟩ := h.2.2 hp
  exact ⟨b, off, ha, hb, fun i hi => ⟨by have := hc i hi 0 _ rfl; simpa using this, hc i hi 1 _ rfl, hc i hi 2 _ rfl⟩⟩

set_option maxHeartbeats 8000000 in
theorem QueuePlays_walk (a0 : Int) (a1 : Int) (a2a : Option Addr) (a2l a2c : Nat) (a2e0 : Nat → Int) (a2e1 : Nat → Int) (a2e2 : Nat → Option Addr) (a2e3 : Nat → Nat) (a2e4 : Nat → Nat) (a2e5 : Nat → Nat → ByteArray) (w : World) (a0w : (Lit.int .i64 a0).wf = true) (a1w : (Lit.int .i64 a1).wf = true) (a2S : SliceOf w a2a a2l a2c 3 (fun i => [.int .i64 (a2e0 i), .int .i64 (a2e1 i), .slice (a2e2 i) (a2e3 i) (a2e4 i)])) (a2F0 : ∀ i, i < a2l → (Lit.int .i64 (a2e0 i)).wf = true) (a2F1 : ∀ i, i < a2l → (Lit.int .i64 (a2e1 i)).wf = true) (a2F2 : ∀ i, i < a2l → SliceOf w (a2e2 i) (a2e3 i) (a2e4 i) 1 (fun j => [.string ((a2e5 i) j)])) (a2F3 : ∀ i, i < a2l → (∀ j, j < (a2e3 i) → ((a2e5 i) j).size ≤ maxLen)) :
    Calls Try.prog 7 #[.int .i64 a0, .int .i64 a1, .slice a2a a2l a2c] w fun e w' => e = .returned (.bool true) ∧ Below w.heap.size w w' := by
  obtain ⟨a, ha⟩ : ∃ a, clipI a0 1 1073741824 = a := ⟨_, rfl⟩
  obtain ⟨b, hb⟩ : ∃ b, clipI a1 1 1073741824 = b := ⟨_, rfl⟩
  have a01 : 1 ≤ a ∧ a ≤ 1073741824 := by rw [← ha]; unfold clipI; omega
  have b01 : 1 ≤ b ∧ b ≤ 1073741824 := by rw [← hb]; unfold clipI; omega
  have HNew := Lib.hid (fun W => queue_NewV a0 a1 a b ha hb W)
  have HRN := Lib.hid (fun W => ref20_New a0 a1 a b ha hb W)
  have HS := Lib.hid a2S
  have HF2 := Lib.hid a2F2
  have HF3 := Lib.hid a2F3
  have hl2 := a2S.size_le
  clear ha hb a2S a2F0 a2F1 a2F2 a2F3 a0w a1w
  go_enter Try.func7, Try.ntmps7
  go_wp2_with fail
  refine (law20_awake _).mono ?_
  rintro e w1 ⟨rfl, B1⟩
  go_wp2_with fail
  refine (HNew.out _).mono ?_
  rintro e w2 ⟨rfl, q2, B2⟩
  obtain ⟨g, hg⟩ : ∃ g, w1.heap.size = g := ⟨_, rfl⟩
  rw [hg] at q2 B2 ⊢
  go_wp2_with fail
  refine (HRN.out _).mono ?_
  rintro e w3 ⟨rfl, B3⟩
  have q3 := q2.below B3
  have s1 := B1.size
  have s3 := B3.size
  have gl := q2.blk.lt
  have K := Blk.new w3 58 #[.int .i64 a, .int .i64 b, .slice none 0 0]
  have B3' : Below w3.heap.size w3 (w3.alloc (.cells #[.int .i64 a, .int .i64 b, .slice none 0 0] 58)) := (Below.refl _ w3).alloc (Nat.le_refl _) _
  obtain ⟨xb, hxb⟩ : ∃ xb, w3.heap.size = xb := ⟨_, rfl⟩
  have HB : Both (w3.alloc (.cells #[.int .i64 a, .int .i64 b, .slice none 0 0] 58)) g xb a b [] (.slice none 0 0) (.slice none 0 0) :=
    ⟨q3.below B3', ⟨rfl, .inl ⟨rfl, rfl⟩⟩, by rw [← hxb]; exact K, (fun k e => by cases e), (fun e => by cases e), by omega, (fun s h => by cases h), by simp; omega, by simp only [sumQ]; omega⟩
  have B03 : Below w.heap.size w (w3.alloc (.cells #[.int .i64 a, .int .i64 b, .slice none 0 0] 58)) := below_then (B1.trans ((B2.mono (by omega)).trans (B3.mono (by omega)))) B3' (Nat.le_refl _)
  have hgw : w.heap.size ≤ g := by omega
  have hxw : w.heap.size ≤ xb := by omega
  go_upto_region 4 with fail
  rw [hxb] at *
  generalize w3.alloc (.cells #[.int .i64 a, .int .i64 b, .slice none 0 0] 58) = w4 at *
  clear K B3' B1 B2 B3 q2 q3
  go_upto_region 7 with fail
  go_wp2_with fail
  go_loopw [10] (fun xi wr => ∃ (i : Nat) (l : List ByteArray) (v sv : Value), i ≤ a2l ∧ i ≤ 40 ∧ xi = .int .i64 i ∧ Both wr g xb a b l v sv ∧ l.length ≤ 6 * i ∧ (∀ k, v.ownBlock = some k → w.heap.size ≤ k) ∧ Below w.heap.size w wr) (fun xi _ => a2l - (intOf xi).toNat)
  case atStart => exact ⟨0, [], _, _, by omega, by omega, rfl, HB, by simp, (fun k e => by cases e), B03⟩
  case round =>
    clear HB B03 gl
    obtain ⟨i, l, v, sv, hi, hi40, rfl, H, hl, hv, B⟩ := hrel
    by_cases hgo : i < a2l ∧ i < 40
    · obtain ⟨hlt, h40⟩ := hgo
      obtain ⟨bb, off, rfl, hbb, hcell⟩ := HS.out.at3x (by omega)
      obtain ⟨hc0, hc1, hc2⟩ := hcell i hlt
      have SA := HF2.out i hlt
      have SF := HF3.out i hlt
      obtain ⟨kd, hkd⟩ : ∃ kd, a2e0 i = kd := ⟨_, rfl⟩
      obtain ⟨N, hN⟩ : ∃ N, a2e1 i = N := ⟨_, rfl⟩
      obtain ⟨la, hla⟩ : ∃ la, a2e2 i = la := ⟨_, rfl⟩
      obtain ⟨ll, hll⟩ : ∃ ll, a2e3 i = ll := ⟨_, rfl⟩
      obtain ⟨lc, hlc⟩ : ∃ lc, a2e4 i = lc := ⟨_, rfl⟩
      obtain ⟨ss, hss⟩ : ∃ ss, a2e5 i = ss := ⟨_, rfl⟩
      rw [hkd] at hc0
      rw [hN] at hc1
      rw [hla, hll, hlc] at hc2
      rw [hla, hll, hlc, hss] at SA
      rw [hll, hss] at SF
      have SA' := Lib.hid SA
      have SF' := Lib.hid SF
      clear hkd hN hla hll hlc hss hcell SA SF
      have i0 : (0 : Int) ≤ (i : Int) := by omega
      have i1 : (i : Int) < (a2l : Int) := by omega
      have i2 : (i : Int) < 40 := by omega
      have wk : IntKind.i64.wrap ((i : Int) + 1) = ((i + 1 : Nat) : Int) := by rw [IntWalk.i64_in _ (by omega)]; omega
      go_upto_region 10 with fail
      have hne : Nonempty (UWF (CDo wr g xb a b l v sv)) := ⟨⟨fun _ => false, fun _ => undef, wr.drew, CDo.start H _⟩⟩
      have sB := B.size
      refine wp_region_free [(0, 1, some 1), (2, 4, some 6), (7, 3, some 10), (11, 1, none)] (CDo wr g xb a b l v sv) (GDo a b sv) (G0Do a b sv) (by kernel_rfl) (by kernel_rfl) ?_ ?_ ?_ ?_
      · intro z hz LL G W hC
        simp [moversI] at hz
        exact hC.quiet (by omega) (by omega) (by omega)
      · exact CDo.start H _
      · exact G0Do_ok a b sv
      · intro G hG
        have g1 := (hG 1).load rfl
        obtain ⟨ra, rn, rc, g6⟩ := (hG 6).call rfl
        have E := fun (gw : UWF (CDo wr g xb a b l v sv)) => B.trans (gw.holds.down sB hgw hxw hv)
        have E0 := fun (gw : UWF (CDo wr g xb a b l v sv)) => ((E gw).cell (p := ⟨bb, off + i * 3, none⟩) hbb).trans hc0
        have E1 := fun (gw : UWF (CDo wr g xb a b l v sv)) => ((E gw).cell (p := ⟨bb, off + i * 3 + 1, none⟩) hbb).trans hc1
        have E2 := fun (gw : UWF (CDo wr g xb a b l v sv)) => ((E gw).cell (p := ⟨bb, off + i * 3 + 2, none⟩) hbb).trans hc2
        simp only [walkF, List.drop_zero, List.drop_succ_cons, List.take_succ_cons, List.take_zero, List.toList_toArray]; (repeat (go_big_quiet_step (fail))); refine wpQuiet_nil ?_
        refine ⟨_, _, _, _, _, _, rfl, .inl ⟨rfl, ?_, ?_⟩⟩
        · intro LL W hL hA hC
          have k0 := (hC.x0 (hC.xb0 hL)).cell
          simp at k0
          refine ⟨?_⟩; go_simp; simp only [movesToUpon]
          exact ⟨⟨fun _ => rfl, (fun e => by cases e)⟩, hC.loaded hL _⟩
        · intro K' hK'; dsimp only at hK'; rw [g1]; go_big_quiet_op; go_big_quiet_on; (repeat (go_big_quiet_step (fail))); refine wpQuiet_nil ?_
          refine ⟨_, _, _, _, _, _, rfl, .inl ⟨rfl, ?_, ?_⟩⟩
          · intro LL W hL hA hC
            refine ⟨?_⟩; go_simp; simp only [movesToUpon]
            exact hC.call H hL kd N la ll lc ss (SA'.out.below (B.trans (hC.down sB hgw hxw hv))) SF'.out (by omega) (by omega) (by omega) (by omega) (by omega)
          · intro K' hK'; dsimp only at hK'; rw [g6]; go_big_quiet_op; go_big_quiet_on; (repeat (go_big_quiet_step (fail))); refine wpQuiet_nil ?_
            refine ⟨_, _, _, _, _, _, rfl, .inl ⟨rfl, ?_, ?_⟩⟩
            · intro LL W hL hA hC
              have k0 := hC.x0 hL
              have ck0 := k0.cell
              have fk0 := k0.frozen
              simp at ck0
              obtain ⟨wS, eS, KS, BS, hkS⟩ := three_set k0 rfl (.int .i64 a) (.int .i64 b) (.slice ra rn rc) 0 (Nat.zero_le _)
              refine ⟨?_⟩; go_simp; simp only [movesToUpon]
              exact ⟨⟨(fun e => by cases e), (fun e => by cases e)⟩, hC.stored H (hA 1 (by kernel_rfl)) (hA 6 (by kernel_rfl)) g6 KS BS hkS _⟩
            · intro K' hK'; dsimp only at hK'; go_big_quiet_op; go_big_quiet_on; (repeat (go_big_quiet_step (fail))); refine wpQuiet_nil ?_
              intro LL w9 hL hC
              have B9 := hC.down sB hgw hxw hv
              have s9 := hC.size
              obtain ⟨s', v', l', e6, H9, hl9, hr9⟩ := hC.done H (hL 6 (by decide)) (hL 10 (by decide))
              rw [g6] at e6
              simp only [Value.tuple.injEq, Array.mk.injEq, List.cons.injEq, Value.agg.injEq, and_true, true_and] at e6
              subst e6
              obtain ⟨s, hs⟩ : ∃ s, Value.slice ra rn rc = s := ⟨_, rfl⟩
              rw [hs] at H9 ⊢
              clear hs
              clear hC hL hG g1 g6 E E0 E1 E2 hne hc0 hc1 hc2
              have hv9 : ∀ k, v'.ownBlock = some k → w.heap.size ≤ k := fun k hk => by
                rcases hr9 k hk with h1 | h1
                · exact hv k h1
                · omega
              have B09 := B.trans B9
              clear B9 B hr9 hv H
              obtain ⟨n', hn'⟩ : ∃ n, l'.length = n := ⟨_, rfl⟩
              obtain ⟨y', hy'⟩ : ∃ y, sumQ l' = y := ⟨_, rfl⟩
              have hm1 := H9.most
              have hm2 := H9.room
              have HI := Lib.hid (fun (gx : Ext w9) => law20_Is g (.agg #[.int .i64 a, .int .i64 b, s]) a b l' v' s gx.world (H9.q.below gx.below) ⟨rfl, (H9.below gx.below).own⟩ (by omega) (by omega) (by omega) (by omega) (by omega) (fun s hs => by have := H9.small s hs; omega) (by omega))
              have HLn := Lib.hid (fun (gx : Ext w9) => queue_Len 0 g a b (sumQ l') l' gx.world (H9.q.below gx.below).at)
              have HBy := Lib.hid (fun (gx : Ext w9) => queue_Bytes 0 g a b (sumQ l') l' gx.world (H9.q.below gx.below).at)
              rw [hn'] at HLn hm1
              rw [hy'] at HBy hm2
              have X0 := fun (gx : Ext w9) => gx.cell (H9.x.cell 0) H9.x.lt
              have X1 := fun (gx : Ext w9) => gx.cell (H9.x.cell 1) H9.x.lt
              have X2 := fun (gx : Ext w9) => gx.cell (H9.x.cell 2) H9.x.lt
              simp at X0 X1 X2
              have t1 : ¬ a < (n' : Int) := by omega
              have t2 : ¬ b < y' := by omega
              go_upto_region 11 with fail
              refine wp_region_ext (by kernel_rfl) (by kernel_rfl) ?_; (repeat (go_big_quiet_step ((first | (go_at_call 26; with_reducible exact calls_ext _ (HI.out _)) | (go_at_call 27; with_reducible exact calls_ext_same _ (HLn.out _)) | (go_at_call 23; with_reducible exact calls_ext_same _ (HBy.out _)))))); refine wpQuiet_nil ?_; rintro _ ⟨gq, rfl⟩
              have BX := gq.below
              have HX := H9.below BX
              generalize gq.world = wx at *
              clear X0 X1 X2 HI HLn HBy H9
              have BE := below_then B09 BX (Nat.le_refl _)
              go_wp2_with fail
              go_roundw
              case rel => exact ⟨i + 1, l', v', s, by omega, by omega, by go_num, HX, by omega, hv9, BE⟩
              case measure => simp only [intOf]; omega
    · have hex : (i : Int) < (a2l : Int) → ¬ (i : Int) < 40 := by omega
      by_cases h1 : i < a2l
      · have i1 : (i : Int) < (a2l : Int) := by omega
        have i2 : ¬ (i : Int) < 40 := by omega
        go_wp2_with fail
        go_ret
        exact ⟨rfl, B⟩
      · have i1 : ¬ (i : Int) < (a2l : Int) := by omega
        go_wp2_with fail
        go_ret
        exact ⟨rfl, B⟩
end Go.Proofs.Ytomhnegfemdcdaa
