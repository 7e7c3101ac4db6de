/- HistoryClones, walked. No condition. (Printed by gen_hda.py.) -/
import Derived.Test.YtonamlgipoannaaHistoryPlays
namespace Go.Proofs.Ytonamlgipoannaa
open Go.RowKit BigFrame
attribute [local go_sem ↓] Go.wp_at_zero Go.wp_at_succ

/-- While the clone's parts are drawn. -/
structure CClH (w0 : World) (a b c : Int) (l : List HR) (s0 : Value) (L : Nat → Bool) (G : Nat → Value) (W : World) : Prop where
  below : Below w0.heap.size w0 W
  anc : L 5 = true → L 3 = true
  st : ∃ (gc : Nat) (v' : Value) (xb : Nat), (L 1 = true → G 1 = .pointer (some ⟨gc, 0, none⟩) ∧ HV W gc a b c l v' ∧ w0.heap.size ≤ gc ∧ ∀ k, v'.ownBlock = some k → w0.heap.size ≤ k) ∧
    (L 3 = true → G 3 = .pointer (some ⟨xb, 0, none⟩) ∧ w0.heap.size ≤ xb ∧ xb < W.heap.size ∧ (L 5 = false → Blk W xb 43 #[.int .i64 0, .int .i64 0, .int .i64 0, .slice none 0 0]) ∧ (L 5 = true → Blk W xb 43 #[.int .i64 a, .int .i64 b, .int .i64 c, s0])) ∧
    (L 1 = true → L 3 = true → gc ≠ xb ∧ v'.ownBlock ≠ some xb)
def GClH (q : Nat) (v : Value) : Prop := (q = 1 ∨ q = 3) → ∃ n, v = .pointer (some ⟨n, 0, none⟩)
section
variable {w0 W W' : World} {a b c : Int} {l : List HR} {s0 : Value} {L : Nat → Bool} {G : Nat → Value}
theorem CClH.start (w0 : World) (G : Nat → Value) : CClH w0 a b c l s0 (fun _ => false) G w0.drew :=
  ⟨(Below.refl _ _).drew, (fun e => by cases e), 0, undef, 0, (fun e => by cases e), (fun e => by cases e), (fun e => by cases e)⟩
theorem CClH.quiet (h : CClH w0 a b c l s0 L G W) {z : Nat} (h1 : z ≠ 1) (h3 : z ≠ 3) (h5 : z ≠ 5) : CClH w0 a b c l s0 (upd L z) G W := by
  have e1 : upd L z 1 = L 1 := upd_ne L (by omega)
  have e3 : upd L z 3 = L 3 := upd_ne L (by omega)
  have e5 : upd L z 5 = L 5 := upd_ne L (by omega)
  obtain ⟨hb, ha, gc, v', xb, s1, s3, s13⟩ := h
  refine ⟨hb, by rw [e5, e3]; exact ha, gc, v', xb, ?_⟩
  rw [e1, e3, e5]
  exact ⟨s1, s3, s13⟩
theorem CClH.call (h : CClH w0 a b c l s0 L G W) (hL : L 1 = false) {gc : Nat} {v' : Value} (hq : HV W' gc a b c l v') (hg : W.heap.size ≤ gc) (hv : ∀ k, v'.ownBlock = some k → W.heap.size ≤ k) (hB : Below W.heap.size W W') : CClH w0 a b c l s0 (upd L 1) (upF G 1 (.pointer (some ⟨gc, 0, none⟩))) W' := by
  have e3 : upd L 1 3 = L 3 := upd_ne L (by omega)
  have e5 : upd L 1 5 = L 5 := upd_ne L (by omega)
  obtain ⟨hb, ha, gc0, v0, xb, s1, s3, s13⟩ := h
  have hs := hb.size
  have hs2 := hB.size
  refine ⟨below_then hb hB (Nat.le_refl _), by rw [e5, e3]; exact ha, gc, v', xb, fun _ => ⟨upF_same _ _ _, hq, by omega, fun k hk => by have := hv k hk; omega⟩, fun e => ?_, fun _ e => ?_⟩
  · rw [e3] at e
    obtain ⟨t1, t2, t3, t4, t5⟩ := s3 e
    rw [e5]
    exact ⟨by rw [upF_ne _ _ (by decide)]; exact t1, t2, by omega, fun e => (t4 e).below hB t3, fun e => (t5 e).below hB t3⟩
  · rw [e3] at e
    obtain ⟨t1, t2, t3, t4, t5⟩ := s3 e
    exact ⟨by omega, fun e2 => by have := hv _ e2; omega⟩
theorem CClH.made (h : CClH w0 a b c l s0 L G W) (hL : L 3 = false) : CClH w0 a b c l s0 (upd L 3) (upF G 3 (.pointer (some ⟨W.heap.size, 0, none⟩))) (W.alloc (.cells #[.int .i64 0, .int .i64 0, .int .i64 0, .slice none 0 0] 43)) := by
  have e1 : upd L 3 1 = L 1 := upd_ne L (by omega)
  have e5 : upd L 3 5 = L 5 := upd_ne L (by omega)
  obtain ⟨hb, ha, gc, v', xb, s1, s3, s13⟩ := h
  have hs := hb.size
  have h5 : L 5 = false := by
    cases e : L 5
    · rfl
    · have := ha e; rw [hL] at this; cases this
  refine ⟨hb.alloc hs _, (fun _ => upd_at _ _), gc, v', W.heap.size, fun e => ?_, fun _ => ⟨upF_same _ _ _, hs, by simp, fun _ => Blk.new _ _ _, fun e => ?_⟩, fun e _ => ?_⟩
  · rw [e1] at e
    obtain ⟨t1, t2, t3, t4⟩ := s1 e
    exact ⟨by rw [upF_ne _ _ (by decide)]; exact t1, t2.below ((Below.refl _ W).alloc (Nat.le_refl _) _), t3, t4⟩
  · rw [e5, h5] at e; cases e
  · rw [e1] at e
    obtain ⟨t1, t2, t3, t4⟩ := s1 e
    have := t2.blk.lt
    exact ⟨by omega, fun e2 => by have := (t2.own.lt _ e2).2; omega⟩
theorem CClH.stored (h : CClH w0 a b c l s0 L G W) (h3 : L 3 = true) {xb : Nat} (hG : G 3 = .pointer (some ⟨xb, 0, none⟩)) (K : Blk W' xb 43 #[.int .i64 a, .int .i64 b, .int .i64 c, s0]) (hB : Below w0.heap.size W W') (hk : ∀ k, k ≠ xb → W'.heap[k]? = W.heap[k]?) (u : Value) : CClH w0 a b c l s0 (upd L 5) (upF G 5 u) W' := by
  have e1 : upd L 5 1 = L 1 := upd_ne L (by omega)
  have e3 : upd L 5 3 = L 3 := upd_ne L (by omega)
  obtain ⟨hb, ha, gc, v', xb0, s1, s3, s13⟩ := h
  obtain ⟨t1, t2, t3, t4, t5⟩ := s3 h3
  rw [hG] at t1
  simp only [Value.pointer.injEq, Option.some.injEq, Addr.mk.injEq, and_true] at t1
  subst t1
  refine ⟨hb.trans hB, fun _ => by rw [e3]; exact h3, gc, v', xb, fun e => ?_, fun _ => ⟨by rw [upF_ne _ _ (by decide)]; exact hG, t2, K.lt, (fun e => by rw [upd_at] at e; cases e), fun _ => K⟩, fun e _ => ?_⟩
  · rw [e1] at e
    obtain ⟨r1, r2, r3, r4⟩ := s1 e
    obtain ⟨n1, n2⟩ := s13 e h3
    exact ⟨by rw [upF_ne _ _ (by decide)]; exact r1, r2.far hk n1 n2, r3, r4⟩
  · rw [e1] at e
    exact s13 e h3
theorem CClH.xb5 (h : CClH w0 a b c l s0 L G W) (h3 : L 3 = true) (h5 : L 5 = false) {xb : Nat} (hG : G 3 = .pointer (some ⟨xb, 0, none⟩)) : w0.heap.size ≤ xb ∧ Blk W xb 43 #[.int .i64 0, .int .i64 0, .int .i64 0, .slice none 0 0] := by
  obtain ⟨gc, v', xb0, s1, s3, s13⟩ := h.st
  obtain ⟨t1, t2, t3, t4, t5⟩ := s3 h3
  rw [hG] at t1
  simp only [Value.pointer.injEq, Option.some.injEq, Addr.mk.injEq, and_true] at t1
  subst t1
  exact ⟨t2, t4 h5⟩
end
set_option maxRecDepth 8000 in
set_option maxHeartbeats 16000000 in
theorem HistoryClones_walk (a0a : Option Addr) (a0l a0c : Nat) (a0e0 : Nat → Int) (a0e1 : Nat → Int) (a0e2 : Nat → Int) (a0e3 : Nat → ByteArray) (a1a : Option Addr) (a1l a1c : Nat) (a1e0 : Nat → Int) (a1e1 : Nat → Int) (a1e2 : Nat → Int) (a1e3 : Nat → ByteArray) (w : World) (a0S : SliceOf w a0a a0l a0c 4 (fun i => [.int .i64 (a0e0 i), .int .i64 (a0e1 i), .int .i64 (a0e2 i), .string (a0e3 i)])) (a0F0 : ∀ i, i < a0l → (Lit.int .i64 (a0e0 i)).wf = true) (a0F1 : ∀ i, i < a0l → (Lit.int .i64 (a0e1 i)).wf = true) (a0F2 : ∀ i, i < a0l → (Lit.int .i64 (a0e2 i)).wf = true) (a0F3 : ∀ i, i < a0l → (a0e3 i).size ≤ maxLen) (a1S : SliceOf w a1a a1l a1c 4 (fun i => [.int .i64 (a1e0 i), .int .i64 (a1e1 i), .int .i64 (a1e2 i), .string (a1e3 i)])) (a1F0 : ∀ i, i < a1l → (Lit.int .i64 (a1e0 i)).wf = true) (a1F1 : ∀ i, i < a1l → (Lit.int .i64 (a1e1 i)).wf = true) (a1F2 : ∀ i, i < a1l → (Lit.int .i64 (a1e2 i)).wf = true) (a1F3 : ∀ i, i < a1l → (a1e3 i).size ≤ maxLen) :
    Calls Try.prog 6 #[.slice a0a a0l a0c, .slice a1a a1l a1c] w fun e w' => e = .returned (.bool true) ∧ Below w.heap.size w w' := by
  have HNew := Lib.hid (fun W => hist_New 5 2 5 2 (by decide) (by decide) W)
  have HRN := Lib.hid (fun W => ref21_New 5 2 5 2 (by decide) (by decide) W)
  have HS0 := Lib.hid a0S
  have HF30 := Lib.hid a0F3
  have HS1 := Lib.hid a1S
  have HF31 := Lib.hid a1F3
  have hl0 := a0S.size_le
  have hl1 := a1S.size_le
  clear a0S a0F0 a0F1 a0F2 a0F3 a1S a1F0 a1F1 a1F2 a1F3
  go_enter Try.func6, Try.ntmps6
  go_wp2_with fail
  refine (law21_awake _).mono ?_
  rintro e w1 ⟨rfl, B1⟩
  go_wp2_with fail
  refine (HNew.out _).mono ?_
  rintro e w2 ⟨rfl, q2, B2⟩
  obtain ⟨g, hg⟩ : ∃ g, w1.heap.size = g := ⟨_, rfl⟩
  rw [hg] at q2 B2 ⊢
  go_wp2_with fail
  refine (HRN.out _).mono ?_
  rintro e w3 ⟨rfl, B3⟩
  have q3 := q2.below B3
  have s1 := B1.size
  have s3 := B3.size
  have gl := q2.blk.lt
  have K := Blk.new w3 43 #[.int .i64 5, .int .i64 2, .int .i64 0, .slice none 0 0]
  have B3' : Below w3.heap.size w3 (w3.alloc (.cells #[.int .i64 5, .int .i64 2, .int .i64 0, .slice none 0 0] 43)) := (Below.refl _ w3).alloc (Nat.le_refl _) _
  obtain ⟨xb, hxb⟩ : ∃ xb, w3.heap.size = xb := ⟨_, rfl⟩
  have HB : BothH (w3.alloc (.cells #[.int .i64 5, .int .i64 2, .int .i64 0, .slice none 0 0] 43)) g xb 5 2 0 [] (.slice none 0 0) none 0 :=
    ⟨q3.below B3', rowat_nil _, by rw [← hxb]; exact K, (fun k o e => by cases e), (fun e => by cases e), by omega, ⟨rising_nil, (fun s h => by cases h)⟩, by first | (simp; done) | (simp; omega)⟩
  have B03 : Below w.heap.size w (w3.alloc (.cells #[.int .i64 5, .int .i64 2, .int .i64 0, .slice none 0 0] 43)) := below_then (B1.trans ((B2.mono (by omega)).trans (B3.mono (by omega)))) B3' (Nat.le_refl _)
  have hgw : w.heap.size ≤ g := by omega
  have hxw : w.heap.size ≤ xb := by omega
  go_upto_region 4 with fail
  rw [hxb] at *
  generalize w3.alloc (.cells #[.int .i64 5, .int .i64 2, .int .i64 0, .slice none 0 0] 43) = w4 at *
  clear K B3' B1 B2 B3 q2 q3
  go_upto_region 7 with fail
  go_wp2_with fail
  go_loopw [8] (fun xi wr => ∃ (i : Nat) (c : Int) (l : List HR) (v : Value) (sa : Option Addr) (sc : Nat), i ≤ a0l ∧ i ≤ 30 ∧ xi = .int .i64 i ∧ BothH wr g xb 5 2 c l v sa sc ∧ l.length ≤ i ∧ 0 ≤ c ∧ c ≤ i ∧ (∀ k, v.ownBlock = some k → w.heap.size ≤ k) ∧ Below w.heap.size w wr) (fun xi _ => a0l - (intOf xi).toNat)
  case atStart => exact ⟨0, 0, [], _, _, _, by omega, by omega, rfl, HB, by simp, by omega, by omega, (fun k e => by cases e), B03⟩
  case round =>
    clear HB B03 gl
    obtain ⟨i, c, l, v, sa, sc, hi, hi40, rfl, H, hl, hc0', hc1', hv, B⟩ := hrel
    by_cases hgo : i < a0l ∧ i < 30
    · obtain ⟨hlt, h40⟩ := hgo
      obtain ⟨bb, off, rfl, hbb, hcell⟩ := HS0.out.at4x (by omega)
      obtain ⟨hc0, hc1, hc2, hc3⟩ := hcell i hlt
      have SF := HF30.out i hlt
      obtain ⟨kd, hkd⟩ : ∃ kd, a0e0 i = kd := ⟨_, rfl⟩
      obtain ⟨sq, hsq⟩ : ∃ N, a0e1 i = N := ⟨_, rfl⟩
      obtain ⟨pa, hpa⟩ : ∃ N, a0e2 i = N := ⟨_, rfl⟩
      obtain ⟨data, hdata⟩ : ∃ N, a0e3 i = N := ⟨_, rfl⟩
      rw [hkd] at hc0
      rw [hsq] at hc1
      rw [hpa] at hc2
      rw [hdata] at hc3 SF
      have SF' := Lib.hid SF
      clear hkd hsq hpa hdata hcell SF
      have i0 : (0 : Int) ≤ (i : Int) := by omega
      have i1 : (i : Int) < (a0l : Int) := by omega
      have i2 : (i : Int) < 30 := by omega
      have wk : IntKind.i64.wrap ((i : Int) + 1) = ((i + 1 : Nat) : Int) := by rw [IntWalk.i64_in _ (by omega)]; omega
      obtain ⟨n, hn⟩ : ∃ n, l.length = n := ⟨_, rfl⟩
      have HN := Lib.hid hn
      have hll : n ≤ 60 := by omega
      clear hn
      go_upto_region 10 with fail
      have hne : Nonempty (UWF (CDoH wr g xb 5 2 c l v sa sc)) := ⟨⟨fun _ => false, fun _ => undef, wr.drew, CDoH.start H _⟩⟩
      have sB := B.size
      refine wp_region_free [(0, 1, some 1), (2, 4, some 6), (7, 3, some 10), (11, 1, none)] (CDoH wr g xb 5 2 c l v sa sc) (GDoH 5 2 c (.slice sa l.length sc)) (G0DoH 5 2 c (.slice sa l.length sc)) (by kernel_rfl) (by kernel_rfl) ?_ ?_ ?_ ?_
      · intro z hz LL G W hC
        simp [moversI] at hz
        exact hC.quiet (by omega) (by omega) (by omega)
      · exact CDoH.start H _
      · exact G0DoH_ok 5 2 c (.slice sa l.length sc)
      · intro G hG
        have g1 := (hG 1).load rfl
        obtain ⟨c1, ra, rn, rc, g6⟩ := (hG 6).call rfl
        have E := fun (gw : UWF (CDoH wr g xb 5 2 c l v sa sc)) => B.trans (gw.holds.down sB hgw hxw hv)
        have E0 := fun (gw : UWF (CDoH wr g xb 5 2 c l v sa sc)) => ((E gw).cell (p := ⟨bb, off + i * 4, none⟩) hbb).trans hc0
        have E1 := fun (gw : UWF (CDoH wr g xb 5 2 c l v sa sc)) => ((E gw).cell (p := ⟨bb, off + i * 4 + 1, none⟩) hbb).trans hc1
        have E2 := fun (gw : UWF (CDoH wr g xb 5 2 c l v sa sc)) => ((E gw).cell (p := ⟨bb, off + i * 4 + 2, none⟩) hbb).trans hc2
        have E3 := fun (gw : UWF (CDoH wr g xb 5 2 c l v sa sc)) => ((E gw).cell (p := ⟨bb, off + i * 4 + 3, none⟩) hbb).trans hc3
        simp only [walkF, List.drop_zero, List.drop_succ_cons, List.take_succ_cons, List.take_zero, List.toList_toArray]; (repeat (go_big_quiet_step (fail))); refine wpQuiet_nil ?_
        refine ⟨_, _, _, _, _, _, rfl, .inl ⟨rfl, ?_, ?_⟩⟩
        · intro LL W hL hA hC
          have k0 := (hC.x0 (hC.xb0 hL)).cell
          simp at k0
          refine ⟨?_⟩; go_simp; simp only [movesToUpon]
          exact ⟨⟨fun _ => rfl, (fun e => by cases e)⟩, hC.loaded hL _⟩
        · intro K' hK'; dsimp only at hK'; rw [g1]; go_big_quiet_op; go_big_quiet_on; (repeat (go_big_quiet_step (fail))); refine wpQuiet_nil ?_
          refine ⟨_, _, _, _, _, _, rfl, .inl ⟨rfl, ?_, ?_⟩⟩
          · intro LL W hL hA hC
            refine ⟨?_⟩; go_simp; simp only [movesToUpon]
            exact hC.call H hL kd sq pa data (by omega) SF'.out (by omega) (by omega) (by omega) (by have := HN.out; omega)
          · intro K' hK'; dsimp only at hK'; rw [g6]; go_big_quiet_op; go_big_quiet_on; (repeat (go_big_quiet_step (fail))); refine wpQuiet_nil ?_
            refine ⟨_, _, _, _, _, _, rfl, .inl ⟨rfl, ?_, ?_⟩⟩
            · intro LL W hL hA hC
              have k0 := hC.x0 hL
              have ck0 := k0.cell
              have fk0 := k0.frozen
              simp at ck0
              obtain ⟨wS, eS, KS, BS, hkS⟩ := four_set k0 rfl (.int .i64 5) (.int .i64 2) (.int .i64 c1) (.slice ra rn rc) 0 (Nat.zero_le _)
              refine ⟨?_⟩; go_simp; simp only [movesToUpon]
              exact ⟨⟨(fun e => by cases e), (fun e => by cases e)⟩, hC.stored H (hA 1 (by kernel_rfl)) (hA 6 (by kernel_rfl)) g6 KS BS hkS _⟩
            · intro K' hK'; dsimp only at hK'; go_big_quiet_op; go_big_quiet_on; (repeat (go_big_quiet_step (fail))); refine wpQuiet_nil ?_
              intro LL w9 hL hC
              have B9 := hC.down sB hgw hxw hv
              have s9 := hC.size
              obtain ⟨l', v', hrn, H9, hl9, hc9, hc9', hr9⟩ := hC.done H (hL 6 (by decide)) (hL 10 (by decide)) g6
              have HRN := Lib.hid hrn
              clear hrn
              clear hC hL hG g1 g6 E E0 E1 E2 E3 hne hc0 hc1 hc2 hc3
              have hv9 : ∀ k, v'.ownBlock = some k → w.heap.size ≤ k := fun k hk => by
                rcases hr9 k hk with h1 | h1
                · exact hv k h1
                · omega
              have B09 := B.trans B9
              clear B9 B hr9 hv H

              go_wp2_with fail
              go_roundw
              case rel => exact ⟨i + 1, c1, l', v', ra, rc, by omega, by omega, by go_num, H9, by have := HN.out; omega, by omega, by omega, hv9, B09⟩
              case measure => simp only [intOf]; omega
    · have hex : (i : Int) < (a0l : Int) ∧ ¬ (i : Int) < 30 ∨ ¬ (i : Int) < (a0l : Int) := by omega
      have hlm : l.length ≤ 30 := by omega
      have hcm : c ≤ 30 := by omega
      clear hgo
      obtain ⟨wl, hwl⟩ : ∃ wl, wl = wr := ⟨_, rfl⟩
      subst hwl
      have HCl := Lib.hid (fun (W : World) (q : HV W g 5 2 c l v) => hist_Clone g 5 2 c l v W q (by omega))
      have hsB := B.size
      obtain ⟨nn, hs0⟩ : ∃ nn, l.length = nn := ⟨_, rfl⟩
      have HX := H.x
      rw [hs0] at HX
      have HS0' := Lib.hid hs0
      clear hs0
      rcases hex with ⟨i1, i2⟩ | i1
      all_goals
        go_upto_region 13 with fail
        clear i1
        try clear i2
        have hne : Nonempty (UWF (CClH wl 5 2 c l (.slice sa nn sc))) := ⟨⟨fun _ => false, fun _ => undef, wl.drew, CClH.start wl _⟩⟩
        refine wp_region_free [(0, 1, some 1), (2, 1, some 3), (4, 1, some 5), (6, 0, none)] (CClH wl 5 2 c l (.slice sa nn sc)) GClH (fun _ => .pointer (some ⟨0, 0, none⟩)) (by kernel_rfl) (by kernel_rfl) ?_ ?_ ?_ ?_
        · intro z hz LL G W hC
          simp [moversI] at hz
          exact hC.quiet (by omega) (by omega) (by omega)
        · exact CClH.start wl _
        · intro z _
          exact ⟨0, rfl⟩
        · intro G hG
          obtain ⟨gc, g1⟩ := hG 1 (.inl rfl)
          obtain ⟨x2, g3⟩ := hG 3 (.inr rfl)
          have E0 := fun (gw : UWF (CClH wl 5 2 c l (.slice sa nn sc))) => (gw.holds.below.cell (p := ⟨xb, 0, none⟩) HX.lt).trans (HX.cell 0)
          have E1 := fun (gw : UWF (CClH wl 5 2 c l (.slice sa nn sc))) => (gw.holds.below.cell (p := ⟨xb, 1, none⟩) HX.lt).trans (HX.cell 1)
          have E2 := fun (gw : UWF (CClH wl 5 2 c l (.slice sa nn sc))) => (gw.holds.below.cell (p := ⟨xb, 2, none⟩) HX.lt).trans (HX.cell 2)
          have E3 := fun (gw : UWF (CClH wl 5 2 c l (.slice sa nn sc))) => (gw.holds.below.cell (p := ⟨xb, 3, none⟩) HX.lt).trans (HX.cell 3)
          simp at E0 E1 E2 E3
          simp only [walkF, List.drop_zero, List.drop_succ_cons, List.take_succ_cons, List.take_zero, List.toList_toArray]; (repeat (go_big_quiet_step (fail))); refine wpQuiet_nil ?_
          refine ⟨_, _, _, _, _, _, rfl, .inl ⟨rfl, ?_, ?_⟩⟩
          · intro LL W hL hA hC
            refine ⟨?_⟩; go_simp; simp only [movesToUpon]
            refine (HCl.out W (H.q.below hC.below)).mono ?_
            rintro e w' ⟨gc', rfl, v', q', hg', hv', hB'⟩
            exact ⟨_, rfl, (fun _ => ⟨_, rfl⟩), hC.call hL q' hg' hv' hB'⟩
          · intro K' hK'; dsimp only at hK'; rw [g1]; go_big_quiet_op; go_big_quiet_on; (repeat (go_big_quiet_step (fail))); refine wpQuiet_nil ?_
            refine ⟨_, _, _, _, _, _, rfl, .inl ⟨rfl, ?_, ?_⟩⟩
            · intro LL W hL hA hC
              refine ⟨?_⟩; go_simp; simp only [movesToUpon]
              exact ⟨(fun _ => ⟨_, rfl⟩), hC.made hL⟩
            · intro K' hK'; dsimp only at hK'; rw [g3]; go_big_quiet_op; go_big_quiet_on; (repeat (go_big_quiet_step (fail))); refine wpQuiet_nil ?_
              refine ⟨_, _, _, _, _, _, rfl, .inl ⟨rfl, ?_, ?_⟩⟩
              · intro LL W hL hA hC
                obtain ⟨hx0, k0⟩ := hC.xb5 (hA 3 (by kernel_rfl)) hL g3
                have ck0 := k0.cell
                have fk0 := k0.frozen
                simp at ck0
                obtain ⟨wS, eS, KS, BS, hkS⟩ := four_set k0 rfl (.int .i64 5) (.int .i64 2) (.int .i64 c) (.slice sa nn sc) wl.heap.size hx0
                refine ⟨?_⟩; go_simp; simp only [movesToUpon]
                exact ⟨(fun e => by rcases e with e | e <;> cases e), hC.stored (hA 3 (by kernel_rfl)) g3 KS BS hkS _⟩
              · intro K' hK'; dsimp only at hK'; go_big_quiet_op; go_big_quiet_on; (repeat (go_big_quiet_step (fail))); refine wpQuiet_nil ?_
                intro LL w9 hL hC
                obtain ⟨gc', v', x', s1', s3', s13'⟩ := hC.st
                obtain ⟨t1, q9, hgc, hv9⟩ := s1' (hL 1 (by decide))
                obtain ⟨t3, hx2, _, _, t5⟩ := s3' (hL 3 (by decide))
                obtain ⟨n1, n2⟩ := s13' (hL 1 (by decide)) (hL 3 (by decide))
                have K9 := t5 (hL 5 (by decide))
                rw [g1] at t1
                rw [g3] at t3
                simp only [Value.pointer.injEq, Option.some.injEq, Addr.mk.injEq, and_true] at t1 t3
                subst t1 t3
                have Bc := hC.below
                have h9 := H.below Bc
                rw [← HS0'.out] at K9
                have H2 : BothH w9 gc x2 5 2 c l v' sa sc := ⟨q9, h9.row, K9, fun k o hk => by
                  have := H.row.lt k o hk
                  exact ⟨fun e => by have := hv9 k e; omega, by omega, by omega⟩, n2, n1, H.inv, H.most⟩
                clear hC hL hG g1 g3 E0 E1 E2 E3 hne s1' s3' s13' t5 K9 q9 h9 HX
                go_wp2_with fail
                go_loopw [11] (fun xi wr => ∃ (i : Nat) (c : Int) (l : List HR) (v : Value) (sa : Option Addr) (sc : Nat), i ≤ a1l ∧ i ≤ 20 ∧ xi = .int .i64 i ∧ BothH wr gc x2 5 2 c l v sa sc ∧ l.length ≤ 30 + i ∧ 0 ≤ c ∧ c ≤ 30 + i ∧ (∀ k, v.ownBlock = some k → wl.heap.size ≤ k) ∧ Below wl.heap.size wl wr) (fun xi _ => a1l - (intOf xi).toNat)
                case atStart => exact ⟨0, c, l, _, _, _, by omega, by omega, rfl, H2, by omega, by omega, by omega, hv9, Bc⟩
                case round =>
                  clear H2 Bc hv9
                  have HH := Lib.hid H
                  have hlm' := Lib.hid hlm
                  have HBB := Lib.hid B
                  obtain ⟨l0, hl0'⟩ : ∃ l0, l0 = l := ⟨_, rfl⟩
                  obtain ⟨v0, hv0'⟩ : ∃ v0, v0 = v := ⟨_, rfl⟩
                  obtain ⟨c0, hc0''⟩ : ∃ c0, c0 = c := ⟨_, rfl⟩
                  obtain ⟨sa0, hsa0⟩ : ∃ z, z = sa := ⟨_, rfl⟩
                  obtain ⟨sc0, hsc0⟩ : ∃ z, z = sc := ⟨_, rfl⟩
                  subst hl0' hv0' hc0'' hsa0 hsc0
                  clear H hlm hv B hi hi40 hl n1 n2 HCl hc0' hc1' hcm
                  obtain ⟨i, c, l, v, sa, sc, hi, hi40, rfl, H, hl, hc0', hc1', hv, B⟩ := hrel
                  by_cases hgo : i < a1l ∧ i < 20
                  · obtain ⟨hlt, h40⟩ := hgo
                    obtain ⟨bb, off, rfl, hbb, hcell⟩ := HS1.out.at4x (by omega)
                    obtain ⟨hc0, hc1, hc2, hc3⟩ := hcell i hlt
                    have SF := HF31.out i hlt
                    obtain ⟨kd, hkd⟩ : ∃ kd, a1e0 i = kd := ⟨_, rfl⟩
                    obtain ⟨sq, hsq⟩ : ∃ N, a1e1 i = N := ⟨_, rfl⟩
                    obtain ⟨pa, hpa⟩ : ∃ N, a1e2 i = N := ⟨_, rfl⟩
                    obtain ⟨data, hdata⟩ : ∃ N, a1e3 i = N := ⟨_, rfl⟩
                    rw [hkd] at hc0
                    rw [hsq] at hc1
                    rw [hpa] at hc2
                    rw [hdata] at hc3 SF
                    have SF' := Lib.hid SF
                    clear hkd hsq hpa hdata hcell SF
                    have i0 : (0 : Int) ≤ (i : Int) := by omega
                    have i1 : (i : Int) < (a1l : Int) := by omega
                    have i2 : (i : Int) < 20 := by omega
                    have wk : IntKind.i64.wrap ((i : Int) + 1) = ((i + 1 : Nat) : Int) := by rw [IntWalk.i64_in _ (by omega)]; omega
                    obtain ⟨n, hn⟩ : ∃ n, l.length = n := ⟨_, rfl⟩
                    have HN := Lib.hid hn
                    have hll : n ≤ 60 := by omega
                    clear hn
                    go_upto_region 19 with fail
                    have hne : Nonempty (UWF (CDoH wr gc x2 5 2 c l v sa sc)) := ⟨⟨fun _ => false, fun _ => undef, wr.drew, CDoH.start H _⟩⟩
                    have sB := B.size
                    refine wp_region_free [(0, 1, some 1), (2, 4, some 6), (7, 3, some 10), (11, 1, none)] (CDoH wr gc x2 5 2 c l v sa sc) (GDoH 5 2 c (.slice sa l.length sc)) (G0DoH 5 2 c (.slice sa l.length sc)) (by kernel_rfl) (by kernel_rfl) ?_ ?_ ?_ ?_
                    · intro z hz LL G W hC
                      simp [moversI] at hz
                      exact hC.quiet (by omega) (by omega) (by omega)
                    · exact CDoH.start H _
                    · exact G0DoH_ok 5 2 c (.slice sa l.length sc)
                    · intro G hG
                      have g1 := (hG 1).load rfl
                      obtain ⟨c1, ra, rn, rc, g6⟩ := (hG 6).call rfl
                      have E := fun (gw : UWF (CDoH wr gc x2 5 2 c l v sa sc)) => (fun (W : World) (hb : Below wl.heap.size wr W) => (HBB.out.trans (B.mono hsB)).trans (hb.mono hsB)) _ (gw.holds.down sB hgc hx2 hv)
                      have E0 := fun (gw : UWF (CDoH wr gc x2 5 2 c l v sa sc)) => ((E gw).cell (p := ⟨bb, off + i * 4, none⟩) hbb).trans hc0
                      have E1 := fun (gw : UWF (CDoH wr gc x2 5 2 c l v sa sc)) => ((E gw).cell (p := ⟨bb, off + i * 4 + 1, none⟩) hbb).trans hc1
                      have E2 := fun (gw : UWF (CDoH wr gc x2 5 2 c l v sa sc)) => ((E gw).cell (p := ⟨bb, off + i * 4 + 2, none⟩) hbb).trans hc2
                      have E3 := fun (gw : UWF (CDoH wr gc x2 5 2 c l v sa sc)) => ((E gw).cell (p := ⟨bb, off + i * 4 + 3, none⟩) hbb).trans hc3
                      simp only [walkF, List.drop_zero, List.drop_succ_cons, List.take_succ_cons, List.take_zero, List.toList_toArray]; (repeat (go_big_quiet_step (fail))); refine wpQuiet_nil ?_
                      refine ⟨_, _, _, _, _, _, rfl, .inl ⟨rfl, ?_, ?_⟩⟩
                      · intro LL W hL hA hC
                        have k0 := (hC.x0 (hC.xb0 hL)).cell
                        simp at k0
                        refine ⟨?_⟩; go_simp; simp only [movesToUpon]
                        exact ⟨⟨fun _ => rfl, (fun e => by cases e)⟩, hC.loaded hL _⟩
                      · intro K' hK'; dsimp only at hK'; rw [g1]; go_big_quiet_op; go_big_quiet_on; (repeat (go_big_quiet_step (fail))); refine wpQuiet_nil ?_
                        refine ⟨_, _, _, _, _, _, rfl, .inl ⟨rfl, ?_, ?_⟩⟩
                        · intro LL W hL hA hC
                          refine ⟨?_⟩; go_simp; simp only [movesToUpon]
                          exact hC.call H hL kd sq pa data (by omega) SF'.out (by omega) (by omega) (by omega) (by have := HN.out; omega)
                        · intro K' hK'; dsimp only at hK'; rw [g6]; go_big_quiet_op; go_big_quiet_on; (repeat (go_big_quiet_step (fail))); refine wpQuiet_nil ?_
                          refine ⟨_, _, _, _, _, _, rfl, .inl ⟨rfl, ?_, ?_⟩⟩
                          · intro LL W hL hA hC
                            have k0 := hC.x0 hL
                            have ck0 := k0.cell
                            have fk0 := k0.frozen
                            simp at ck0
                            obtain ⟨wS, eS, KS, BS, hkS⟩ := four_set k0 rfl (.int .i64 5) (.int .i64 2) (.int .i64 c1) (.slice ra rn rc) 0 (Nat.zero_le _)
                            refine ⟨?_⟩; go_simp; simp only [movesToUpon]
                            exact ⟨⟨(fun e => by cases e), (fun e => by cases e)⟩, hC.stored H (hA 1 (by kernel_rfl)) (hA 6 (by kernel_rfl)) g6 KS BS hkS _⟩
                          · intro K' hK'; dsimp only at hK'; go_big_quiet_op; go_big_quiet_on; (repeat (go_big_quiet_step (fail))); refine wpQuiet_nil ?_
                            intro LL w9 hL hC
                            have B9 := hC.down sB hgc hx2 hv
                            have s9 := hC.size
                            obtain ⟨l', v', hrn, H9, hl9, hc9, hc9', hr9⟩ := hC.done H (hL 6 (by decide)) (hL 10 (by decide)) g6
                            have HRN := Lib.hid hrn
                            clear hrn
                            clear hC hL hG g1 g6 E E0 E1 E2 E3 hne hc0 hc1 hc2 hc3
                            have hv9 : ∀ k, v'.ownBlock = some k → wl.heap.size ≤ k := fun k hk => by
                              rcases hr9 k hk with h1 | h1
                              · exact hv k h1
                              · omega
                            have B09 := B.trans B9
                            clear B9 B hr9 hv H

                            go_wp2_with fail
                            go_roundw
                            case rel => exact ⟨i + 1, c1, l', v', ra, rc, by omega, by omega, by go_num, H9, by have := HN.out; omega, by omega, by omega, hv9, B09⟩
                            case measure => simp only [intOf]; omega
                  · have hex : (i : Int) < (a1l : Int) ∧ ¬ (i : Int) < 20 ∨ ¬ (i : Int) < (a1l : Int) := by omega
                    clear hgo
                    have H1 := HH.out.below B
                    have HI1 := Lib.hid (fun (W : World) (hb : Below wr.heap.size wr W) => law21_Is g (.agg #[.int .i64 5, .int .i64 2, .int .i64 c0, .slice sa0 nn sc0]) 5 2 c0 l0 v0 sa0 sc0 W (H1.q.below hb) ⟨by rw [HS0'.out], (H1.below hb).row⟩ (by have := hlm'.out; omega))
                    obtain ⟨nm, hs1⟩ : ∃ nn, l.length = nn := ⟨_, rfl⟩
                    have HI2 := Lib.hid (fun (W : World) (hb : Below wr.heap.size wr W) => law21_Is gc (.agg #[.int .i64 5, .int .i64 2, .int .i64 c, .slice sa nm sc]) 5 2 c l v sa sc W (H.q.below hb) ⟨by rw [hs1], (H.below hb).row⟩ (by omega))
                    have hx1 := H1.x
                    have hx2 := H.x
                    rw [HS0'.out] at hx1
                    rw [hs1] at hx2
                    clear hs1
                    have cx := hx1.cell
                    have cy := hx2.cell
                    simp at cx cy
                    have Bw := HBB.out.trans (B.mono hsB)
                    rcases hex with ⟨i1, i2⟩ | i1
                    all_goals
                      go_wp2_with fail
                      refine (HI1.out wr (Below.refl _ _)).mono ?_
                      rintro e w5 ⟨rfl, B5⟩
                      have K5 := hx2.below B5 hx2.lt
                      have cz := K5.cell
                      simp at cz
                      have Bw5 := below_then Bw B5 (Nat.le_refl _)
                      go_wp2_with fail
                      refine (HI2.out w5 B5).mono ?_
                      rintro e w6 ⟨rfl, B6⟩
                      have Bw6 := below_then Bw5 B6 (Nat.le_refl _)
                      go_wp2_with fail
                      go_ret
                      exact ⟨rfl, Bw6⟩
end Go.Proofs.Ytonamlgipoannaa
