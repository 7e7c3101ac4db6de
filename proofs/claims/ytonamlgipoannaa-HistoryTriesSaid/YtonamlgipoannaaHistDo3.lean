/- The statements' do of histories: Forget; any call. No condition but that both stand. (Printed by gen_hdo.py.) -/
import Derived.Test.YtonamlgipoannaaHistDo0
namespace Go.Proofs.Ytonamlgipoannaa
open Go.RowKit BigFrame
attribute [local go_sem ↓] Go.wp_at_zero Go.wp_at_succ
attribute [local go_sem] rrec_eql rrec_neq rrec_guard

theorem upto_ex (l : List HR) (u : Int) : ∀ n, n ≤ l.length → ∃ k, k ≤ n ∧ (∀ j r, l[j]? = some r → j < k → r.seq ≤ u) ∧ (k = n ∨ ∃ r, l[k]? = some r ∧ u < r.seq)
  | 0, _ => ⟨0, Nat.le_refl _, fun j r _ h => absurd h (by omega), .inl rfl⟩
  | n + 1, hn => by
    obtain ⟨k, hk, h1, h2⟩ := upto_ex l u n (by omega)
    rcases h2 with rfl | h2
    · have hq : l[k]? = some (l[k]'(by omega)) := List.getElem?_eq_getElem (by omega)
      rcases Int.lt_or_le u (l[k]'(by omega)).seq with h3 | h3
      · exact ⟨k, by omega, h1, .inr ⟨_, hq, h3⟩⟩
      · refine ⟨k + 1, by omega, fun j r hj hjk => ?_, .inl rfl⟩
        rcases Nat.lt_or_ge j k with h4 | h4
        · exact h1 j r hj h4
        · obtain rfl : j = k := by omega
          rw [hq] at hj
          injection hj with hj
          subst hj
          exact h3
    · exact ⟨k, by omega, h1, .inr h2⟩
theorem upto_is {l : List HR} (h : Rising l) (u : Int) : ∃ k, UptoR l u k := by
  obtain ⟨k, hk, h1, h2⟩ := upto_ex l u l.length (Nat.le_refl _)
  refine ⟨k, hk, h1, fun i r hi hki => ?_⟩
  have hil := (List.getElem?_eq_some_iff.1 hi).1
  rcases h2 with h2 | ⟨q, hq, hu⟩
  · omega
  · rcases Nat.lt_or_ge k i with h3 | h3
    · have := h k i q r h3 hq hi
      omega
    · obtain rfl : k = i := by omega
      rw [hi] at hq
      injection hq with hq
      subst hq
      exact hu
theorem UptoR.uniq {l : List HR} {u : Int} {k k' : Nat} (h : UptoR l u k) (h' : UptoR l u k') : k = k' := by
  have h1 := h.le
  have h2 := h'.le
  rcases Nat.lt_trichotomy k k' with h3 | h3 | h3
  · have e1 := h.hi k _ (List.getElem?_eq_getElem (by omega)) (Nat.le_refl _)
    have e2 := h'.lo k _ (List.getElem?_eq_getElem (by omega)) h3
    omega
  · exact h3
  · have e1 := h'.hi k' _ (List.getElem?_eq_getElem (by omega)) (Nat.le_refl _)
    have e2 := h.lo k' _ (List.getElem?_eq_getElem (by omega)) h3
    omega
set_option maxRecDepth 8000 in
set_option maxHeartbeats 8000000 in
theorem law21_do3 (g : Nat) (x : Value) (a b c : Int) (l : List HR) (v : Value) (sa : Option Addr) (sc : Nat) (kd : Int) (s pa : Int) (data : ByteArray) (w : World) (h : HV w g a b c l v) (R : RR w x a b c l sa sc) (hsep : SepH g v sa) (hi : HInv l) (hla : (l.length : Int) ≤ a) (hk0 : ¬ kd = 0) (hk1 : ¬ kd = 1) (hk2 : ¬ kd = 2) (hl : l.length ≤ 10000) :
    Calls Try.prog 19 #[.pointer (some ⟨g, 0, none⟩), x, .agg #[.int .i64 kd, .int .i64 s, .int .i64 pa, .string data]] w fun e w' => ∃ x', e = .returned (.tuple #[x', .bool true]) ∧ DoRes w w' g a b c l v sa x' := by
  have HALL : ∃ (k0 : Nat) (l' : List HR), (∀ W, HV W g a b c l v → Calls Try.prog 47 #[.pointer (some ⟨g, 0, none⟩), .int .i64 s] W fun e w' => e = .returned (.int .i64 (k0 : Int)) ∧ ∃ v', HV w' g a b c l' v' ∧ Moved W w' g v v') ∧
      (∀ W, RR W x a b c l sa sc → Calls Try.prog 46 #[x, .int .i64 s] W fun e w' => ∃ x', e = .returned (.tuple #[x', .int .i64 (k0 : Int)]) ∧ RefPost W w' x' a b c l' sa) ∧ HInv l' ∧ l'.length ≤ l.length + 1 ∧ (l'.length : Int) ≤ a := by
    obtain ⟨k0, hk⟩ := upto_is hi.rising s
    refine ⟨k0, l.drop k0, fun W hW => (hist_Forget g a b c l v s W hW hi.rising (by omega)).mono ?_, fun W hW => ref21_Forget x a b c l sa sc s k0 W hW (by omega) hk, hi.drop k0, by rw [List.length_drop]; omega, by rw [List.length_drop]; omega⟩
    rintro e w' ⟨k, rfl, hu, h1⟩
    obtain rfl := hu.uniq hk
    exact ⟨rfl, h1⟩
  obtain ⟨k0, l', HP0, HR0', HI⟩ := HALL
  obtain ⟨N0, hN0⟩ : ∃ N0 : Int, (k0 : Int) = N0 := ⟨_, rfl⟩
  rw [hN0] at HP0 HR0'
  have HP := Lib.hid HP0
  have HR' := Lib.hid HR0'
  have HI := Lib.hid HI
  have e0 : (kd == 0) = false := by simp [hk0]
  have e1 : (kd == 1) = false := by simp [hk1]
  have e2 : (kd == 2) = false := by simp [hk2]
  clear HP0 HR0' hi hN0
  rw [R.eq] at HR'
  have hgw := h.blk.lt
  have hvl := fun k (e : v.ownBlock = some k) => (h.own.lt k e).2
  have R0 := R
  obtain ⟨rfl, row⟩ := R
  obtain ⟨n, hn⟩ : ∃ n, l.length = n := ⟨_, rfl⟩
  rw [hn] at R0 hl ⊢
  have HN := Lib.hid hn
  clear row hn
  have HSEP := Lib.hid hsep
  clear hsep
  obtain ⟨K1, K2, K3, B1, z1⟩ := three_new0 w #[.int .i64 a, .int .i64 b, .int .i64 c, .slice sa n sc] #[.int .i64 kd, .int .i64 s, .int .i64 pa, .string data] #[.int .i64 0, .int .i64 0, .int .i64 0, .slice none 0 0] 43 29 43
  go_enter Try.func19, Try.ntmps19
  go_upto_region 1 with fail
  generalize ((w.alloc (.cells #[.int .i64 a, .int .i64 b, .int .i64 c, .slice sa n sc] 43)).alloc (.cells #[.int .i64 kd, .int .i64 s, .int .i64 pa, .string data] 29)).alloc (.cells #[.int .i64 0, .int .i64 0, .int .i64 0, .slice none 0 0] 43) = w1 at *
  have c1 := K1.cell
  have c2 := K2.cell
  simp at c1 c2
  have R1 := R0.below B1
  have H1 := h.below B1
  rw [HN.out] at HR' HI hla
  go_upto_region 14 with fail
  go_wp2_with fail
  refine (HR'.out w1 R1).mono ?_
  rintro e w2 ⟨x', rfl, sa2, sc2, R2, hf2, B2⟩
  have H2 := H1.below B2
  have B12 := below_then B1 B2 (Nat.le_refl _)
  obtain ⟨n2, hn2⟩ : ∃ n2, l'.length = n2 := ⟨_, rfl⟩
  have HN2 := Lib.hid hn2
  have hx' := R2.eq
  rw [hn2] at hx'
  subst hx'
  clear hn2
  have s2 := B2.size
  have Kx := Blk.new w2 43 #[.int .i64 a, .int .i64 b, .int .i64 c, .slice sa2 n2 sc2]
  have Br : Below w2.heap.size w2 (w2.alloc (.cells #[.int .i64 a, .int .i64 b, .int .i64 c, .slice sa2 n2 sc2] 43)) := (Below.refl _ w2).alloc (Nat.le_refl _) _
  have K2a := (K2.below B2 K2.lt).below Br (by have := K2.lt; omega)
  have K3a := (K3.below B2 K3.lt).below Br (by have := K3.lt; omega)
  clear c1 c2
  go_upto_region 15 with fail
  obtain ⟨br, hbr⟩ : ∃ br, w2.heap.size = br := ⟨_, rfl⟩
  have HBR := Lib.hid hbr
  have H3 := H2.below Br
  have R3 := R2.below Br
  have B13 := below_then B12 Br (Nat.le_refl _)
  rw [hbr] at Kx Br ⊢
  generalize w2.alloc (.cells #[.int .i64 a, .int .i64 b, .int .i64 c, .slice sa2 n2 sc2] 43) = w3 at *
  clear hbr K1 K2 K3 H1 H2
  have hrl := K3a.lt
  have hrg : w.heap.size + 1 + 1 ≠ g := by omega
  have hvr : v.ownBlock ≠ some (w.heap.size + 1 + 1) := fun e => by have := hvl _ e; omega
  have s3 := Br.size
  have s13 := B13.size
  have hrn : w.heap.size + 1 + 1 < br := by have := HBR.out; omega
  have E2 := fun (gx : UWF (CCall w3 g (w.heap.size + 1 + 1) a b c c l l' v 43 #[.int .i64 0, .int .i64 0, .int .i64 0, .slice none 0 0] #[.int .i64 a, .int .i64 b, .int .i64 c, .slice sa2 n2 sc2] 4 7)) => (show Blk gx.world (w.heap.size + 1) 29 _ from (gx.holds.keep _ K2a.lt (by omega) (fun e => by have := hvl _ e; omega) (by omega)).trans K2a).cell
  have EX := fun (gx : UWF (CCall w3 g (w.heap.size + 1 + 1) a b c c l l' v 43 #[.int .i64 0, .int .i64 0, .int .i64 0, .slice none 0 0] #[.int .i64 a, .int .i64 b, .int .i64 c, .slice sa2 n2 sc2] 4 7)) => (show Blk gx.world br 43 _ from (gx.holds.keep _ Kx.lt (by omega) (fun e => by have := hvl _ e; omega) (by omega)).trans Kx).cell
  simp at E2 EX
  have hne : Nonempty (UWF (CCall w3 g (w.heap.size + 1 + 1) a b c c l l' v 43 #[.int .i64 0, .int .i64 0, .int .i64 0, .slice none 0 0] #[.int .i64 a, .int .i64 b, .int .i64 c, .slice sa2 n2 sc2] 4 7)) := ⟨⟨fun _ => false, fun _ => undef, w3.drew, CCall.start H3 K3a _⟩⟩
  refine wp_region_free [(0, 4, some 4), (5, 2, some 7), (8, 1, none)] (CCall w3 g (w.heap.size + 1 + 1) a b c c l l' v 43 #[.int .i64 0, .int .i64 0, .int .i64 0, .slice none 0 0] #[.int .i64 a, .int .i64 b, .int .i64 c, .slice sa2 n2 sc2] 4 7) (GOne 4 (.int .i64 N0)) (fun _ => .int .i64 N0) (by kernel_rfl) (by kernel_rfl) ?_ ?_ ?_ ?_
  · intro z hz LL G W hC
    simp [moversI] at hz
    exact hC.quiet (by omega) (by omega)
  · exact CCall.start H3 K3a _
  · intro q e
    rfl
  · intro G hG
    have g7 := hG 4 rfl
    simp only [walkF, List.drop_zero, List.drop_succ_cons, List.take_succ_cons, List.take_zero, List.toList_toArray]; (repeat (go_big_quiet_step (fail))); refine wpQuiet_nil ?_
    refine ⟨_, _, _, _, _, _, rfl, .inl ⟨rfl, ?_, ?_⟩⟩
    · intro LL W hL hA hC
      refine ⟨?_⟩; go_simp; simp only [movesToUpon]
      refine (HP.out W (hC.q0 hL)).mono ?_
      rintro e w4 ⟨rfl, v4, H4, M4⟩
      exact ⟨_, rfl, fun _ => rfl, hC.call (by decide) hL hrl hrg hvr H4 M4 _⟩
    · intro K' hK'; dsimp only at hK'; rw [g7]; go_big_quiet_op; go_big_quiet_on; (repeat (go_big_quiet_step (fail))); refine wpQuiet_nil ?_
      refine ⟨_, _, _, _, _, _, rfl, .inl ⟨rfl, ?_, ?_⟩⟩
      · intro LL W hL hA hC
        have k0 := hC.r0 hL
        have ck0 := k0.cell
        have fk0 := k0.frozen
        simp at ck0
        obtain ⟨wS, eS, KS, BS, hkS⟩ := four_set k0 rfl (.int .i64 a) (.int .i64 b) (.int .i64 c) (.slice sa2 n2 sc2) 0 (Nat.zero_le _)
        refine ⟨?_⟩; go_simp; simp only [movesToUpon]
        exact ⟨(fun e => by cases e), hC.store (by decide) hrl hrg hvr KS BS hkS _⟩
      · intro K' hK'; dsimp only at hK'; go_big_quiet_op; go_big_quiet_on; (repeat (go_big_quiet_step (fail))); refine wpQuiet_nil ?_
        intro LL w9 hL hC
        have K9 := hC.r1 (hL 7 (by decide))
        obtain ⟨v9, H9, hr9⟩ := hC.q1 (hL 4 (by decide))
        have B9 := hC.below
        have k9 := hC.keep
        have g9 := K9.cell
        simp at g9
        have hf3 : ∀ k o, sa2 = some ⟨k, o, none⟩ → (∃ o', sa = some ⟨k, o', none⟩) ∨ w.heap.size ≤ k := fun k o e => by
          rcases hf2 k o e with h1 | h1
          · exact .inl h1
          · right; omega
        have hc' := HI.out
        clear hC hL hG g7 E2 EX hne
        go_wp2_with fail
        refine bodyPost_ret (v := .tuple #[.agg #[.int .i64 a, .int .i64 b, .int .i64 c, .slice sa2 n2 sc2], .bool true]) ?_ rfl ⟨_, rfl, c, l', v9, sa2, sc2, do_endH h R0 HSEP.out B13 R3 hf3 B9 (fun k hk h1 h2 h3 => k9 k hk h1 h2 ?_) hr9 H9, hc'.1, by rw [HN.out]; exact hc'.2.1, hc'.2.2, Int.le_refl _, by omega⟩
        · simp [results, Try.results19, go_sem, g9]
          try rfl
        · rcases h3 with h3 | ⟨o', h3⟩
          · omega
          · rcases hf2 k o' h3 with ⟨o2, h4⟩ | h4
            · have := R0.row.lt k o2 h4
              omega
            · omega
/-- Any call. -/
theorem law21_do (g : Nat) (x : Value) (a b c : Int) (l : List HR) (v : Value) (sa : Option Addr) (sc : Nat) (kd : Int) (s pa : Int) (data : ByteArray) (w : World) (h : HV w g a b c l v) (R : RR w x a b c l sa sc) (hsep : SepH g v sa) (hi : HInv l) (hla : (l.length : Int) ≤ a) (ha : 1 ≤ a) (hds : data.size ≤ maxLen) (hb : b ≤ 100) (c0 : 0 ≤ c) (c9 : c ≤ 1000000) (hl : l.length ≤ 10000) :
    Calls Try.prog 19 #[.pointer (some ⟨g, 0, none⟩), x, .agg #[.int .i64 kd, .int .i64 s, .int .i64 pa, .string data]] w fun e w' => ∃ x', e = .returned (.tuple #[x', .bool true]) ∧ DoRes w w' g a b c l v sa x' := by
  by_cases h0 : kd = 0
  · subst h0
    exact law21_do0 g x a b c l v sa sc s pa data w h R hsep hi hla ha hds hl
  by_cases h1 : kd = 1
  · subst h1
    exact law21_do1 g x a b c l v sa sc s pa data w h R hsep hi hla hb c0 c9 hl
  by_cases h2 : kd = 2
  · subst h2
    refine (law21_do2 g x a b c l v sa sc s pa data w h R hsep hi.rising hl).mono ?_
    rintro e w' ⟨x', rfl, v', sa', sc', D⟩
    exact ⟨x', rfl, c, l, v', sa', sc', D, hi, by omega, hla, Int.le_refl _, by omega⟩
  · exact law21_do3 g x a b c l v sa sc kd s pa data w h R hsep hi hla h0 h1 h2 hl
end Go.Proofs.Ytonamlgipoannaa
