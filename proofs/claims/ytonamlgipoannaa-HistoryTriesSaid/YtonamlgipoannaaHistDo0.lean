/- The statements' do of histories: Put. No condition but that both stand. (Printed by gen_hdo.py.) -/
import Derived.Test.YtonamlgipoannaaHistDo1
namespace Go.Proofs.Ytonamlgipoannaa
open Go.RowKit BigFrame
attribute [local go_sem ↓] Go.wp_at_zero Go.wp_at_succ
attribute [local go_sem] rrec_eql rrec_neq rrec_guard

theorem HInv.drop {l : List HR} (h : HInv l) (k : Nat) : HInv (l.drop k) := by
  refine ⟨fun i j x y hij hx hy => ?_, fun r hr => h.tries r (List.drop_subset _ _ hr)⟩
  rw [List.getElem?_drop] at hx hy
  exact h.rising (k + i) (k + j) x y (by omega) hx hy
theorem HInv.push {l : List HR} (h : HInv l) (q : HR) (hq : ∀ r ∈ l, r.seq < q.seq) (h0 : 0 ≤ q.tries) : HInv (l ++ [q]) := by
  refine ⟨fun i j x y hij hx hy => ?_, fun r hr => ?_⟩
  · have hj := (List.getElem?_eq_some_iff.1 hy).1
    rw [List.length_append, List.length_singleton] at hj
    rw [List.getElem?_append_left (by omega)] at hx
    rcases Nat.lt_or_ge j l.length with h1 | h1
    · rw [List.getElem?_append_left h1] at hy
      exact h.rising i j x y hij hx hy
    · rw [List.getElem?_append_right h1] at hy
      have e : j - l.length = 0 := by omega
      rw [e] at hy
      simp only [List.getElem?_cons_zero, Option.some.injEq] at hy
      subst hy
      exact hq x (List.mem_of_getElem? hx)
  · rw [List.mem_append, List.mem_singleton] at hr
    rcases hr with h1 | h1
    · exact h.tries r h1
    · subst h1; exact h0
theorem lastOk_all {l : List HR} {s : Int} (h : Rising l) (hl : lastOk l s) : ∀ r ∈ l, r.seq < s := fun r hr => by
  obtain ⟨i, hi, rfl⟩ := List.mem_iff_getElem.1 hr
  have h1 : l[l.length - 1]? = some (l[l.length - 1]'(by omega)) := List.getElem?_eq_getElem (by omega)
  have h2 := hl _ h1 (by omega)
  rcases Nat.lt_or_ge i (l.length - 1) with h3 | h3
  · have := h i (l.length - 1) _ _ h3 (List.getElem?_eq_getElem hi) h1
    omega
  · have e : i = l.length - 1 := by omega
    subst e
    exact h2
theorem all_lastOk {l : List HR} {s : Int} (h : ∀ r ∈ l, r.seq < s) : lastOk l s := fun r hr _ => h r (List.mem_of_getElem? hr)
set_option maxRecDepth 8000 in
set_option maxHeartbeats 8000000 in
theorem law21_do0 (g : Nat) (x : Value) (a b c : Int) (l : List HR) (v : Value) (sa : Option Addr) (sc : Nat)  (s pa : Int) (data : ByteArray) (w : World) (h : HV w g a b c l v) (R : RR w x a b c l sa sc) (hsep : SepH g v sa) (hi : HInv l) (hla : (l.length : Int) ≤ a) (ha : 1 ≤ a) (hds : data.size ≤ maxLen) (hl : l.length ≤ 10000) :
    Calls Try.prog 19 #[.pointer (some ⟨g, 0, none⟩), x, .agg #[.int .i64 0, .int .i64 s, .int .i64 pa, .string data]] w fun e w' => ∃ x', e = .returned (.tuple #[x', .bool true]) ∧ DoRes w w' g a b c l v sa x' := by
  obtain ⟨dc, hdc⟩ : ∃ dc, cutB data 20 = dc := ⟨_, rfl⟩
  have HALL : ∃ (ok : Bool) (l' : List HR), (∀ W, HV W g a b c l v → Calls Try.prog 15 #[.pointer (some ⟨g, 0, none⟩), .int .i64 s, .int .i64 pa, .string dc] W fun e w' => e = .returned (.bool ok) ∧ ∃ v', HV w' g a b c l' v' ∧ Moved W w' g v v') ∧
      (∀ W, RR W x a b c l sa sc → Calls Try.prog 43 #[x, .int .i64 s, .int .i64 pa, .string dc] W fun e w' => ∃ x', e = .returned (.tuple #[x', .bool ok]) ∧ RefPost W w' x' a b c l' sa) ∧ HInv l' ∧ l'.length ≤ l.length + 1 ∧ (l'.length : Int) ≤ a := by
    by_cases hy : lastOk l s
    · have hall := lastOk_all hi.rising hy
      obtain ⟨l1, hl1⟩ : ∃ l1, (if (l.length : Int) = a then l.drop 1 else l) = l1 := ⟨_, rfl⟩
      have hi1 : HInv l1 := by
        rw [← hl1]; split
        · exact hi.drop 1
        · exact hi
      have hm1 : ∀ r ∈ l1, r.seq < s := fun r hr => by
        rw [← hl1] at hr
        split at hr
        · exact hall r (List.drop_subset _ _ hr)
        · exact hall r hr
      have hn1 : l1.length ≤ l.length ∧ (l1.length : Int) + 1 ≤ a := by
        rw [← hl1]; split
        · rw [List.length_drop]; omega
        · omega
      refine ⟨true, l1 ++ [⟨s, 0, pa, dc⟩], fun W hW => (hist_PutYes g a b c l l1 v s pa dc W hW ha hla (by omega) hy hl1).mono ?_, fun W hW => (ref21_Put x a b c l sa sc s pa dc W hW (by omega) ha hla true ⟨fun _ => hall, fun _ => rfl⟩).mono ?_, hi1.push _ hm1 (Int.le_refl _), by simp; omega, by simp; omega⟩
      · rintro e w' ⟨rfl, h1⟩
        exact ⟨rfl, h1⟩
      · rintro e w' ⟨x', rfl, h1⟩
        rw [if_pos rfl, hl1] at h1
        exact ⟨x', rfl, h1⟩
    · have hp : 0 < l.length := by
        rcases Nat.eq_zero_or_pos l.length with h0 | h0
        · exact absurd (fun r hr h1 => by omega) hy
        · exact h0
      have hlast : l[l.length - 1]? = some (l[l.length - 1]'(by omega)) := List.getElem?_eq_getElem (by omega)
      have hs : s ≤ (l[l.length - 1]'(by omega)).seq := by
        rcases Int.lt_or_le (l[l.length - 1]'(by omega)).seq s with h1 | h1
        · refine absurd (fun r hr _ => ?_) hy
          rw [hlast] at hr
          injection hr with hr
          subst hr
          exact h1
        · exact h1
      have hno : ¬ ∀ r ∈ l, r.seq < s := fun h1 => hy (all_lastOk h1)
      refine ⟨false, l, fun W hW => (hist_PutNo g a b c l v s pa dc W hW (by omega) _ hlast hs).mono ?_, fun W hW => (ref21_Put x a b c l sa sc s pa dc W hW (by omega) ha hla false ⟨(fun e => by cases e), fun h1 => absurd h1 hno⟩).mono ?_, hi, by omega, hla⟩
      · rintro e w' ⟨rfl, hB⟩
        exact ⟨rfl, v, hW.below hB, Moved.of_below hB⟩
      · rintro e w' ⟨x', rfl, h1⟩
        exact ⟨x', rfl, h1⟩
  obtain ⟨ok, l', HP0, HR0', HI⟩ := HALL
  have HP := Lib.hid HP0
  have HR' := Lib.hid HR0'
  have HI := Lib.hid HI
  have HD := Lib.hid hdc
  clear HP0 HR0' hi hdc
  rw [R.eq] at HR'
  have hgw := h.blk.lt
  have hvl := fun k (e : v.ownBlock = some k) => (h.own.lt k e).2
  have R0 := R
  obtain ⟨rfl, row⟩ := R
  obtain ⟨n, hn⟩ : ∃ n, l.length = n := ⟨_, rfl⟩
  rw [hn] at R0 hl ⊢
  have HN := Lib.hid hn
  clear row hn
  have HSEP := Lib.hid hsep
  clear hsep
  obtain ⟨K1, K2, K3, B1, z1⟩ := three_new0 w #[.int .i64 a, .int .i64 b, .int .i64 c, .slice sa n sc] #[.int .i64 0, .int .i64 s, .int .i64 pa, .string data] #[.int .i64 0, .int .i64 0, .int .i64 0, .slice none 0 0] 43 29 43
  go_enter Try.func19, Try.ntmps19
  go_upto_region 1 with fail
  generalize ((w.alloc (.cells #[.int .i64 a, .int .i64 b, .int .i64 c, .slice sa n sc] 43)).alloc (.cells #[.int .i64 0, .int .i64 s, .int .i64 pa, .string data] 29)).alloc (.cells #[.int .i64 0, .int .i64 0, .int .i64 0, .slice none 0 0] 43) = w1 at *
  have c1 := K1.cell
  have c2 := K2.cell
  simp at c1 c2
  have R1 := R0.below B1
  have H1 := h.below B1
  rw [HN.out] at HR' HI hla
  go_upto_region 3 with fail
  go_wp2_with fail
  refine (law02_Cut data dc 20 hds (by decide) HD.out w1).mono ?_
  rintro e w' ⟨rfl, rfl⟩
  go_upto_region 4 with fail
  go_wp2_with fail
  refine (HR'.out w1 R1).mono ?_
  rintro e w2 ⟨x', rfl, sa2, sc2, R2, hf2, B2⟩
  have H2 := H1.below B2
  have B12 := below_then B1 B2 (Nat.le_refl _)
  obtain ⟨n2, hn2⟩ : ∃ n2, l'.length = n2 := ⟨_, rfl⟩
  have HN2 := Lib.hid hn2
  have hx' := R2.eq
  rw [hn2] at hx'
  subst hx'
  clear hn2
  have s2 := B2.size
  have Kx := Blk.new w2 43 #[.int .i64 a, .int .i64 b, .int .i64 c, .slice sa2 n2 sc2]
  have Br : Below w2.heap.size w2 (w2.alloc (.cells #[.int .i64 a, .int .i64 b, .int .i64 c, .slice sa2 n2 sc2] 43)) := (Below.refl _ w2).alloc (Nat.le_refl _) _
  have K2a := (K2.below B2 K2.lt).below Br (by have := K2.lt; omega)
  have K3a := (K3.below B2 K3.lt).below Br (by have := K3.lt; omega)
  clear c1 c2
  go_upto_region 5 with fail
  obtain ⟨br, hbr⟩ : ∃ br, w2.heap.size = br := ⟨_, rfl⟩
  have HBR := Lib.hid hbr
  have H3 := H2.below Br
  have R3 := R2.below Br
  have B13 := below_then B12 Br (Nat.le_refl _)
  rw [hbr] at Kx Br ⊢
  generalize w2.alloc (.cells #[.int .i64 a, .int .i64 b, .int .i64 c, .slice sa2 n2 sc2] 43) = w3 at *
  clear hbr K1 K2 K3 H1 H2
  have hrl := K3a.lt
  have hrg : w.heap.size + 1 + 1 ≠ g := by omega
  have hvr : v.ownBlock ≠ some (w.heap.size + 1 + 1) := fun e => by have := hvl _ e; omega
  have s3 := Br.size
  have s13 := B13.size
  have hrn : w.heap.size + 1 + 1 < br := by have := HBR.out; omega
  have E2 := fun (gx : UWF (CCall w3 g (w.heap.size + 1 + 1) a b c c l l' v 43 #[.int .i64 0, .int .i64 0, .int .i64 0, .slice none 0 0] #[.int .i64 a, .int .i64 b, .int .i64 c, .slice sa2 n2 sc2] 7 10)) => (show Blk gx.world (w.heap.size + 1) 29 _ from (gx.holds.keep _ K2a.lt (by omega) (fun e => by have := hvl _ e; omega) (by omega)).trans K2a).cell
  have EX := fun (gx : UWF (CCall w3 g (w.heap.size + 1 + 1) a b c c l l' v 43 #[.int .i64 0, .int .i64 0, .int .i64 0, .slice none 0 0] #[.int .i64 a, .int .i64 b, .int .i64 c, .slice sa2 n2 sc2] 7 10)) => (show Blk gx.world br 43 _ from (gx.holds.keep _ Kx.lt (by omega) (fun e => by have := hvl _ e; omega) (by omega)).trans Kx).cell
  simp at E2 EX
  have hne : Nonempty (UWF (CCall w3 g (w.heap.size + 1 + 1) a b c c l l' v 43 #[.int .i64 0, .int .i64 0, .int .i64 0, .slice none 0 0] #[.int .i64 a, .int .i64 b, .int .i64 c, .slice sa2 n2 sc2] 7 10)) := ⟨⟨fun _ => false, fun _ => undef, w3.drew, CCall.start H3 K3a _⟩⟩
  refine wp_region_free [(0, 7, some 7), (8, 2, some 10), (11, 1, none)] (CCall w3 g (w.heap.size + 1 + 1) a b c c l l' v 43 #[.int .i64 0, .int .i64 0, .int .i64 0, .slice none 0 0] #[.int .i64 a, .int .i64 b, .int .i64 c, .slice sa2 n2 sc2] 7 10) (GOne 7 (.bool ok)) (fun _ => .bool ok) (by kernel_rfl) (by kernel_rfl) ?_ ?_ ?_ ?_
  · intro z hz LL G W hC
    simp [moversI] at hz
    exact hC.quiet (by omega) (by omega)
  · exact CCall.start H3 K3a _
  · intro q e
    rfl
  · intro G hG
    have g7 := hG 7 rfl
    simp only [walkF, List.drop_zero, List.drop_succ_cons, List.take_succ_cons, List.take_zero, List.toList_toArray]; (repeat (go_big_quiet_step (fail))); refine wpQuiet_nil ?_
    refine ⟨_, _, _, _, _, _, rfl, .inl ⟨rfl, ?_, ?_⟩⟩
    · intro LL W hL hA hC
      refine ⟨?_⟩; go_simp; simp only [movesToUpon]
      refine (HP.out W (hC.q0 hL)).mono ?_
      rintro e w4 ⟨rfl, v4, H4, M4⟩
      exact ⟨_, rfl, fun _ => rfl, hC.call (by decide) hL hrl hrg hvr H4 M4 _⟩
    · intro K' hK'; dsimp only at hK'; rw [g7]; go_big_quiet_op; go_big_quiet_on; (repeat (go_big_quiet_step (fail))); refine wpQuiet_nil ?_
      refine ⟨_, _, _, _, _, _, rfl, .inl ⟨rfl, ?_, ?_⟩⟩
      · intro LL W hL hA hC
        have k0 := hC.r0 hL
        have ck0 := k0.cell
        have fk0 := k0.frozen
        simp at ck0
        obtain ⟨wS, eS, KS, BS, hkS⟩ := four_set k0 rfl (.int .i64 a) (.int .i64 b) (.int .i64 c) (.slice sa2 n2 sc2) 0 (Nat.zero_le _)
        refine ⟨?_⟩; go_simp; simp only [movesToUpon]
        exact ⟨(fun e => by cases e), hC.store (by decide) hrl hrg hvr KS BS hkS _⟩
      · intro K' hK'; dsimp only at hK'; go_big_quiet_op; go_big_quiet_on; (repeat (go_big_quiet_step (fail))); refine wpQuiet_nil ?_
        intro LL w9 hL hC
        have K9 := hC.r1 (hL 10 (by decide))
        obtain ⟨v9, H9, hr9⟩ := hC.q1 (hL 7 (by decide))
        have B9 := hC.below
        have k9 := hC.keep
        have g9 := K9.cell
        simp at g9
        have hf3 : ∀ k o, sa2 = some ⟨k, o, none⟩ → (∃ o', sa = some ⟨k, o', none⟩) ∨ w.heap.size ≤ k := fun k o e => by
          rcases hf2 k o e with h1 | h1
          · exact .inl h1
          · right; omega
        have hc' := HI.out
        clear hC hL hG g7 E2 EX hne
        go_wp2_with fail
        refine bodyPost_ret (v := .tuple #[.agg #[.int .i64 a, .int .i64 b, .int .i64 c, .slice sa2 n2 sc2], .bool true]) ?_ rfl ⟨_, rfl, c, l', v9, sa2, sc2, do_endH h R0 HSEP.out B13 R3 hf3 B9 (fun k hk h1 h2 h3 => k9 k hk h1 h2 ?_) hr9 H9, hc'.1, by rw [HN.out]; exact hc'.2.1, hc'.2.2, Int.le_refl _, by omega⟩
        · simp [results, Try.results19, go_sem, g9]
          try rfl
        · rcases h3 with h3 | ⟨o', h3⟩
          · omega
          · rcases hf2 k o' h3 with ⟨o2, h4⟩ | h4
            · have := R0.row.lt k o2 h4
              omega
            · omega
end Go.Proofs.Ytonamlgipoannaa
