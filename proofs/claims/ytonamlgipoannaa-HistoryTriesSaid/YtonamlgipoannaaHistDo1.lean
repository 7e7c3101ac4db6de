/- The statements' do of histories: Again. No condition but that both stand. (Printed by gen_hdo.py.) -/
import Derived.Test.YtonamlgipoannaaHistDo
namespace Go.Proofs.Ytonamlgipoannaa
open Go.RowKit BigFrame
attribute [local go_sem ↓] Go.wp_at_zero Go.wp_at_succ
attribute [local go_sem] rrec_eql rrec_neq rrec_guard

/-- What a call may leave. -/
structure HInv (l : List HR) : Prop where
  rising : Rising l
  tries : ∀ r ∈ l, 0 ≤ r.tries
/-- Behind any call. -/
def DoRes (w w' : World) (g : Nat) (a b c : Int) (l : List HR) (v : Value) (sa : Option Addr) (x' : Value) : Prop :=
  ∃ (c' : Int) (l' : List HR) (v' : Value) (sa' : Option Addr) (sc' : Nat), DoPostH w w' g a b v sa x' c' l' v' sa' sc' ∧ HInv l' ∧ l'.length ≤ l.length + 1 ∧ (l'.length : Int) ≤ a ∧ c ≤ c' ∧ c' ≤ c + 1
theorem HInv.set {l : List HR} (h : HInv l) {p : Nat} {q : HR} (hp : l[p]? = some q) (pa : Int) : HInv (l.set p (q.again pa)) := by
  have hpl := (List.getElem?_eq_some_iff.1 hp).1
  have hq := h.tries q (List.mem_of_getElem? hp)
  have key : ∀ i r, (l.set p (q.again pa))[i]? = some r → ∃ r0, l[i]? = some r0 ∧ r.seq = r0.seq ∧ (r = r0 ∨ r = q.again pa) := fun i r hi => by
    by_cases e : i = p
    · subst e
      rw [List.getElem?_set_self hpl] at hi
      injection hi with hi
      subst hi
      exact ⟨q, hp, rfl, .inr rfl⟩
    · rw [List.getElem?_set_ne (Ne.symm e)] at hi
      exact ⟨r, hi, rfl, .inl rfl⟩
  refine ⟨fun i j x y hij hx hy => ?_, fun r hr => ?_⟩
  · obtain ⟨x0, h1, h2, _⟩ := key i x hx
    obtain ⟨y0, h3, h4, _⟩ := key j y hy
    rw [h2, h4]
    exact h.rising i j x0 y0 hij h1 h3
  · obtain ⟨i, hi, rfl⟩ := List.mem_iff_getElem.1 hr
    obtain ⟨r0, h1, _, h2⟩ := key i _ (List.getElem?_eq_getElem hi)
    rcases h2 with h2 | h2
    · rw [h2]; exact h.tries r0 (List.mem_of_getElem? h1)
    · rw [h2]; show 0 ≤ q.tries + 1; omega
theorem getR_at {l : List HR} {s : Int} {q : HR} (h : getR l s = some q) : ∃ p : Nat, l[p]? = some q ∧ q.seq = s := by
  unfold getR at h
  rw [List.find?_eq_some_iff_getElem] at h
  obtain ⟨h1, p, hp, e, _⟩ := h
  exact ⟨p, by rw [List.getElem?_eq_getElem hp, e], by simpa using h1⟩
set_option maxRecDepth 8000 in
set_option maxHeartbeats 8000000 in
theorem law21_do1 (g : Nat) (x : Value) (a b c : Int) (l : List HR) (v : Value) (sa : Option Addr) (sc : Nat)  (s pa : Int) (data : ByteArray) (w : World) (h : HV w g a b c l v) (R : RR w x a b c l sa sc) (hsep : SepH g v sa) (hi : HInv l) (hla : (l.length : Int) ≤ a) (hb : b ≤ 100) (c0 : 0 ≤ c) (c9 : c ≤ 1000000) (hl : l.length ≤ 10000) :
    Calls Try.prog 19 #[.pointer (some ⟨g, 0, none⟩), x, .agg #[.int .i64 1, .int .i64 s, .int .i64 pa, .string data]] w fun e w' => ∃ x', e = .returned (.tuple #[x', .bool true]) ∧ DoRes w w' g a b c l v sa x' := by
  have HALL : ∃ (q : HR) (is : Bool) (c' : Int) (l' : List HR), (∀ W, HV W g a b c l v → Calls Try.prog 16 #[.pointer (some ⟨g, 0, none⟩), .int .i64 s, .int .i64 pa] W fun e w' => e = .returned (.tuple #[q.val, .bool is]) ∧ ∃ v', HV w' g a b c' l' v' ∧ Moved W w' g v v') ∧
      (∀ W, RR W x a b c l sa sc → Calls Try.prog 44 #[x, .int .i64 s, .int .i64 pa] W fun e w' => ∃ x', e = .returned (.tuple #[x', q.val, .bool is]) ∧ RefPost W w' x' a b c' l' sa) ∧ HInv l' ∧ l'.length = l.length ∧ c ≤ c' ∧ c' ≤ c + 1 := by
    by_cases hy : ∃ q, getR l s = some q ∧ q.tries < b
    · obtain ⟨q, hq, hqt⟩ := hy
      obtain ⟨p, hp, hs⟩ := getR_at hq
      have ht := hi.tries q (List.mem_of_getElem? hp)
      refine ⟨q.again pa, true, c + 1, l.set p (q.again pa), fun W hW => (hist_AgainYes g a b c l v s pa W hW hi.rising (by omega) p q hp hs hqt hb ht c0 (by omega)).mono ?_, fun W hW => ref21_AgainYes x a b c l sa sc s pa W hW hi.rising (by omega) p q hp hs hqt hb ht c0 (by omega), hi.set hp pa, List.length_set, by omega, by omega⟩
      rintro e w' ⟨rfl, h1, h2⟩
      exact ⟨rfl, v, h1, h2⟩
    · have hno : ∀ r, getR l s = some r → b ≤ r.tries := fun r hr => by
        rcases Int.lt_or_le r.tries b with h1 | h1
        · exact absurd ⟨r, hr, h1⟩ hy
        · exact h1
      refine ⟨hrZero, false, c, l, fun W hW => (hist_AgainNo g a b c l v s pa W hW hi.rising (by omega) hno).mono ?_, fun W hW => (ref21_AgainNo x a b c l sa sc s pa W hW (by omega) hno).mono ?_, hi, rfl, by omega, by omega⟩
      · rintro e w' ⟨rfl, hB⟩
        exact ⟨rfl, v, hW.below hB, Moved.of_below hB⟩
      · rintro e w' ⟨rfl, hB⟩
        exact ⟨x, rfl, sa, sc, hW.below hB, fun k o e => .inl ⟨o, e⟩, hB⟩
  obtain ⟨q, is, c', l', HP0, HR0', HI⟩ := HALL
  have HP := Lib.hid HP0
  have HR' := Lib.hid HR0'
  have HI := Lib.hid HI
  unfold HR.val at HP HR'
  clear HP0 HR0' hi
  rw [R.eq] at HR'
  have hgw := h.blk.lt
  have hvl := fun k (e : v.ownBlock = some k) => (h.own.lt k e).2
  have R0 := R
  obtain ⟨rfl, row⟩ := R
  obtain ⟨n, hn⟩ : ∃ n, l.length = n := ⟨_, rfl⟩
  rw [hn] at R0 hl ⊢
  have HN := Lib.hid hn
  clear row hn
  have HSEP := Lib.hid hsep
  clear hsep
  obtain ⟨K1, K2, K3, B1, z1⟩ := three_new0 w #[.int .i64 a, .int .i64 b, .int .i64 c, .slice sa n sc] #[.int .i64 1, .int .i64 s, .int .i64 pa, .string data] #[.int .i64 0, .int .i64 0, .int .i64 0, .slice none 0 0] 43 29 43
  go_enter Try.func19, Try.ntmps19
  go_upto_region 1 with fail
  generalize ((w.alloc (.cells #[.int .i64 a, .int .i64 b, .int .i64 c, .slice sa n sc] 43)).alloc (.cells #[.int .i64 1, .int .i64 s, .int .i64 pa, .string data] 29)).alloc (.cells #[.int .i64 0, .int .i64 0, .int .i64 0, .slice none 0 0] 43) = w1 at *
  have c1 := K1.cell
  have c2 := K2.cell
  simp at c1 c2
  have R1 := R0.below B1
  have H1 := h.below B1
  rw [HN.out] at HR' HI hla
  go_upto_region 7 with fail
  go_wp2_with fail
  refine (HR'.out w1 R1).mono ?_
  rintro e w2 ⟨x', rfl, sa2, sc2, R2, hf2, B2⟩
  have H2 := H1.below B2
  have B12 := below_then B1 B2 (Nat.le_refl _)
  obtain ⟨n2, hn2⟩ : ∃ n2, l'.length = n2 := ⟨_, rfl⟩
  have HN2 := Lib.hid hn2
  have hx' := R2.eq
  rw [hn2] at hx'
  subst hx'
  clear hn2
  have s2 := B2.size
  obtain ⟨Kx, Kr, Br⟩ := two_new w2 #[.int .i64 a, .int .i64 b, .int .i64 c', .slice sa2 n2 sc2] #[.int .i64 q.seq, .int .i64 q.tries, .int .i64 q.path, .string q.data] 43 99
  have K2a := (K2.below B2 K2.lt).below Br (by have := K2.lt; omega)
  have K3a := (K3.below B2 K3.lt).below Br (by have := K3.lt; omega)
  clear c1 c2
  go_upto_region 8 with fail
  obtain ⟨br, hbr⟩ : ∃ br, w2.heap.size = br := ⟨_, rfl⟩
  have HBR := Lib.hid hbr
  have H3 := H2.below Br
  have R3 := R2.below Br
  have B13 := below_then B12 Br (Nat.le_refl _)
  rw [hbr] at Kx Kr ⊢
  generalize (w2.alloc (.cells #[.int .i64 a, .int .i64 b, .int .i64 c', .slice sa2 n2 sc2] 43)).alloc (.cells #[.int .i64 q.seq, .int .i64 q.tries, .int .i64 q.path, .string q.data] 99) = w3 at *
  clear hbr K1 K2 K3 H1 H2
  have c2 := K2a.cell
  simp at c2
  go_wp2_with fail
  refine (HP.out w3 H3).mono ?_
  rintro e w4 ⟨rfl, v4, H4, M4⟩
  have s3 := Br.size
  have s13 := B13.size
  have ne4 : ∀ z, w.heap.size ≤ z → z < w3.heap.size → w4.heap[z]? = w3.heap[z]? := fun z h1 h2 => M4.keep z h2 (by omega) (fun e => by have := hvl z e; omega)
  have K3m : Blk w4 (w.heap.size + 1 + 1) 43 _ := (ne4 _ (by omega) K3a.lt).trans K3a
  have Kxm : Blk w4 br 43 _ := (ne4 _ (by have := HBR.out; omega) Kx.lt).trans Kx
  have Krm : Blk w4 (br + 1) 99 _ := (ne4 _ (by have := HBR.out; omega) Kr.lt).trans Kr
  have Kh := Blk.new w4 33 #[.int .i64 q.seq, .int .i64 q.tries, .int .i64 q.path, .string q.data]
  have Bh : Below w4.heap.size w4 (w4.alloc (.cells #[.int .i64 q.seq, .int .i64 q.tries, .int .i64 q.path, .string q.data] 33)) := (Below.refl _ w4).alloc (Nat.le_refl _) _
  have s4 := M4.below.size
  have K3b := K3m.below Bh K3m.lt
  have Kxb := Kxm.below Bh Kxm.lt
  have Krb := Krm.below Bh Krm.lt
  clear c2
  go_upto_region 9 with fail
  obtain ⟨bh, hbh⟩ : ∃ bh, w4.heap.size = bh := ⟨_, rfl⟩
  have HBH := Lib.hid hbh
  have H5 := H4.below Bh
  have hv4 := fun k (e : v4.ownBlock = some k) => M4.row k e
  have BM : Below 0 w3 (w4.alloc (.cells #[.int .i64 q.seq, .int .i64 q.tries, .int .i64 q.path, .string q.data] 33)) := M4.below.trans (Bh.mono (Nat.zero_le _))
  have kM : ∀ k, k < w3.heap.size → k ≠ g → v.ownBlock ≠ some k → (w4.alloc (.cells #[.int .i64 q.seq, .int .i64 q.tries, .int .i64 q.path, .string q.data] 33)).heap[k]? = w3.heap[k]? := fun k h1 h2 h3 => (Bh.block k (by omega)).trans (M4.keep k h1 h2 h3)
  rw [hbh] at Kh ⊢
  generalize w4.alloc (.cells #[.int .i64 q.seq, .int .i64 q.tries, .int .i64 q.path, .string q.data] 33) = w5 at *
  have hrl := Krb.lt
  clear hbh K2a K3a Kx Kr H3 K3m Kxm Krm H4
  have d1 := Kxb.cell
  have d2 := Krb.cell
  have d3 := Kh.cell
  have d4 := K3b.cell
  have f4 := K3b.frozen
  simp at d1 d2 d3 d4
  have hc' := HI.out
  go_region_with fail
  all_goals
    obtain ⟨w6, e6, K6, B6, hk6⟩ := four_set K3b rfl (.int .i64 a) (.int .i64 b) (.int .i64 c') (.slice sa2 n2 sc2) w.heap.size (by omega)
    have g6 := K6.drew.cell
    simp at g6
    have hv4r : v4.ownBlock ≠ some (w.heap.size + 1 + 1) := fun e => by
      rcases hv4 _ e with h1 | h1
      · have := hvl _ h1; omega
      · omega
    have hf3 : ∀ k o, sa2 = some ⟨k, o, none⟩ → (∃ o', sa = some ⟨k, o', none⟩) ∨ w.heap.size ≤ k := fun k o e => by
      rcases hf2 k o e with h1 | h1
      · exact .inl h1
      · right; omega
    rw [e6]
    go_wp2_with fail
    refine bodyPost_ret (v := .tuple #[.agg #[.int .i64 a, .int .i64 b, .int .i64 c', .slice sa2 n2 sc2], .bool true]) ?_ rfl ⟨_, rfl, c', l', v4, sa2, sc2, do_endH h R0 HSEP.out B13 R3 hf3 (BM.trans ((B6.mono (Nat.zero_le _)).drew)) (fun k hk h1 h2 h3 => (hk6 k ?_).trans (kM k hk h1 h2)) hv4 ((H5.far hk6 (by omega) hv4r).below (Below.refl _ w6).drew), hc'.1, by rw [hc'.2.1, HN.out]; omega, by rw [hc'.2.1]; exact hla, hc'.2.2.1, hc'.2.2.2⟩
    · simp [results, Try.results19, go_sem, g6]
      try rfl
    · rcases h3 with h3 | ⟨o', h3⟩
      · omega
      · rcases hf2 k o' h3 with ⟨o2, h4⟩ | h4
        · have := R0.row.lt k o2 h4
          omega
        · omega
end Go.Proofs.Ytonamlgipoannaa
