/- The document's ToLines. No condition but the text's size. (Printed by gen_subrl.py.) -/
import Derived.Test.YtliilcadlijnoaaSubRA
namespace Go.Proofs.Ytliilcadlijnoaa
open Go.RowKit BigFrame
attribute [local go_sem ↓] Go.wp_at_zero Go.wp_at_succ

def cellsR (x : LnR) : List Value := [.int .i64 x.p, .int .i64 x.f, .int .i64 x.l, .int .i64 x.h, .int .i64 x.j, .int .i64 x.b, .int .i64 x.t, .int .i64 x.d]
structure RnAt (W : World) (a : Option Addr) (n c : Nat) (l : List LnR) : Prop where
  len : l.length = n
  row : SliceOf W a n c 8 (fun i => cellsR (l.getD i zLn))
theorem RnAt.below {W W' : World} {a : Option Addr} {n c : Nat} {l : List LnR} (h : RnAt W a n c l) (hb : Below W.heap.size W W') : RnAt W' a n c l := ⟨h.len, h.row.below hb⟩
theorem RnAt.of_own {W : World} {B n : Nat} {v : Value} {l : List LnR} (h : W.ownsRow B 71 8 v n (rowG cellsR l)) (hl : l.length = n) : ∃ a c, v = .slice a n c ∧ RnAt W a n c l := by
  obtain ⟨a, c, e, S⟩ := SliceOf.of_rowG (f := cellsR) (s := 8) (fun _ => rfl) zLn h hl
  exact ⟨a, c, e, hl, S⟩
def zRn : Array Value := #[.int .i64 0, .int .i64 0, .int .i64 0, .int .i64 0, .int .i64 0, .int .i64 0, .int .i64 0, .int .i64 0]
theorem info_rln : ∃ i, Try.prog.info? 71 = some i ∧ i.zero = some (.agg zRn) ∧ i.size = 8 ∧ i.bytes = 64 := by
  have h : (Try.prog.info? 71).map (fun i => (i.zero, i.size, i.bytes)) = some (some (.agg zRn), 8, 64) := by kernel_rfl
  obtain ⟨i, hi, he⟩ := Option.map_eq_some_iff.1 h
  simp only [Prod.mk.injEq] at he
  exact ⟨i, hi, he.1, he.2.1, he.2.2⟩
/-- While a record's parts are read, its block made (23) and written (24). -/
structure CRL (w0 : World) (cs : Array Value) (L : Nat → Bool) (G : Nat → Value) (W : World) : Prop where
  below : Below w0.heap.size w0 W
  anc : L 24 = true → L 23 = true
  blk : L 23 = true → ∃ x, G 23 = .pointer (some ⟨x, 0, none⟩) ∧ w0.heap.size ≤ x ∧ (L 24 = false → Blk W x 71 #[.int .i64 0, .int .i64 0, .int .i64 0, .int .i64 0, .int .i64 0, .int .i64 0, .int .i64 0, .int .i64 0]) ∧ (L 24 = true → Blk W x 71 cs)
structure GRL (pp ff hh jj bb tt dd : Int) (q : Nat) (v : Value) : Prop where
  c0 : q = 2 → v = .int .i64 pp
  c1 : q = 5 → v = .int .i64 ff
  c2 : q = 9 → v = .int .i64 hh
  c3 : q = 12 → v = .int .i64 jj
  c4 : q = 15 → v = .int .i64 bb
  c5 : q = 18 → v = .int .i64 tt
  c6 : q = 21 → v = .int .i64 dd
  made : q = 23 → ∃ x, v = .pointer (some ⟨x, 0, none⟩)
section
variable {w0 W W' : World} {cs : Array Value} {L : Nat → Bool} {G : Nat → Value}
theorem CRL.start (w0 : World) (G : Nat → Value) : CRL w0 cs (fun _ => false) G w0.drew := ⟨(Below.refl _ _).drew, (fun e => by cases e), (fun e => by cases e)⟩
theorem CRL.quiet (h : CRL w0 cs L G W) {z : Nat} (h1 : z ≠ 23) (h2 : z ≠ 24) : CRL w0 cs (upd L z) G W := by
  refine ⟨h.below, fun e => ?_, fun e => ?_⟩
  · rw [updL_ne L (Ne.symm h2)] at e
    rw [updL_ne L (Ne.symm h1)]
    exact h.anc e
  · rw [updL_ne L (Ne.symm h1)] at e
    rw [updL_ne L (Ne.symm h2)]
    exact h.blk e
theorem CRL.call (h : CRL w0 cs L G W) {z : Nat} (h1 : z ≠ 23) (h2 : z ≠ 24) (u : Value) : CRL w0 cs (upd L z) (upF G z u) W := by
  obtain ⟨a, b, c⟩ := h.quiet h1 h2
  refine ⟨a, b, fun e => ?_⟩
  rw [upF_ne _ _ (Ne.symm h1)]
  exact c e
theorem CRL.made (h : CRL w0 cs L G W) (hL : L 23 = false) : CRL w0 cs (upd L 23) (upF G 23 (.pointer (some ⟨W.heap.size, 0, none⟩))) (W.alloc (.cells #[.int .i64 0, .int .i64 0, .int .i64 0, .int .i64 0, .int .i64 0, .int .i64 0, .int .i64 0, .int .i64 0] 71)) := by
  have h24 : L 24 = false := by
    cases e : L 24
    · rfl
    · have := h.anc e; rw [hL] at this; cases this
  refine ⟨h.below.alloc h.below.size _, fun e => by rw [updL_at], fun _ => ⟨_, upF_same _ _ _, h.below.size, fun _ => Blk.new _ _ _, fun e => ?_⟩⟩
  rw [updL_ne L (by decide), h24] at e
  cases e
theorem CRL.at (h : CRL w0 cs L G W) (h1 : L 23 = true) (h2 : L 24 = false) {x : Nat} (hG : G 23 = .pointer (some ⟨x, 0, none⟩)) : w0.heap.size ≤ x ∧ Blk W x 71 #[.int .i64 0, .int .i64 0, .int .i64 0, .int .i64 0, .int .i64 0, .int .i64 0, .int .i64 0, .int .i64 0] := by
  obtain ⟨x', e, a, b, c⟩ := h.blk h1
  rw [hG] at e
  simp only [Value.pointer.injEq, Option.some.injEq, Addr.mk.injEq, and_true] at e
  subst e
  exact ⟨a, b h2⟩
theorem CRL.stored (h : CRL w0 cs L G W) (h1 : L 23 = true) {x : Nat} (hG : G 23 = .pointer (some ⟨x, 0, none⟩)) (hx : w0.heap.size ≤ x) (K : Blk W' x 71 cs) (hB : Below w0.heap.size W W') (u : Value) : CRL w0 cs (upd L 24) (upF G 24 u) W' :=
  ⟨h.below.trans hB, fun _ => by rw [updL_ne L (by decide)]; exact h1, fun _ => ⟨x, by rw [upF_ne _ _ (by decide)]; exact hG, hx, (fun e => by rw [updL_at] at e; cases e), fun _ => K⟩⟩
theorem CRL.done (h : CRL w0 cs L G W) (h1 : L 23 = true) (h2 : L 24 = true) {x : Nat} (hG : G 23 = .pointer (some ⟨x, 0, none⟩)) : w0.heap.size ≤ x ∧ Blk W x 71 cs := by
  obtain ⟨x', e, a, b, c⟩ := h.blk h1
  rw [hG] at e
  simp only [Value.pointer.injEq, Option.some.injEq, Addr.mk.injEq, and_true] at e
  subst e
  exact ⟨a, c h2⟩
end
set_option maxRecDepth 8000 in
set_option maxHeartbeats 16000000 in
theorem ref11_ToL (s : ByteArray) (w : World) (hs : s.size ≤ 10000) (L : List Int) (hL : bytesI s = L) (d : Option (List LnR)) (hd : docR 28 1 decL LnR.p canL L = d) :
    Calls Try.prog 15 #[.agg #[.int .i64 1, .int .i64 211, .string s]] w fun e w' => Below w.heap.size w w' ∧ DocRes RnAt (n4 L) d e w' := by
  obtain ⟨iq, hq0, hq1, hq2, hq3⟩ := info_rln
  have K1 := Blk.new w 35 #[.int .i64 1, .int .i64 211, .string s]
  have B1 : Below w.heap.size w (w.alloc (.cells #[.int .i64 1, .int .i64 211, .string s] 35)) := (Below.refl _ w).alloc (Nat.le_refl _) _
  obtain ⟨z, hz⟩ : ∃ z, s.size = z := ⟨_, rfl⟩
  have hLl : L.length = z := by rw [← hL, bytesI_len, hz]
  have hLb : Bytes L := by rw [← hL]; exact bytesI_ok s
  have HL := Lib.hid hL
  have HLL := Lib.hid hLl
  have HLB := Lib.hid hLb
  have HZ := Lib.hid hz
  rw [hz] at hs
  have wz : (z : Int).tmod 28 = ((z % 28 : Nat) : Int) := by rw [Int.tmod_eq_emod_of_nonneg (by omega)]; omega
  obtain ⟨zm, hzm⟩ : ∃ x, z % 28 = x := ⟨_, rfl⟩
  rw [hzm] at wz
  have hz' : (s.size : Int) = (z : Int) := by rw [hz]
  unfold docR at hd
  simp only [Nat.mul_one, hLl] at hd
  by_cases hbad : z < 32 ∨ zm ≠ 4
  · have hd0 : d = none := by rw [← hd, if_neg (by omega)]
    subst hd0
    clear hd hz hzm hL hLl hLb
    go_enter Try.func15, Try.ntmps15
    go_upto_region 1 with fail
    generalize w.alloc (.cells #[.int .i64 1, .int .i64 211, .string s] 35) = w1 at *
    have k1 := K1.cell
    simp at k1
    by_cases h4 : z < 32
    · have e1 : (z : Int) < 32 := by omega
      go_wp2_with fail
      refine bodyPost_ret (v := .tuple #[.int .i64 0, .slice none 0 0, .int .i64 1]) ?_ rfl ⟨B1, DocRes.err rfl⟩
      simp [results, Try.results15, go_sem]
      try rfl
    · have e1 : ¬ (z : Int) < 32 := by omega
      have e2 : ((zm : Int) != 4) = true := by simp; omega
      go_wp2_with fail
      refine bodyPost_ret (v := .tuple #[.int .i64 0, .slice none 0 0, .int .i64 1]) ?_ rfl ⟨B1, DocRes.err rfl⟩
      simp [results, Try.results15, go_sem]
      try rfl
  · have h40 : 32 ≤ z := by omega
    have hz4 : z % 28 = 4 := by omega
    rw [if_pos (by omega)] at hd
    obtain ⟨M, hM⟩ : ∃ x, (z - 4) / 28 = x := ⟨_, rfl⟩
    rw [hM] at hd
    have hMz : z = 4 + 28 * M := by omega
    have e1 : ¬ (z : Int) < 32 := by omega
    have wz4 : (z : Int).tmod 28 = 4 := by rw [wz]; omega
    clear wz
    have HD := Lib.hid hd
    have HMZ := Lib.hid hMz
    have HGF := Lib.hid (fun W => getB (s.extract 0 4) (L.take 4) (by rw [bytesI_extract, HL.out]; rfl) (n4 L) (.inr (.inr (.inr ⟨by rw [List.length_take]; omega, by obtain ⟨a, b, c, d, r, rfl⟩ := cut4 (l := L) (by omega); rfl⟩))) W)
    clear hd hz hzm hL hLl hLb hbad hM hz4 hMz
    go_enter Try.func15, Try.ntmps15
    go_upto_region 1 with fail
    generalize w.alloc (.cells #[.int .i64 1, .int .i64 211, .string s] 35) = w1 at *
    have k1 := K1.cell
    simp at k1
    have s1 := B1.size
    have ownl := own_down (own_lit w1 71 8) s1
    have Bl : Below w1.heap.size w1 (w1.alloc (.cells #[] 71)) := (Below.refl _ w1).alloc (Nat.le_refl _) _
    have B2 := below_then B1 Bl (Nat.le_refl _)
    go_upto_region 8 with fail
    clear k1
    generalize w1.alloc (.cells #[] 71) = w2 at *
    clear K1 B1 Bl
    go_wp2_with fail
    go_loopw [6, 7, 8] (fun x6 x7 x8 wr => ∃ (k : Nat) (out : List LnR) (m : Nat) (last : Int), k ≤ M ∧ x8 = .int .i64 ((4 + 28 * k : Nat) : Int) ∧ x7 = .int .i64 last ∧ d = (docL 28 decL LnR.p canL (M - k) last (L.drop (4 + 28 * k))).map (out ++ ·) ∧ out.length = m ∧ m = k ∧ (∃ av cv, x6 = .slice av m cv) ∧ wr.ownsRow w.heap.size 71 8 x6 m (rowG cellsR out) ∧ Below w.heap.size w wr) (fun _ _ x8 _ => z - (intOf x8).toNat)
    case atStart => exact ⟨0, [], 0, 0, by omega, rfl, rfl, by rw [← HD.out]; simp, rfl, rfl, ⟨_, _, rfl⟩, by simpa [rowG] using ownl, B2⟩
    case round =>
      clear ownl B2
      obtain ⟨k, out, m, last, hk, rfl, rfl, hdoc, hom, hmk, ⟨av, cv, rfl⟩, own, B⟩ := hrel
      have HDOC := Lib.hid hdoc
      have HOM := Lib.hid hom
      have HMK := Lib.hid hmk
      have hm5 : m ≤ 10000 := by have := HMZ.out; omega
      clear hdoc hom hmk
      obtain ⟨at', hat⟩ : ∃ x, 4 + 28 * k = x := ⟨_, rfl⟩
      rw [hat]
      have HAT := Lib.hid hat
      by_cases hlt : k < M
      · have ha4 : at' + 28 ≤ z := by have := HMZ.out; omega
        have p1 : (at' : Int) < (z : Int) := by omega
        obtain ⟨a0, a1, a2, a3, a4, a5, a6, a7, b0, b1, b2, b3, c0, c1, c2, c3, d0, d1, d2, d3, e0, e1', e2', e3, f0, f1, f2, f3, R, hR⟩ := cut28 (l := L.drop at') (by rw [List.length_drop, HLL.out]; omega)
        have hbt : Bytes (L.drop at') := HLB.out.drop at'
        have hq3b := n3_bd (hbt.drop 4)
        have hcan : canL (L.drop at') = decide (a2 = 0 ∧ a3 = 0 ∧ a7 = 0) := by rw [hR]; rfl
        obtain ⟨u, hu⟩ : ∃ u, s.extract at' (at' + 28) = u := ⟨_, rfl⟩
        have hbu : bytesI u = [a0, a1, a2, a3, a4, a5, a6, a7, b0, b1, b2, b3, c0, c1, c2, c3, d0, d1, d2, d3, e0, e1', e2', e3, f0, f1, f2, f3] := by
          rw [← hu, bytesI_extract, HL.out, List.drop_take, hR]
          have : at' + 28 - at' = 28 := by omega
          rw [this]; rfl
        have husz : u.size = 28 := by rw [← bytesI_len, hbu]; rfl
        have hui : (u.size : Int) = 28 := by rw [husz]; rfl
        obtain ⟨pp, hpp⟩ : ∃ x, a0 = x := ⟨_, rfl⟩
        obtain ⟨ff, hff⟩ : ∃ x, a1 = x := ⟨_, rfl⟩
        obtain ⟨qq, hqq⟩ : ∃ x, n3 [a4, a5, a6] = x := ⟨_, rfl⟩
        obtain ⟨hh, hhh⟩ : ∃ x, n4 [b0, b1, b2, b3] = x := ⟨_, rfl⟩
        obtain ⟨jj, hjj⟩ : ∃ x, n4 [c0, c1, c2, c3] = x := ⟨_, rfl⟩
        obtain ⟨bb, hbb⟩ : ∃ x, n4 [d0, d1, d2, d3] = x := ⟨_, rfl⟩
        obtain ⟨tt, htt⟩ : ∃ x, n4 [e0, e1', e2', e3] = x := ⟨_, rfl⟩
        obtain ⟨dd, hdd⟩ : ∃ x, n4 [f0, f1, f2, f3] = x := ⟨_, rfl⟩
        obtain ⟨q2, hq2⟩ : ∃ x, sgn24 qq = x := ⟨_, rfl⟩
        have hrec : decL (L.drop at') = ⟨pp, ff, q2, hh, jj, bb, tt, dd⟩ := by
          rw [← hq2, ← hpp, ← hff, ← hqq, ← hhh, ← hjj, ← hbb, ← htt, ← hdd, hR]
          unfold decL n3 n4
          simp only [List.drop_succ_cons, List.drop_zero, List.getD_cons_zero, List.getD_cons_succ]
        have hqb : 0 ≤ qq ∧ qq < 16777216 := by
          rw [hR] at hq3b
          rw [← hqq]
          unfold n3 at hq3b ⊢
          simpa using hq3b
        have HGQ := Lib.hid (fun W => getB (u.extract 4 7) [a4, a5, a6] (by rw [bytesI_extract, hbu]; rfl) qq (.inr (.inr (.inl ⟨rfl, hqq⟩))) W)
        have HG0 := Lib.hid (fun W => getB (u.extract 0 1) [a0] (by rw [bytesI_extract, hbu]; rfl) pp (.inl ⟨rfl, hpp⟩) W)
        have HG1 := Lib.hid (fun W => getB (u.extract 1 2) [a1] (by rw [bytesI_extract, hbu]; rfl) ff (.inl ⟨rfl, hff⟩) W)
        have HG2 := Lib.hid (fun W => getB (u.extract 8 12) [b0, b1, b2, b3] (by rw [bytesI_extract, hbu]; rfl) hh (.inr (.inr (.inr ⟨rfl, hhh⟩))) W)
        have HG3 := Lib.hid (fun W => getB (u.extract 12 16) [c0, c1, c2, c3] (by rw [bytesI_extract, hbu]; rfl) jj (.inr (.inr (.inr ⟨rfl, hjj⟩))) W)
        have HG4 := Lib.hid (fun W => getB (u.extract 16 20) [d0, d1, d2, d3] (by rw [bytesI_extract, hbu]; rfl) bb (.inr (.inr (.inr ⟨rfl, hbb⟩))) W)
        have HG5 := Lib.hid (fun W => getB (u.extract 20 24) [e0, e1', e2', e3] (by rw [bytesI_extract, hbu]; rfl) tt (.inr (.inr (.inr ⟨rfl, htt⟩))) W)
        have HG6 := Lib.hid (fun W => getB (u.extract 24 28) [f0, f1, f2, f3] (by rw [bytesI_extract, hbu]; rfl) dd (.inr (.inr (.inr ⟨rfl, hdd⟩))) W)
        have hi2 : ((u[2]'(by omega)).toNat : Int) = a2 := by rw [idxB, hbu]; rfl
        have hi3 : ((u[3]'(by omega)).toNat : Int) = a3 := by rw [idxB, hbu]; rfl
        have hi7 : ((u[7]'(by omega)).toNat : Int) = a7 := by rw [idxB, hbu]; rfl
        have HREC := Lib.hid hrec
        have HCAN := Lib.hid hcan
        have HQ2 := Lib.hid hq2
        have HNX := Lib.hid (show L.drop (4 + 28 * (k + 1)) = (L.drop at').drop 28 by rw [List.drop_drop]; congr 1; have := HAT.out; omega)
        have w4' : IntKind.i64.wrap ((at' : Int) + 28) = ((at' + 28 : Nat) : Int) := by rw [IntWalk.i64_in _ (by omega)]; omega
        have k0 : (0 : Int) ≤ (at' : Int) := by omega
        have k1 : (at' : Int) ≤ ((at' + 28 : Nat) : Int) := by omega
        have k2 : ((at' + 28 : Nat) : Int) ≤ (z : Int) := by omega
        have HMK2 := Lib.hid (show M - k = (M - (k + 1)) + 1 by omega)
        have HUS := Lib.hid husz
        clear hat hR hbt hrec hcan hbu hq3b hpp hff hqq hhh hjj hbb htt hdd hq2
        have hBAD : ∀ (_ : ¬ (last < pp ∧ pp ≤ 15 ∧ decide (a2 = 0 ∧ a3 = 0 ∧ a7 = 0) = true)), d = none := fun hb => by
          rw [HDOC.out, HAT.out, docL_bad (by omega) (by rw [HREC.out, HCAN.out]; exact hb)]
          rfl
        have HBAD := Lib.hid hBAD
        clear hBAD
        go_upto_region 11 with fail
        go_wp2_with fail
        refine (HGQ.out wr).mono ?_
        rintro e w' ⟨rfl, rfl⟩
        by_cases hs8 : 8388607 < qq
        · have hq2' : qq - 16777216 = q2 := by rw [← HQ2.out]; unfold sgn24; rw [if_pos (by omega)]
          have wq2 : IntKind.i64.wrap (qq - 16777216) = q2 := by rw [IntWalk.i64_in _ (by omega), hq2']
          clear hq2'
          go_upto_region 15 with fail
          have hne : Nonempty (UWF (CRL wr ([.int .i64 pp, .int .i64 ff, .int .i64 q2, .int .i64 hh, .int .i64 jj, .int .i64 bb, .int .i64 tt, .int .i64 dd] : List Value).toArray)) := ⟨⟨_, fun _ => undef, _, CRL.start wr _⟩⟩
          refine wp_region_free [(0, 2, some 2), (3, 2, some 5), (6, 3, some 9), (10, 2, some 12), (13, 2, some 15), (16, 2, some 18), (19, 2, some 21), (22, 1, some 23), (24, 0, some 24), (25, 0, none)] (CRL wr ([.int .i64 pp, .int .i64 ff, .int .i64 q2, .int .i64 hh, .int .i64 jj, .int .i64 bb, .int .i64 tt, .int .i64 dd] : List Value).toArray) (GRL pp ff hh jj bb tt dd) (fun y => if y = 2 then .int .i64 pp else if y = 5 then .int .i64 ff else if y = 9 then .int .i64 hh else if y = 12 then .int .i64 jj else if y = 15 then .int .i64 bb else if y = 18 then .int .i64 tt else if y = 21 then .int .i64 dd else .pointer (some ⟨0, 0, none⟩)) (by kernel_rfl) (by kernel_rfl) ?_ ?_ ?_ ?_
          · intro y hy LL G W hC
            simp [moversI] at hy
            exact hC.quiet (by omega) (by omega)
          · exact CRL.start wr _
          · intro y
            exact ⟨fun e => by subst e; rfl, fun e => by subst e; rfl, fun e => by subst e; rfl, fun e => by subst e; rfl, fun e => by subst e; rfl, fun e => by subst e; rfl, fun e => by subst e; rfl, fun e => by subst e; exact ⟨0, rfl⟩⟩
          · intro G hG
            have y2 := (hG 2).c0 rfl
            have y5 := (hG 5).c1 rfl
            have y9 := (hG 9).c2 rfl
            have y12 := (hG 12).c3 rfl
            have y15 := (hG 15).c4 rfl
            have y18 := (hG 18).c5 rfl
            have y21 := (hG 21).c6 rfl
            obtain ⟨xb, y23⟩ := (hG 23).made rfl
            simp only [walkF, List.drop_zero, List.drop_succ_cons, List.take_succ_cons, List.take_zero, List.toList_toArray]; (repeat (go_big_quiet_step (fail))); refine wpQuiet_nil ?_
            refine ⟨_, _, _, _, _, _, rfl, .inl ⟨rfl, ?_, ?_⟩⟩
            · intro LL W hL hA hC
              refine ⟨?_⟩; go_simp; simp only [movesToUpon]
              refine (HG0.out W).mono ?_
              rintro e w' ⟨rfl, rfl⟩
              exact ⟨_, rfl, ⟨fun _ => rfl, (fun e => by cases e), (fun e => by cases e), (fun e => by cases e), (fun e => by cases e), (fun e => by cases e), (fun e => by cases e), (fun e => by cases e)⟩, hC.call (by decide) (by decide) _⟩
            · intro K' hK'; dsimp only at hK'; rw [y2]; go_big_quiet_op; go_big_quiet_on; (repeat (go_big_quiet_step (fail))); refine wpQuiet_nil ?_
              refine ⟨_, _, _, _, _, _, rfl, .inl ⟨rfl, ?_, ?_⟩⟩
              · intro LL W hL hA hC
                refine ⟨?_⟩; go_simp; simp only [movesToUpon]
                refine (HG1.out W).mono ?_
                rintro e w' ⟨rfl, rfl⟩
                exact ⟨_, rfl, ⟨(fun e => by cases e), fun _ => rfl, (fun e => by cases e), (fun e => by cases e), (fun e => by cases e), (fun e => by cases e), (fun e => by cases e), (fun e => by cases e)⟩, hC.call (by decide) (by decide) _⟩
              · intro K' hK'; dsimp only at hK'; rw [y5]; go_big_quiet_op; go_big_quiet_on; (repeat (go_big_quiet_step (fail))); refine wpQuiet_nil ?_
                refine ⟨_, _, _, _, _, _, rfl, .inl ⟨rfl, ?_, ?_⟩⟩
                · intro LL W hL hA hC
                  refine ⟨?_⟩; go_simp; simp only [movesToUpon]
                  refine (HG2.out W).mono ?_
                  rintro e w' ⟨rfl, rfl⟩
                  exact ⟨_, rfl, ⟨(fun e => by cases e), (fun e => by cases e), fun _ => rfl, (fun e => by cases e), (fun e => by cases e), (fun e => by cases e), (fun e => by cases e), (fun e => by cases e)⟩, hC.call (by decide) (by decide) _⟩
                · intro K' hK'; dsimp only at hK'; rw [y9]; go_big_quiet_op; go_big_quiet_on; (repeat (go_big_quiet_step (fail))); refine wpQuiet_nil ?_
                  refine ⟨_, _, _, _, _, _, rfl, .inl ⟨rfl, ?_, ?_⟩⟩
                  · intro LL W hL hA hC
                    refine ⟨?_⟩; go_simp; simp only [movesToUpon]
                    refine (HG3.out W).mono ?_
                    rintro e w' ⟨rfl, rfl⟩
                    exact ⟨_, rfl, ⟨(fun e => by cases e), (fun e => by cases e), (fun e => by cases e), fun _ => rfl, (fun e => by cases e), (fun e => by cases e), (fun e => by cases e), (fun e => by cases e)⟩, hC.call (by decide) (by decide) _⟩
                  · intro K' hK'; dsimp only at hK'; rw [y12]; go_big_quiet_op; go_big_quiet_on; (repeat (go_big_quiet_step (fail))); refine wpQuiet_nil ?_
                    refine ⟨_, _, _, _, _, _, rfl, .inl ⟨rfl, ?_, ?_⟩⟩
                    · intro LL W hL hA hC
                      refine ⟨?_⟩; go_simp; simp only [movesToUpon]
                      refine (HG4.out W).mono ?_
                      rintro e w' ⟨rfl, rfl⟩
                      exact ⟨_, rfl, ⟨(fun e => by cases e), (fun e => by cases e), (fun e => by cases e), (fun e => by cases e), fun _ => rfl, (fun e => by cases e), (fun e => by cases e), (fun e => by cases e)⟩, hC.call (by decide) (by decide) _⟩
                    · intro K' hK'; dsimp only at hK'; rw [y15]; go_big_quiet_op; go_big_quiet_on; (repeat (go_big_quiet_step (fail))); refine wpQuiet_nil ?_
                      refine ⟨_, _, _, _, _, _, rfl, .inl ⟨rfl, ?_, ?_⟩⟩
                      · intro LL W hL hA hC
                        refine ⟨?_⟩; go_simp; simp only [movesToUpon]
                        refine (HG5.out W).mono ?_
                        rintro e w' ⟨rfl, rfl⟩
                        exact ⟨_, rfl, ⟨(fun e => by cases e), (fun e => by cases e), (fun e => by cases e), (fun e => by cases e), (fun e => by cases e), fun _ => rfl, (fun e => by cases e), (fun e => by cases e)⟩, hC.call (by decide) (by decide) _⟩
                      · intro K' hK'; dsimp only at hK'; rw [y18]; go_big_quiet_op; go_big_quiet_on; (repeat (go_big_quiet_step (fail))); refine wpQuiet_nil ?_
                        refine ⟨_, _, _, _, _, _, rfl, .inl ⟨rfl, ?_, ?_⟩⟩
                        · intro LL W hL hA hC
                          refine ⟨?_⟩; go_simp; simp only [movesToUpon]
                          refine (HG6.out W).mono ?_
                          rintro e w' ⟨rfl, rfl⟩
                          exact ⟨_, rfl, ⟨(fun e => by cases e), (fun e => by cases e), (fun e => by cases e), (fun e => by cases e), (fun e => by cases e), (fun e => by cases e), fun _ => rfl, (fun e => by cases e)⟩, hC.call (by decide) (by decide) _⟩
                        · intro K' hK'; dsimp only at hK'; rw [y21]; go_big_quiet_op; go_big_quiet_on; (repeat (go_big_quiet_step (fail))); refine wpQuiet_nil ?_
                          refine ⟨_, _, _, _, _, _, rfl, .inl ⟨rfl, ?_, ?_⟩⟩
                          · intro LL W hL hA hC
                            refine ⟨?_⟩; go_simp; simp only [movesToUpon]
                            exact ⟨⟨(fun e => by cases e), (fun e => by cases e), (fun e => by cases e), (fun e => by cases e), (fun e => by cases e), (fun e => by cases e), (fun e => by cases e), fun _ => ⟨_, rfl⟩⟩, hC.made hL⟩
                          · intro K' hK'; dsimp only at hK'; rw [y23]; go_big_quiet_op; go_big_quiet_on; (repeat (go_big_quiet_step (fail))); refine wpQuiet_nil ?_
                            refine ⟨_, _, _, _, _, _, rfl, .inl ⟨rfl, ?_, ?_⟩⟩
                            · intro LL W hL hA hC
                              obtain ⟨hx0, k0⟩ := hC.at (hA 23 (by kernel_rfl)) hL y23
                              have ck0 := k0.cell
                              have fk0 := k0.frozen
                              simp at ck0
                              obtain ⟨wS, eS, KS, BS, hkS⟩ := eight_setS k0 (.int .i64 pp) (.int .i64 ff) (.int .i64 q2) (.int .i64 hh) (.int .i64 jj) (.int .i64 bb) (.int .i64 tt) (.int .i64 dd) wr.heap.size hx0
                              refine ⟨?_⟩; go_simp; simp only [movesToUpon]
                              exact ⟨⟨(fun e => by cases e), (fun e => by cases e), (fun e => by cases e), (fun e => by cases e), (fun e => by cases e), (fun e => by cases e), (fun e => by cases e), (fun e => by cases e)⟩, hC.stored (hA 23 (by kernel_rfl)) y23 hx0 KS BS _⟩
                            · intro K' hK'; dsimp only at hK'; go_big_quiet_op; go_big_quiet_on; (repeat (go_big_quiet_step (fail))); refine wpQuiet_nil ?_
                              intro LL w9 hL hC
                              obtain ⟨hxb, K9⟩ := hC.done (hL 23 (by decide)) (hL 24 (by decide)) y23
                              have B9 := hC.below
                              have BB := below_then B B9 (Nat.le_refl _)
                              have own9 := own_lasts own B9
                              have c9 := K9.cell
                              simp at c9
                              have hxl := K9.lt
                              have s9 := B9.size
                              have sB := B.size
                              clear hC hL hG y2 y5 y9 y12 y15 y18 y21 y23 hne own
                              by_cases hle : pp ≤ last
                              · have HD0 := Lib.hid (HBAD.out (by omega))
                                go_wp2_with fail
                                refine bodyPost_ret (v := .tuple #[.int .i64 0, .slice none 0 0, .int .i64 1]) ?_ rfl ⟨BB, DocRes.err HD0.out⟩
                                simp [results, Try.results15, go_sem]
                                try rfl
                              · skip
                                by_cases h15 : 15 < pp
                                · have HD0 := Lib.hid (HBAD.out (by omega))
                                  go_wp2_with fail
                                  refine bodyPost_ret (v := .tuple #[.int .i64 0, .slice none 0 0, .int .i64 1]) ?_ rfl ⟨BB, DocRes.err HD0.out⟩
                                  simp [results, Try.results15, go_sem]
                                  try rfl
                                · skip
                                  by_cases h2 : a2 ≠ 0
                                  · have HD0 := Lib.hid (HBAD.out (by intro h; simp at h; omega))
                                    have ja2 : (a2 != 0) = true := by simp [h2]
                                    go_wp2_with fail
                                    refine bodyPost_ret (v := .tuple #[.int .i64 0, .slice none 0 0, .int .i64 1]) ?_ rfl ⟨BB, DocRes.err HD0.out⟩
                                    simp [results, Try.results15, go_sem]
                                    try rfl
                                  · have ja2 : (a2 != 0) = false := by simp at h2; simp [h2]
                                    by_cases h3 : a3 ≠ 0
                                    · have HD0 := Lib.hid (HBAD.out (by intro h; simp at h; omega))
                                      have ja3 : (a3 != 0) = true := by simp [h3]
                                      go_wp2_with fail
                                      refine bodyPost_ret (v := .tuple #[.int .i64 0, .slice none 0 0, .int .i64 1]) ?_ rfl ⟨BB, DocRes.err HD0.out⟩
                                      simp [results, Try.results15, go_sem]
                                      try rfl
                                    · have ja3 : (a3 != 0) = false := by simp at h3; simp [h3]
                                      by_cases h7 : a7 ≠ 0
                                      · have HD0 := Lib.hid (HBAD.out (by intro h; simp at h; omega))
                                        have ja7 : (a7 != 0) = true := by simp [h7]
                                        go_wp2_with fail
                                        refine bodyPost_ret (v := .tuple #[.int .i64 0, .slice none 0 0, .int .i64 1]) ?_ rfl ⟨BB, DocRes.err HD0.out⟩
                                        simp [results, Try.results15, go_sem]
                                        try rfl
                                      · have ja7 : (a7 != 0) = false := by simp at h7; simp [h7]
                                        have HDG := Lib.hid (show d = (docL 28 decL LnR.p canL (M - (k + 1)) pp (L.drop (4 + 28 * (k + 1)))).map ((out ++ [⟨pp, ff, q2, hh, jj, bb, tt, dd⟩]) ++ ·) by
                                          rw [HDOC.out, HMK2.out, HAT.out, docL_good (by rw [HREC.out, HCAN.out]; simp at h2 h3 h7 ⊢; omega), HREC.out, HNX.out, Option.map_map]
                                          congr 1
                                          funext q
                                          simp)
                                        have hrow2 := Lib.hid (show rowG cellsR out ++ [.int .i64 pp, .int .i64 ff, .int .i64 q2, .int .i64 hh, .int .i64 jj, .int .i64 bb, .int .i64 tt, .int .i64 dd] = rowG cellsR (out ++ [⟨pp, ff, q2, hh, jj, bb, tt, dd⟩]) by rw [rowG_append]; rfl)
                                        have sBB := BB.size
                                        have ownb := own_at own9 (w' := w9.alloc (.cells ([.int .i64 pp, .int .i64 ff, .int .i64 q2, .int .i64 hh, .int .i64 jj, .int .i64 bb, .int .i64 tt, .int .i64 dd] : List Value).toArray 71)) (fun j hj => Below.heap_alloc _ _ _ (own9.lt j hj).2)
                                        have hnew := World.news_of_block (Blk.new w9 71 ([.int .i64 pp, .int .i64 ff, .int .i64 q2, .int .i64 hh, .int .i64 jj, .int .i64 bb, .int .i64 tt, .int .i64 dd] : List Value).toArray)
                                        simp only [List.length_cons, List.length_nil] at hnew
                                        clear h2 h3 h7 B9 own9
                                        go_wp2_with (at_builtin; refine wpList_append_lies _ rfl _ _ 50 rfl w.heap.size 71 iq (.agg zRn) 8 64 Try.underlying50 hq0 hq1 hq2 hq3 rfl (by decide) _ _ _ rfl ownb ⟨w9.heap.size, 0, none⟩ 1 1 [.int .i64 pp, .int .i64 ff, .int .i64 q2, .int .i64 hh, .int .i64 jj, .int .i64 bb, .int .i64 tt, .int .i64 dd] rfl rfl hnew (by simp [Value.oneCell']) (by omega) (by rw [maxLen_eq]; omega) (by omega) (by simp; omega) _ rfl ?_; intro g2 cap w8 own8 hgrow hat hlt8)
                                        have B8 : Below w.heap.size w w8 := (BB.alloc sBB _).grown hgrow (by simp; omega) (fun j hj => (ownb.lt j hj).1)
                                        go_roundw
                                        case rel => exact ⟨k + 1, out ++ [⟨pp, ff, q2, hh, jj, bb, tt, dd⟩], m + 1, pp, by omega, by have := HAT.out; go_num, rfl, HDG.out, by rw [List.length_append, HOM.out]; rfl, by have := HMK.out; omega, ⟨_, _, rfl⟩, by rw [← hrow2.out]; exact own8, B8⟩
                                        case measure => simp only [intOf]; omega
        · have hq2' : q2 = qq := by rw [← HQ2.out]; unfold sgn24; rw [if_neg (by omega)]
          subst hq2'
          go_upto_region 15 with fail
          have hne : Nonempty (UWF (CRL wr ([.int .i64 pp, .int .i64 ff, .int .i64 q2, .int .i64 hh, .int .i64 jj, .int .i64 bb, .int .i64 tt, .int .i64 dd] : List Value).toArray)) := ⟨⟨_, fun _ => undef, _, CRL.start wr _⟩⟩
          refine wp_region_free [(0, 2, some 2), (3, 2, some 5), (6, 3, some 9), (10, 2, some 12), (13, 2, some 15), (16, 2, some 18), (19, 2, some 21), (22, 1, some 23), (24, 0, some 24), (25, 0, none)] (CRL wr ([.int .i64 pp, .int .i64 ff, .int .i64 q2, .int .i64 hh, .int .i64 jj, .int .i64 bb, .int .i64 tt, .int .i64 dd] : List Value).toArray) (GRL pp ff hh jj bb tt dd) (fun y => if y = 2 then .int .i64 pp else if y = 5 then .int .i64 ff else if y = 9 then .int .i64 hh else if y = 12 then .int .i64 jj else if y = 15 then .int .i64 bb else if y = 18 then .int .i64 tt else if y = 21 then .int .i64 dd else .pointer (some ⟨0, 0, none⟩)) (by kernel_rfl) (by kernel_rfl) ?_ ?_ ?_ ?_
          · intro y hy LL G W hC
            simp [moversI] at hy
            exact hC.quiet (by omega) (by omega)
          · exact CRL.start wr _
          · intro y
            exact ⟨fun e => by subst e; rfl, fun e => by subst e; rfl, fun e => by subst e; rfl, fun e => by subst e; rfl, fun e => by subst e; rfl, fun e => by subst e; rfl, fun e => by subst e; rfl, fun e => by subst e; exact ⟨0, rfl⟩⟩
          · intro G hG
            have y2 := (hG 2).c0 rfl
            have y5 := (hG 5).c1 rfl
            have y9 := (hG 9).c2 rfl
            have y12 := (hG 12).c3 rfl
            have y15 := (hG 15).c4 rfl
            have y18 := (hG 18).c5 rfl
            have y21 := (hG 21).c6 rfl
            obtain ⟨xb, y23⟩ := (hG 23).made rfl
            simp only [walkF, List.drop_zero, List.drop_succ_cons, List.take_succ_cons, List.take_zero, List.toList_toArray]; (repeat (go_big_quiet_step (fail))); refine wpQuiet_nil ?_
            refine ⟨_, _, _, _, _, _, rfl, .inl ⟨rfl, ?_, ?_⟩⟩
            · intro LL W hL hA hC
              refine ⟨?_⟩; go_simp; simp only [movesToUpon]
              refine (HG0.out W).mono ?_
              rintro e w' ⟨rfl, rfl⟩
              exact ⟨_, rfl, ⟨fun _ => rfl, (fun e => by cases e), (fun e => by cases e), (fun e => by cases e), (fun e => by cases e), (fun e => by cases e), (fun e => by cases e), (fun e => by cases e)⟩, hC.call (by decide) (by decide) _⟩
            · intro K' hK'; dsimp only at hK'; rw [y2]; go_big_quiet_op; go_big_quiet_on; (repeat (go_big_quiet_step (fail))); refine wpQuiet_nil ?_
              refine ⟨_, _, _, _, _, _, rfl, .inl ⟨rfl, ?_, ?_⟩⟩
              · intro LL W hL hA hC
                refine ⟨?_⟩; go_simp; simp only [movesToUpon]
                refine (HG1.out W).mono ?_
                rintro e w' ⟨rfl, rfl⟩
                exact ⟨_, rfl, ⟨(fun e => by cases e), fun _ => rfl, (fun e => by cases e), (fun e => by cases e), (fun e => by cases e), (fun e => by cases e), (fun e => by cases e), (fun e => by cases e)⟩, hC.call (by decide) (by decide) _⟩
              · intro K' hK'; dsimp only at hK'; rw [y5]; go_big_quiet_op; go_big_quiet_on; (repeat (go_big_quiet_step (fail))); refine wpQuiet_nil ?_
                refine ⟨_, _, _, _, _, _, rfl, .inl ⟨rfl, ?_, ?_⟩⟩
                · intro LL W hL hA hC
                  refine ⟨?_⟩; go_simp; simp only [movesToUpon]
                  refine (HG2.out W).mono ?_
                  rintro e w' ⟨rfl, rfl⟩
                  exact ⟨_, rfl, ⟨(fun e => by cases e), (fun e => by cases e), fun _ => rfl, (fun e => by cases e), (fun e => by cases e), (fun e => by cases e), (fun e => by cases e), (fun e => by cases e)⟩, hC.call (by decide) (by decide) _⟩
                · intro K' hK'; dsimp only at hK'; rw [y9]; go_big_quiet_op; go_big_quiet_on; (repeat (go_big_quiet_step (fail))); refine wpQuiet_nil ?_
                  refine ⟨_, _, _, _, _, _, rfl, .inl ⟨rfl, ?_, ?_⟩⟩
                  · intro LL W hL hA hC
                    refine ⟨?_⟩; go_simp; simp only [movesToUpon]
                    refine (HG3.out W).mono ?_
                    rintro e w' ⟨rfl, rfl⟩
                    exact ⟨_, rfl, ⟨(fun e => by cases e), (fun e => by cases e), (fun e => by cases e), fun _ => rfl, (fun e => by cases e), (fun e => by cases e), (fun e => by cases e), (fun e => by cases e)⟩, hC.call (by decide) (by decide) _⟩
                  · intro K' hK'; dsimp only at hK'; rw [y12]; go_big_quiet_op; go_big_quiet_on; (repeat (go_big_quiet_step (fail))); refine wpQuiet_nil ?_
                    refine ⟨_, _, _, _, _, _, rfl, .inl ⟨rfl, ?_, ?_⟩⟩
                    · intro LL W hL hA hC
                      refine ⟨?_⟩; go_simp; simp only [movesToUpon]
                      refine (HG4.out W).mono ?_
                      rintro e w' ⟨rfl, rfl⟩
                      exact ⟨_, rfl, ⟨(fun e => by cases e), (fun e => by cases e), (fun e => by cases e), (fun e => by cases e), fun _ => rfl, (fun e => by cases e), (fun e => by cases e), (fun e => by cases e)⟩, hC.call (by decide) (by decide) _⟩
                    · intro K' hK'; dsimp only at hK'; rw [y15]; go_big_quiet_op; go_big_quiet_on; (repeat (go_big_quiet_step (fail))); refine wpQuiet_nil ?_
                      refine ⟨_, _, _, _, _, _, rfl, .inl ⟨rfl, ?_, ?_⟩⟩
                      · intro LL W hL hA hC
                        refine ⟨?_⟩; go_simp; simp only [movesToUpon]
                        refine (HG5.out W).mono ?_
                        rintro e w' ⟨rfl, rfl⟩
                        exact ⟨_, rfl, ⟨(fun e => by cases e), (fun e => by cases e), (fun e => by cases e), (fun e => by cases e), (fun e => by cases e), fun _ => rfl, (fun e => by cases e), (fun e => by cases e)⟩, hC.call (by decide) (by decide) _⟩
                      · intro K' hK'; dsimp only at hK'; rw [y18]; go_big_quiet_op; go_big_quiet_on; (repeat (go_big_quiet_step (fail))); refine wpQuiet_nil ?_
                        refine ⟨_, _, _, _, _, _, rfl, .inl ⟨rfl, ?_, ?_⟩⟩
                        · intro LL W hL hA hC
                          refine ⟨?_⟩; go_simp; simp only [movesToUpon]
                          refine (HG6.out W).mono ?_
                          rintro e w' ⟨rfl, rfl⟩
                          exact ⟨_, rfl, ⟨(fun e => by cases e), (fun e => by cases e), (fun e => by cases e), (fun e => by cases e), (fun e => by cases e), (fun e => by cases e), fun _ => rfl, (fun e => by cases e)⟩, hC.call (by decide) (by decide) _⟩
                        · intro K' hK'; dsimp only at hK'; rw [y21]; go_big_quiet_op; go_big_quiet_on; (repeat (go_big_quiet_step (fail))); refine wpQuiet_nil ?_
                          refine ⟨_, _, _, _, _, _, rfl, .inl ⟨rfl, ?_, ?_⟩⟩
                          · intro LL W hL hA hC
                            refine ⟨?_⟩; go_simp; simp only [movesToUpon]
                            exact ⟨⟨(fun e => by cases e), (fun e => by cases e), (fun e => by cases e), (fun e => by cases e), (fun e => by cases e), (fun e => by cases e), (fun e => by cases e), fun _ => ⟨_, rfl⟩⟩, hC.made hL⟩
                          · intro K' hK'; dsimp only at hK'; rw [y23]; go_big_quiet_op; go_big_quiet_on; (repeat (go_big_quiet_step (fail))); refine wpQuiet_nil ?_
                            refine ⟨_, _, _, _, _, _, rfl, .inl ⟨rfl, ?_, ?_⟩⟩
                            · intro LL W hL hA hC
                              obtain ⟨hx0, k0⟩ := hC.at (hA 23 (by kernel_rfl)) hL y23
                              have ck0 := k0.cell
                              have fk0 := k0.frozen
                              simp at ck0
                              obtain ⟨wS, eS, KS, BS, hkS⟩ := eight_setS k0 (.int .i64 pp) (.int .i64 ff) (.int .i64 q2) (.int .i64 hh) (.int .i64 jj) (.int .i64 bb) (.int .i64 tt) (.int .i64 dd) wr.heap.size hx0
                              refine ⟨?_⟩; go_simp; simp only [movesToUpon]
                              exact ⟨⟨(fun e => by cases e), (fun e => by cases e), (fun e => by cases e), (fun e => by cases e), (fun e => by cases e), (fun e => by cases e), (fun e => by cases e), (fun e => by cases e)⟩, hC.stored (hA 23 (by kernel_rfl)) y23 hx0 KS BS _⟩
                            · intro K' hK'; dsimp only at hK'; go_big_quiet_op; go_big_quiet_on; (repeat (go_big_quiet_step (fail))); refine wpQuiet_nil ?_
                              intro LL w9 hL hC
                              obtain ⟨hxb, K9⟩ := hC.done (hL 23 (by decide)) (hL 24 (by decide)) y23
                              have B9 := hC.below
                              have BB := below_then B B9 (Nat.le_refl _)
                              have own9 := own_lasts own B9
                              have c9 := K9.cell
                              simp at c9
                              have hxl := K9.lt
                              have s9 := B9.size
                              have sB := B.size
                              clear hC hL hG y2 y5 y9 y12 y15 y18 y21 y23 hne own
                              by_cases hle : pp ≤ last
                              · have HD0 := Lib.hid (HBAD.out (by omega))
                                go_wp2_with fail
                                refine bodyPost_ret (v := .tuple #[.int .i64 0, .slice none 0 0, .int .i64 1]) ?_ rfl ⟨BB, DocRes.err HD0.out⟩
                                simp [results, Try.results15, go_sem]
                                try rfl
                              · skip
                                by_cases h15 : 15 < pp
                                · have HD0 := Lib.hid (HBAD.out (by omega))
                                  go_wp2_with fail
                                  refine bodyPost_ret (v := .tuple #[.int .i64 0, .slice none 0 0, .int .i64 1]) ?_ rfl ⟨BB, DocRes.err HD0.out⟩
                                  simp [results, Try.results15, go_sem]
                                  try rfl
                                · skip
                                  by_cases h2 : a2 ≠ 0
                                  · have HD0 := Lib.hid (HBAD.out (by intro h; simp at h; omega))
                                    have ja2 : (a2 != 0) = true := by simp [h2]
                                    go_wp2_with fail
                                    refine bodyPost_ret (v := .tuple #[.int .i64 0, .slice none 0 0, .int .i64 1]) ?_ rfl ⟨BB, DocRes.err HD0.out⟩
                                    simp [results, Try.results15, go_sem]
                                    try rfl
                                  · have ja2 : (a2 != 0) = false := by simp at h2; simp [h2]
                                    by_cases h3 : a3 ≠ 0
                                    · have HD0 := Lib.hid (HBAD.out (by intro h; simp at h; omega))
                                      have ja3 : (a3 != 0) = true := by simp [h3]
                                      go_wp2_with fail
                                      refine bodyPost_ret (v := .tuple #[.int .i64 0, .slice none 0 0, .int .i64 1]) ?_ rfl ⟨BB, DocRes.err HD0.out⟩
                                      simp [results, Try.results15, go_sem]
                                      try rfl
                                    · have ja3 : (a3 != 0) = false := by simp at h3; simp [h3]
                                      by_cases h7 : a7 ≠ 0
                                      · have HD0 := Lib.hid (HBAD.out (by intro h; simp at h; omega))
                                        have ja7 : (a7 != 0) = true := by simp [h7]
                                        go_wp2_with fail
                                        refine bodyPost_ret (v := .tuple #[.int .i64 0, .slice none 0 0, .int .i64 1]) ?_ rfl ⟨BB, DocRes.err HD0.out⟩
                                        simp [results, Try.results15, go_sem]
                                        try rfl
                                      · have ja7 : (a7 != 0) = false := by simp at h7; simp [h7]
                                        have HDG := Lib.hid (show d = (docL 28 decL LnR.p canL (M - (k + 1)) pp (L.drop (4 + 28 * (k + 1)))).map ((out ++ [⟨pp, ff, q2, hh, jj, bb, tt, dd⟩]) ++ ·) by
                                          rw [HDOC.out, HMK2.out, HAT.out, docL_good (by rw [HREC.out, HCAN.out]; simp at h2 h3 h7 ⊢; omega), HREC.out, HNX.out, Option.map_map]
                                          congr 1
                                          funext q
                                          simp)
                                        have hrow2 := Lib.hid (show rowG cellsR out ++ [.int .i64 pp, .int .i64 ff, .int .i64 q2, .int .i64 hh, .int .i64 jj, .int .i64 bb, .int .i64 tt, .int .i64 dd] = rowG cellsR (out ++ [⟨pp, ff, q2, hh, jj, bb, tt, dd⟩]) by rw [rowG_append]; rfl)
                                        have sBB := BB.size
                                        have ownb := own_at own9 (w' := w9.alloc (.cells ([.int .i64 pp, .int .i64 ff, .int .i64 q2, .int .i64 hh, .int .i64 jj, .int .i64 bb, .int .i64 tt, .int .i64 dd] : List Value).toArray 71)) (fun j hj => Below.heap_alloc _ _ _ (own9.lt j hj).2)
                                        have hnew := World.news_of_block (Blk.new w9 71 ([.int .i64 pp, .int .i64 ff, .int .i64 q2, .int .i64 hh, .int .i64 jj, .int .i64 bb, .int .i64 tt, .int .i64 dd] : List Value).toArray)
                                        simp only [List.length_cons, List.length_nil] at hnew
                                        clear h2 h3 h7 B9 own9
                                        go_wp2_with (at_builtin; refine wpList_append_lies _ rfl _ _ 50 rfl w.heap.size 71 iq (.agg zRn) 8 64 Try.underlying50 hq0 hq1 hq2 hq3 rfl (by decide) _ _ _ rfl ownb ⟨w9.heap.size, 0, none⟩ 1 1 [.int .i64 pp, .int .i64 ff, .int .i64 q2, .int .i64 hh, .int .i64 jj, .int .i64 bb, .int .i64 tt, .int .i64 dd] rfl rfl hnew (by simp [Value.oneCell']) (by omega) (by rw [maxLen_eq]; omega) (by omega) (by simp; omega) _ rfl ?_; intro g2 cap w8 own8 hgrow hat hlt8)
                                        have B8 : Below w.heap.size w w8 := (BB.alloc sBB _).grown hgrow (by simp; omega) (fun j hj => (ownb.lt j hj).1)
                                        go_roundw
                                        case rel => exact ⟨k + 1, out ++ [⟨pp, ff, q2, hh, jj, bb, tt, dd⟩], m + 1, pp, by omega, by have := HAT.out; go_num, rfl, HDG.out, by rw [List.length_append, HOM.out]; rfl, by have := HMK.out; omega, ⟨_, _, rfl⟩, by rw [← hrow2.out]; exact own8, B8⟩
                                        case measure => simp only [intOf]; omega
      · obtain rfl : k = M := by omega
        have haz : at' = z := by have := HMZ.out; have := HAT.out; omega
        have p1 : ¬ (at' : Int) < (z : Int) := by omega
        have hdd : d = some out := by
          rw [HDOC.out, Nat.sub_self]
          show some (out ++ []) = some out
          rw [List.append_nil]
        have HDD := Lib.hid hdd
        have c1 : (4 : Int) ≤ (z : Int) := by omega
        clear hdd haz
        go_wp2_with fail
        refine (HGF.out wr).mono ?_
        rintro e w' ⟨rfl, rfl⟩
        obtain ⟨_, _, e9, SE⟩ := RnAt.of_own own HOM.out
        injection e9 with e9 e8 e7
        subst e9 e7
        go_wp2_with fail
        refine bodyPost_ret (v := .tuple #[.int .i64 (n4 L), .slice av m cv, .int .i64 0]) ?_ rfl ⟨B, DocRes.ok HDD.out HOM.out av cv SE⟩
        simp [results, Try.results15, go_sem]
        try rfl
end Go.Proofs.Ytliilcadlijnoaa
