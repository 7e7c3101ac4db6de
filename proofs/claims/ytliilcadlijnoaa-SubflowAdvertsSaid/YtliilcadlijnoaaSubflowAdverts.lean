/- SubflowAdverts, walked. No condition. (Printed by gen_subads.py.) -/
import Derived.Test.YtliilcadlijnoaaSubRP
namespace Go.Proofs.Ytliilcadlijnoaa
open Go.RowKit BigFrame
attribute [local go_sem ↓] Go.wp_at_zero Go.wp_at_succ

theorem pc07_neq1 (x0 x1 : Int) (x2 : ByteArray) (w : World) : (binOp .neq 35 (.agg #[.int .i64 x0, .int .i64 x1, .string x2]) (.agg #[.int .i64 x0, .int .i64 x1, .string x2])).run Try.prog w = .ok (.bool false) w := by
  rw [pc07_neq]; simp
attribute [local go_sem] pc07_neq1 pc07_guard pcc_guard
/-- While both pieces are drawn. -/
structure CAds (w0 : World) (n : Nat) (l : List Value) (L : Nat → Bool) (G : Nat → Value) (W : World) : Prop where
  below : Below w0.heap.size w0 W
  row : L 8 = true → W.ownsRow w0.heap.size 3 1 (G 8) n l
structure GAds (n : Nat) (pv : Value) (q : Nat) (v : Value) : Prop where
  piece : q = 4 → v = pv
  row : q = 8 → ∃ a k, v = .slice a n k
  same : q = 10 → v = .bool true
theorem CAds.on {w0 W W' : World} {n : Nat} {l : List Value} {L : Nat → Bool} {G : Nat → Value} (h : CAds w0 n l L G W) (hb : Below W.heap.size W W') {z : Nat} (hz : z ≠ 8) (u : Value) : CAds w0 n l (upd L z) (upF G z u) W' :=
  ⟨below_then h.below hb (Nat.le_refl _), fun e => by
    rw [updL_ne L (Ne.symm hz)] at e
    rw [upF_ne _ _ (Ne.symm hz)]
    exact own_at (h.row e) (fun j hj => hb.block j ((h.row e).lt j hj).2)⟩
theorem CAds.quiet {w0 W : World} {n : Nat} {l : List Value} {L : Nat → Bool} {G : Nat → Value} (h : CAds w0 n l L G W) {z : Nat} (hz : z ≠ 8) : CAds w0 n l (upd L z) G W :=
  ⟨h.below, fun e => by rw [updL_ne L (Ne.symm hz)] at e; exact h.row e⟩
set_option maxRecDepth 8000 in
set_option maxHeartbeats 16000000 in
theorem SubflowAdverts_walk (a0 : Int) (a1a : Option Addr) (a1l a1c : Nat) (a1e0 : Nat → Int) (a1e1 : Nat → Bool) (a1e2 : Nat → Int) (w : World) (a0w : (Lit.int .u32 a0).wf = true) (a1S : SliceOf w a1a a1l a1c 3 (fun i => [.int .i64 (a1e0 i), .bool (a1e1 i), .int .i64 (a1e2 i)])) (a1F0 : ∀ i, i < a1l → (Lit.int .i64 (a1e0 i)).wf = true) (a1F1 : ∀ i, i < a1l → (Lit.int .i64 (a1e2 i)).wf = true) :
    Calls Try.prog 3 #[.int .u32 a0, .slice a1a a1l a1c] w fun e w' => e = .returned (.bool true) ∧ Below w.heap.size w w' := by
  obtain ⟨ip, hp0, hp1, hp2, hp3⟩ := info_ad
  obtain ⟨i0, hi0, hz0, hz1, hz2⟩ := info_parts (show (Try.prog.info? 3).map (fun i => (i.zero, i.size, i.bytes)) = some (some (.int .i64 0), 1, 8) by kernel_rfl)
  have hs1 := wfU32 a0w
  have wsrc : IntKind.i64.wrap a0 = a0 := IntWalk.i64_in _ (by omega)
  obtain ⟨m, hm⟩ : ∃ m : Nat, min a1l 17 = m := ⟨_, rfl⟩
  have hm17 : m ≤ 17 ∧ m ≤ a1l := by omega
  have hm1 : (if 17 < (a1l : Int) then 17 else (a1l : Int)) = (m : Int) := by rw [← hm]; split <;> omega
  have hm2 : min (a1l : Int) 17 = (m : Int) := by omega
  obtain ⟨xs, hxs⟩ : ∃ xs : List AdR, ((List.range m).map fun i => ⟨a1e0 i, a1e1 i, a1e2 i⟩) = xs := ⟨_, rfl⟩
  have hxl : xs.length = m := by rw [← hxs]; simp
  have SX : AdAt w a1a m a1c xs := by
    refine ⟨hxl, Nat.le_trans hm17.2 a1S.1, a1S.2.1, fun hp => ?_⟩
    obtain ⟨b, off, ha, hb, hc⟩ := a1S.2.2 (by omega)
    refine ⟨b, off, ha, hb, fun i hi j u hu => hc i (by omega) j u ?_⟩
    have : xs.getD i zAd = ⟨a1e0 i, a1e1 i, a1e2 i⟩ := by
      rw [← hxs, List.getD_eq_getElem?_getD, List.getElem?_map, List.getElem?_range hi]; rfl
    have hu2 : (cellsA (xs.getD i zAd))[j]? = some u := hu
    rw [this] at hu2
    exact hu2
  have HXL := Lib.hid hxl
  have HSX := Lib.hid SX
  have SR : SliceOf w a1a m a1c 3 (fun i => [.int .i64 (xs.getD i zAd).p, .bool (xs.getD i zAd).u, .int .i64 (xs.getD i zAd).r]) := SX.row
  have HSR := Lib.hid SR
  have hcap := a1S.1
  have hcm := a1S.2.1
  rw [maxLen_eq] at hcm
  have nl : (m : Int) ≤ (a1c : Int) := by omega
  have nl2 : (0 : Int) ≤ (m : Int) := by omega
  clear hm hxs SX SR a0w a1S a1F0 a1F1
  go_enter Try.func3, Try.ntmps3
  go_wp2_with fail
  refine (law11_awake _).mono ?_
  rintro e w1 ⟨rfl, B1⟩
  have Ka := Blk.new w1 27 #[.int .u32 a0, .slice none 0 0]
  have Ba : Below w1.heap.size w1 (w1.alloc (.cells #[.int .u32 a0, .slice none 0 0] 27)) := (Below.refl _ w1).alloc (Nat.le_refl _) _
  have B8 := below_then B1 Ba (Nat.le_refl _)
  have hga0 := B1.size
  go_upto_region 5 with fail
  obtain ⟨ga, hga⟩ : ∃ ga, w1.heap.size = ga := ⟨_, rfl⟩
  rw [hga] at Ka hga0 ⊢
  generalize w1.alloc (.cells #[.int .u32 a0, .slice none 0 0] 27) = w8 at *
  clear B1 Ba hga
  have hgz : ga < w8.heap.size := Ka.lt
  obtain ⟨wz, hwz⟩ : ∃ wl, wl = w8 := ⟨_, rfl⟩
  subst hwz
  go_wp2_with fail
  go_loopw [6, 23] (fun x6 x23 wr => ∃ (k z : Nat) (av : Option Addr) (cv : Nat), k ≤ m ∧ x23 = .int .i64 k ∧ (upsA (xs.take k)).length = z ∧ z ≤ k ∧ Blk wr ga 27 #[.int .u32 a0, .slice av k cv] ∧ wr.ownsRow wz.heap.size 31 3 (.slice av k cv) k (rowG cellsA (xs.take k)) ∧ wr.ownsRow wz.heap.size 3 1 x6 z (cellsK .i64 (upsA (xs.take k))) ∧ wz.heap.size ≤ wr.heap.size ∧ Below w.heap.size w wr) (fun _ x23 _ => 17 - (intOf x23).toNat)
  case atStart => exact ⟨0, 0, none, 0, by omega, rfl, rfl, by omega, Ka, ⟨rfl, .inl ⟨rfl, rfl⟩⟩, ⟨rfl, .inl ⟨rfl, rfl⟩⟩, Nat.le_refl _, B8⟩
  case round =>
    clear Ka B8
    obtain ⟨k, z, av, cv, hk, rfl, hz, hzk, Kr, own, ownu, hsz, B⟩ := hrel
    have HZ := Lib.hid hz
    clear hz
    have sB := B.size
    by_cases hlt : k < m
    · obtain ⟨b1, o1, rfl, l1, hc1⟩ := HSR.out.at3y (by omega)
      have hkl : k < xs.length := by have := HXL.out; omega
      obtain ⟨x, hx⟩ : ∃ x, xs[k]? = some x := ⟨_, List.getElem?_eq_getElem hkl⟩
      have hd := hc1 k hlt
      rw [getD_of hx] at hd
      have HUS := Lib.hid (upsA_snoc xs k x hx)
      have HRW := Lib.hid (show rowG cellsA (xs.take (k + 1)) = rowG cellsA (xs.take k) ++ cellsA x by rw [List.take_add_one, hx, rowG_append]; simp [rowG])
      obtain ⟨p, uf, r⟩ := x
      simp only at hd
      obtain ⟨d0, d1, d2⟩ := hd
      have D0 := (B.cell (p := ⟨b1, o1 + k * 3, none⟩) l1).trans d0
      have D1 := (B.cell (p := ⟨b1, o1 + k * 3 + 1, none⟩) l1).trans d1
      have D2 := (B.cell (p := ⟨b1, o1 + k * 3 + 2, none⟩) l1).trans d2
      have p0 : (0 : Int) ≤ (k : Int) := by omega
      have p1 : (k : Int) < (m : Int) := by omega
      have wk : IntKind.i64.wrap ((k : Int) + 1) = ((k + 1 : Nat) : Int) := by rw [IntWalk.i64_in _ (by omega)]; omega
      have Kx := Blk.new wr 30 #[.int .i64 p, .bool uf, .int .i64 r]
      have Bx : Below wr.heap.size wr (wr.alloc (.cells #[.int .i64 p, .bool uf, .int .i64 r] 30)) := (Below.refl _ wr).alloc (Nat.le_refl _) _
      have own' := own_lasts own Bx
      have ownu' := own_lasts ownu Bx
      have Kr' := Kr.below Bx Kr.lt
      have BW := below_then B Bx (Nat.le_refl _)
      clear hx hc1 d0 d1 d2 hkl own ownu Kr
      go_upto_region 9 with fail
      clear D0 D1 D2
      have sz2 := Bx.size
      clear Bx
      generalize wr.alloc (.cells #[.int .i64 p, .bool uf, .int .i64 r] 30) = wa at *
      have ca := Kx.cell
      have ck := Kr'.cell
      simp at ca ck
      have Bab : Below wa.heap.size wa (wa.alloc (.cells #[.int .i64 p, .bool uf, .int .i64 r] 31)) := (Below.refl _ wa).alloc (Nat.le_refl _) _
      have ownb := own_lasts own' Bab
      have ownub := own_lasts ownu' Bab
      have Krb := Kr'.below Bab Kr'.lt
      have Kxb := Kx.below Bab Kx.lt
      have hnew := World.news_of_block (Blk.new wa 31 #[.int .i64 p, .bool uf, .int .i64 r])
      go_upto_region 10 with (at_builtin; refine wpList_append_lies _ rfl _ _ 25 rfl wz.heap.size 31 ip (.agg #[.int .i64 0, .bool false, .int .i64 0]) 3 24 Try.underlying25 hp0 hp1 hp2 hp3 rfl (by decide) _ _ _ rfl ownb ⟨wa.heap.size, 0, none⟩ 1 1 [.int .i64 p, .bool uf, .int .i64 r] rfl rfl hnew (by simp [Value.oneCell']) (by omega) (by rw [maxLen_eq]; omega) (by omega) (by simp; omega) _ rfl ?_; intro g2 cap w8 own8 hgrow hat hlt8; have Kr8 : Blk w8 ga 27 _ := (hgrow.block _ Krb.lt (own_ne_blk ownb Krb (by decide)).symm).trans Krb; have ck8 := Kr8.cell; have fk8 := Kr8.frozen; simp at ck8)
      have Kx8 : Blk w8 wr.heap.size 30 _ := (hgrow.block _ Kxb.lt (own_ne_blk ownb Kxb (by decide)).symm).trans Kxb
      have ownu8 := own_at ownub (w' := w8) (fun j hj => hgrow.block j (ownub.lt j hj).2 (fun e => own_ne ownub ownb (by decide) j hj e.symm))
      have B8 : Below w.heap.size w w8 := (BW.alloc (by omega) _).grown hgrow (by simp; omega) (fun j hj => by have := (ownb.lt j hj).1; omega)
      have Kr9 := Kr8.set_ 1 (.slice (some ⟨g2, 0, none⟩) (k + 1) cap)
      simp at Kr9
      have hk9 : ∀ q, q ≠ ga → (w8.setCell ⟨ga, 1, none⟩ (.slice (some ⟨g2, 0, none⟩) (k + 1) cap)).heap[q]? = w8.heap[q]? := fun q hq => Below.heap_setCell _ ⟨ga, 1, none⟩ _ q hq
      have n8 := own_ne_blk own8 Kr8 (by decide)
      have nu8 := own_ne_blk ownu8 Kr8 (by decide)
      have own9 := own_at own8 (w' := w8.setCell ⟨ga, 1, none⟩ (.slice (some ⟨g2, 0, none⟩) (k + 1) cap)) (fun j hj => hk9 j (fun e => n8 (by rw [hj, e])))
      have ownu9 := own_at ownu8 (w' := w8.setCell ⟨ga, 1, none⟩ (.slice (some ⟨g2, 0, none⟩) (k + 1) cap)) (fun j hj => hk9 j (fun e => nu8 (by rw [hj, e])))
      have nx : wr.heap.size ≠ ga := Blk.ne_ Kx8 Kr8 (by decide)
      have Kx9 : Blk (w8.setCell ⟨ga, 1, none⟩ (.slice (some ⟨g2, 0, none⟩) (k + 1) cap)) wr.heap.size 30 _ := (hk9 _ nx).trans Kx8
      have B9 := B8.setCell (p := ⟨ga, 1, none⟩) (by show w.heap.size ≤ ga; omega) (.slice (some ⟨g2, 0, none⟩) (k + 1) cap)
      have s8 := hgrow.size
      have s9 : wz.heap.size ≤ (w8.setCell ⟨ga, 1, none⟩ (.slice (some ⟨g2, 0, none⟩) (k + 1) cap)).heap.size := by simp at s8 ⊢; omega
      have own10 : (w8.setCell ⟨ga, 1, none⟩ (.slice (some ⟨g2, 0, none⟩) (k + 1) cap)).ownsRow wz.heap.size 31 3 (.slice (some ⟨g2, 0, none⟩) (k + 1) cap) (k + 1) (rowG cellsA (xs.take (k + 1))) := by rw [HRW.out]; exact own9
      clear ca ck Kx Kr' own' ownu' ownb ownub Krb Kxb hnew Bab hgrow hat own8 Kr8 ck8 fk8 Kx8 ownu8 B8 hk9 n8 nu8 own9 s8 nx
      generalize w8.setCell ⟨ga, 1, none⟩ (.slice (some ⟨g2, 0, none⟩) (k + 1) cap) = w9 at *
      have cx := Kx9.cell
      simp at cx
      have sw9 := B9.size
      cases uf with
      | true =>
        have hus := HUS.out
        simp only [if_true] at hus
        have HUS2 := Lib.hid hus
        clear hus
        have Bi : Below w9.heap.size w9 (w9.alloc (.cells #[.int .i64 p] 3)) := (Below.refl _ w9).alloc (Nat.le_refl _) _
        have Kr10 := Kr9.below Bi Kr9.lt
        have own11 := own_lasts own10 Bi
        have ownu11 := own_lasts ownu9 Bi
        go_wp2_with (at_builtin; refine wpList_append_lies _ rfl _ _ 28 rfl wz.heap.size 3 i0 (.int .i64 0) 1 8 Try.underlying28 hi0 hz0 hz1 hz2 rfl (by decide) _ _ _ rfl (ownu9.alloc _) ⟨w9.heap.size, 0, none⟩ 1 1 [.int .i64 p] rfl rfl (cell_one_new _ _ _) (by simp [Value.oneCell']) (by omega) (by rw [maxLen_eq]; omega) (by omega) (by simp; omega) _ rfl ?_; intro g3 cap3 w6 own6 hgrow hat hlt6)
        have Kr6 : Blk w6 ga 27 _ := (hgrow.block _ Kr10.lt (own_ne_blk ownu11 Kr10 (by decide)).symm).trans Kr10
        have own12 := own_at own11 (w' := w6) (fun j hj => hgrow.block j (own11.lt j hj).2 (fun e => own_ne own11 ownu11 (by decide) j hj e.symm))
        have hB6 : Below w.heap.size w w6 := (B9.alloc sw9 _).grown hgrow (by simp; omega) (fun j hj => by have := (ownu9.lt j hj).1; omega)
        have s6 := hgrow.size
        go_roundw
        case rel => exact ⟨k + 1, z + 1, _, _, by omega, by go_num, by rw [HUS2.out, List.length_append, HZ.out]; rfl, by omega, Kr6, own12, by rw [HUS2.out, cellsK_snoc]; exact own6, by simp at s6; omega, hB6⟩
        case measure => simp only [intOf]; omega
      | false =>
        have hus := HUS.out
        simp only [Bool.false_eq_true, if_false, List.append_nil] at hus
        have HUS2 := Lib.hid hus
        clear hus
        go_wp2_with fail
        go_roundw
        case rel => exact ⟨k + 1, z, _, _, by omega, by go_num, by rw [HUS2.out]; exact HZ.out, by omega, Kr9, own10, by rw [HUS2.out]; exact ownu9, s9, B9⟩
        case measure => simp only [intOf]; omega
    · obtain rfl : k = m := by omega
      have j1 : ¬ (k : Int) < (k : Int) := by omega
      have hall : xs.take k = xs := by have := HXL.out; rw [← this]; exact List.take_length
      have hz := HZ.out
      rw [hall] at own ownu hz
      have HZ2 := Lib.hid hz
      obtain ⟨_, _, e9, SA⟩ := AdAt.of_own own HXL.out
      injection e9 with e9 e8 e7
      subst e9 e7
      obtain ⟨f, hf⟩ : ∃ f : Nat → Int, (fun i => (upsA xs).getD i 0) = f := ⟨_, rfl⟩
      have HG := Lib.hid (show ∀ i, i < z → (cellsK .i64 (upsA xs))[i]? = some (.int .i64 (f i)) from fun i hi => by
        rw [← hf]
        refine cellsK_some .i64 _ i _ ?_
        show (upsA xs)[i]? = some ((upsA xs).getD i 0)
        rw [List.getD_eq_getElem?_getD, List.getElem?_eq_getElem (by omega)]; rfl)
      obtain ⟨ua, uc, rfl, SU⟩ := SliceOf.of_own ownu (fun i => .int .i64 (f i)) (fun i hi => HG.out i hi)
      obtain ⟨bo, hbo⟩ : ∃ bo, pieceA a0 xs = bo := ⟨_, rfl⟩
      have HBO := Lib.hid hbo
      have HPI := Lib.hid (ad_Piece a0 hs1 av k cv xs wr SA (by omega))
      rw [hbo] at HPI
      obtain ⟨pf, pk, ps, hpv⟩ : ∃ pf pk ps, pcV 2 bo = .agg #[.int .i64 pf, .int .i64 pk, .string ps] := by cases bo <;> exact ⟨_, _, _, rfl⟩
      rw [hpv] at HPI
      have HPV := Lib.hid hpv
      have ck := Kr.cell
      simp at ck
      clear hall hz hf hbo hpv own ownu
      go_upto_region 13 with fail
      go_wp2_with fail
      refine HPI.out.mono ?_
      rintro e w2 ⟨rfl, B2⟩
      have Kp := Blk.new w2 33 #[.int .i64 pf, .int .i64 pk, .string ps]
      have Bp : Below w2.heap.size w2 (w2.alloc (.cells #[.int .i64 pf, .int .i64 pk, .string ps] 33)) := (Below.refl _ w2).alloc (Nat.le_refl _) _
      have B02 := below_then (below_then B B2 (Nat.le_refl _)) Bp (Nat.le_refl _)
      have SA3 := (SA.below B2).below Bp
      have SU3 := (SU.below B2).below Bp
      have Kr3 := (Kr.below B2 Kr.lt).below Bp (Kr.below B2 Kr.lt).lt
      go_upto_region 14 with fail
      clear ck B2 Bp SA SU Kr B HPI
      obtain ⟨bp, hbp⟩ : ∃ b, w2.heap.size = b := ⟨_, rfl⟩
      rw [hbp] at Kp
      generalize w2.alloc (.cells #[.int .i64 pf, .int .i64 pk, .string ps] 33) = w3 at *
      have SX3 := HSX.out.below (show Below w.heap.size w w3 from B02)
      have HRP := Lib.hid (fun W (hb : Below w3.heap.size w3 W) => ref11_Piece a0 hs1 a1a k a1c xs W (SX3.below hb) (by omega))
      rw [HBO.out, HPV.out] at HRP
      have HUP := Lib.hid (fun W (hb : Below w3.heap.size w3 W) => sub_Up a0 av k cv xs W (SA3.below hb) (by omega))
      have hzz := HZ2.out
      rw [hzz] at HUP
      clear hzz
      have SU4 := Lib.hid SU3
      have Ep := fun (gx : UWF (CAds w3 z (cellsK .i64 (upsA xs)))) => (Kp.below gx.holds.below Kp.lt).cell
      have Er := fun (gx : UWF (CAds w3 z (cellsK .i64 (upsA xs)))) => (Kr3.below gx.holds.below Kr3.lt).cell
      simp at Ep Er
      have hne : Nonempty (UWF (CAds w3 z (cellsK .i64 (upsA xs)))) := ⟨⟨fun _ => false, fun _ => undef, w3.drew, ⟨(Below.refl _ _).drew, (fun e => by cases e)⟩⟩⟩
      refine wp_region_free [(0, 4, some 4), (5, 3, some 8), (9, 1, some 10), (11, 2, none)] (CAds w3 z (cellsK .i64 (upsA xs))) (GAds z (.agg #[.int .i64 pf, .int .i64 pk, .string ps])) (fun q => if q = 4 then .agg #[.int .i64 pf, .int .i64 pk, .string ps] else if q = 8 then .slice none z 0 else .bool true) (by kernel_rfl) (by kernel_rfl) ?_ ?_ ?_ ?_
      · intro y hy LL G W hC
        simp [moversI] at hy
        exact hC.quiet (by omega)
      · exact ⟨(Below.refl _ _).drew, (fun e => by cases e)⟩
      · intro y
        exact ⟨fun e => by subst e; rfl, fun e => by subst e; exact ⟨_, _, rfl⟩, fun e => by subst e; rfl⟩
      · intro G hG
        have g4 := (hG 4).piece rfl
        obtain ⟨ra, rk, g8⟩ := (hG 8).row rfl
        have g10 := (hG 10).same rfl
        simp only [walkF, List.drop_zero, List.drop_succ_cons, List.take_succ_cons, List.take_zero, List.toList_toArray]; (repeat (go_big_quiet_step (fail))); refine wpQuiet_nil ?_
        refine ⟨_, _, _, _, _, _, rfl, .inl ⟨rfl, ?_, ?_⟩⟩
        · intro LL W hL hA hC
          refine ⟨?_⟩; go_simp; simp only [movesToUpon]
          refine (HRP.out W hC.below).mono ?_
          rintro e w' ⟨rfl, hb'⟩
          exact ⟨_, rfl, ⟨fun _ => rfl, (fun e => by cases e), (fun e => by cases e)⟩, hC.on hb' (by decide) _⟩
        · intro K' hK'; dsimp only at hK'; rw [g4]; go_big_quiet_op; go_big_quiet_on; (repeat (go_big_quiet_step (fail))); refine wpQuiet_nil ?_
          refine ⟨_, _, _, _, _, _, rfl, .inl ⟨rfl, ?_, ?_⟩⟩
          · intro LL W hL hA hC
            refine ⟨?_⟩; go_simp; simp only [movesToUpon]
            refine (HUP.out W hC.below).mono ?_
            rintro e w' ⟨v', rfl, own', hb'⟩
            obtain ⟨va, vc, rfl, -⟩ := SliceOf.of_own own' (fun i => .int .i64 (f i)) (fun i hi => HG.out i hi)
            refine ⟨_, rfl, ⟨(fun e => by cases e), fun _ => ⟨_, _, rfl⟩, (fun e => by cases e)⟩, below_then hC.below hb' (Nat.le_refl _), fun _ => ?_⟩
            rw [upF_same]
            exact own_down own' hC.below.size
          · intro K' hK'; dsimp only at hK'; rw [g8]; go_big_quiet_op; go_big_quiet_on; (repeat (go_big_quiet_step (fail))); refine wpQuiet_nil ?_
            refine ⟨_, _, _, _, _, _, rfl, .inl ⟨rfl, ?_, ?_⟩⟩
            · intro LL W hL hA hC
              have ro := hC.row (hA 8 (by kernel_rfl))
              rw [g8] at ro
              obtain ⟨va, vc, e, SV⟩ := SliceOf.of_own ro (fun i => .int .i64 (f i)) (fun i hi => HG.out i hi)
              injection e with e1 e2 e3
              subst e1 e3
              refine ⟨?_⟩; go_simp; simp only [movesToUpon]
              refine (law01_SameYes _ _ z _ uc f W SV (SU4.out.below hC.below) (by omega)).mono ?_
              rintro e w' ⟨rfl, hb'⟩
              exact ⟨_, rfl, ⟨(fun e => by cases e), (fun e => by cases e), fun _ => rfl⟩, hC.on hb' (by decide) _⟩
            · intro K' hK'; dsimp only at hK'; rw [g10]; go_big_quiet_op; go_big_quiet_on; (repeat (go_big_quiet_step (fail))); refine wpQuiet_nil ?_
              intro LL w9 hL hC
              have BE := below_then B02 hC.below (Nat.le_refl _)
              have Kp9 := Kp.below hC.below Kp.lt
              have SX9 := SX3.below hC.below
              clear hC hL hG g4 g8 g10 Ep Er hne
              have kp := Kp9.cell
              simp at kp
              cases bo with
              | none =>
                have hv := HPV.out
                unfold pcV at hv
                simp only [Value.agg.injEq, Array.mk.injEq, List.cons.injEq, Value.int.injEq, Value.string.injEq, true_and, and_true] at hv
                obtain ⟨rfl, rfl, rfl⟩ := hv
                have HE : ∀ W, (binOp .eql 33 (.agg #[.int .i64 0, .int .i64 0, .string ⟨#[]⟩]) (.agg #[.int .i64 0, .int .i64 0, .string ⟨#[]⟩])).run Try.prog W = .ok (.bool true) W := fun W => by rw [pcc_eql]; simp
                go_wp2_with fail
                go_ret
                exact ⟨rfl, BE⟩
              | some b =>
                have hv := HPV.out
                unfold pcV at hv
                simp only [Value.agg.injEq, Array.mk.injEq, List.cons.injEq, Value.int.injEq, Value.string.injEq, true_and, and_true] at hv
                obtain ⟨rfl, rfl, rfl⟩ := hv
                obtain ⟨s, hs⟩ : ∃ s, strOfNums b = s := ⟨_, rfl⟩
                rw [hs] at kp ⊢
                obtain ⟨q1, q2, q3, q4, q5⟩ := pieceA_back hs1 HBO.out
                have hbs : bytesI s = b := by rw [← hs, bytesI_str q4]
                have HT := Lib.hid (fun W => sub_ToA s W (by rw [← bytesI_len, hbs]; omega) b hbs a0 q1 xs q2 true (by rw [HBO.out]; simp))
                simp only [if_true] at HT
                rw [HXL.out] at HT
                have HE : ∀ W, (binOp .eql 33 (.agg #[.int .i64 2, .int .i64 211, .string s]) (.agg #[.int .i64 0, .int .i64 0, .string ⟨#[]⟩])).run Try.prog W = .ok (.bool false) W := fun W => by rw [pcc_eql]; simp
                clear q1 q2 q3 q4 q5 hbs
                go_wp2_with fail
                refine (HT.out w9).mono ?_
                rintro e w10 ⟨B10, a5, c5, rfl, S5⟩
                have Kd := Blk.new w10 27 #[.int .u32 a0, .slice a5 k c5]
                have Bd : Below w10.heap.size w10 (w10.alloc (.cells #[.int .u32 a0, .slice a5 k c5] 27)) := (Below.refl _ w10).alloc (Nat.le_refl _) _
                have S6 := S5.below Bd
                have SX6 := (SX9.below B10).below Bd
                have B6 := below_then (below_then BE B10 (Nat.le_refl _)) Bd (Nat.le_refl _)
                have kd := Kd.cell
                simp at kd
                go_wp2_with fail
                refine (law11_sameAdverts _ _ k _ _ xs _ S6 SX6 (by omega)).mono ?_
                rintro e w11 ⟨rfl, B11⟩
                have BF := below_then B6 B11 (Nat.le_refl _)
                go_wp2_with fail
                go_ret
                exact ⟨rfl, BF⟩
end Go.Proofs.Ytliilcadlijnoaa
