/- Package report: Piece, of a report that may be. No condition but how many blocks. (Printed by gen_rep3.py.) -/
import Derived.Test.YtolgdcchnmbmnaaRep2
namespace Go.Proofs.Ytolgdcchnmbmnaa
open Go.RowKit BigFrame
attribute [local go_sem ↓] Go.wp_at_zero Go.wp_at_succ

/-- A block's bytes; a report's. -/
def bytB (x : BkR) : List Int := (encB x.s x.f x.l x.h x.j x.a x.d).flatMap id
theorem bytB_len (x : BkR) : (bytB x).length = 24 := by unfold bytB encB; simp [beAll_len, be4All_len]
def headR (s : Int) (y : Bool) (c t p b : Int) : List Int := beI s 4 ++ (if y then encS c t p b else [])
theorem headR_len (s : Int) (y : Bool) (c t p b : Int) : (headR s y c t p b).length = if y then 24 else 4 := by
  unfold headR encS; cases y <;> simp [beI_len, be4All_len]
def bodyR (s : Int) (y : Bool) (c t p b : Int) (l : List BkR) : List Int := headR s y c t p b ++ l.flatMap bytB
def kindR (y : Bool) : Int := if y then 200 else 201
set_option maxRecDepth 8000 in
set_option maxHeartbeats 8000000 in
theorem rep_Piece (s : Int) (y : Bool) (c t p b : Int) (la : Option Addr) (n cp : Nat) (l : List BkR) (hz : mayR y c t p b l = true) (hs : U32 s) (ht : U32 t) (hp : U32 p) (hb : U32 b) (hl : ∀ x ∈ l, x.Ok) (w : World) (S : BkAt w la n cp l) :
    Calls Try.prog 6 #[.agg #[.int .u32 s, .bool y, .int .i64 c, .int .u32 t, .int .u32 p, .int .u32 b, .slice la n cp]] w fun e w' => e = .returned (.agg #[.int .i64 (n : Int), .int .i64 (kindR y), .string (strOfNums (bodyR s y c t p b l))]) ∧ Below w.heap.size w w' := by
  have hms : (0 ≤ c ∧ c ≤ 1099511627776) ∧ n ≤ 31 := by
    have h := hz
    have := S.len
    unfold mayR mayS at h
    simp at h
    omega
  obtain ⟨hc, hn⟩ := hms
  have HL := Lib.hid S.len
  have HOK := Lib.hid hl
  obtain ⟨K1, K2, B2⟩ := two_newS w #[.int .u32 s, .bool y, .int .i64 c, .int .u32 t, .int .u32 p, .int .u32 b, .slice la n cp] #[.int .i64 0, .int .i64 0, .string ⟨#[]⟩] 32 25
  have S2 := S.below (B2.mono (Nat.le_refl _))
  have HC := Lib.hid (fun W q => rep_Check s y c t p b la n cp l true hz W q (by omega))
  have HU := Lib.hid (And.intro hs (And.intro ht (And.intro hp hb)))
  clear hl hz hs ht hp hb
  go_enter Try.func6, Try.ntmps6
  go_upto_region 1 with fail
  generalize (w.alloc (.cells #[.int .u32 s, .bool y, .int .i64 c, .int .u32 t, .int .u32 p, .int .u32 b, .slice la n cp] 32)).alloc (.cells #[.int .i64 0, .int .i64 0, .string ⟨#[]⟩] 25) = w2 at *
  have c1 := K1.cell
  simp at c1
  go_wp2_with fail
  refine (HC.out _ S2).mono ?_
  rintro e w3 ⟨rfl, hb3⟩
  have K1 := K1.below hb3 K1.lt
  have K2 := K2.below hb3 K2.lt
  have B3 := below_then B2 hb3 (Nat.le_refl _)
  clear hb3 c1 B2 S2 HC
  have c1 := K1.cell
  simp at c1
  have K9 := Blk.new w3 52 #[.slice none 0 0]
  have B9 : Below w3.heap.size w3 (w3.alloc (.cells #[.slice none 0 0] 52)) := (Below.refl _ w3).alloc (Nat.le_refl _) _
  go_upto_region 4 with fail
  have O4 : OutAt (w3.alloc (.cells #[.slice none 0 0] 52)) w3.heap.size [] (.slice none 0 0) := ⟨K9, ⟨rfl, .inl ⟨rfl, rfl⟩⟩, (fun e => by cases e)⟩
  have gw : w.heap.size ≤ w3.heap.size := B3.size
  have K1 := K1.below B9 K1.lt
  have K2 := K2.below B9 K2.lt
  have B4 := below_then B3 B9 (Nat.le_refl _)
  clear K9 B9 B3 c1
  generalize w3.alloc (.cells #[.slice none 0 0] 52) = w4 at *
  generalize w3.heap.size = g at *
  have c1 := K1.cell
  simp at c1
  have L5 := Blk.new w4 27 #[.int .u32 s]
  have B5 : Below w4.heap.size w4 (w4.alloc (.cells #[.int .u32 s] 27)) := (Below.refl _ w4).alloc (Nat.le_refl _) _
  have O5 := O4.below B5
  have B05 := below_then B4 B5 (Nat.le_refl _)
  have K15 := K1.below B5 K1.lt
  have K25 := K2.below B5 K2.lt
  go_wp2_with fail
  refine (pen_OutU32 g [] (.slice none 0 0) _ 1 1 (fun _ => s) _ O5 (by simp) (SliceOf.of_blk (cs := [.int .u32 s]) (n := 1) L5 (fun _ => .int .u32 s) rfl (by omega) (fun i hi => match i, hi with
    | 0, _ => rfl)) (fun i _ => HU.out.1) (fun b off e => by injection e with e; injection e with e1 e2; subst e1; exact ⟨Blk.ne_ L5 O5.blk (by decide), (fun e => by cases e)⟩)).mono ?_
  rintro e w6 ⟨rfl, v6, O6, M6⟩
  have hb4 : be4All (fun _ => s) 1 = beI s 4 := by unfold be4All; simp
  rw [List.nil_append, hb4] at O6
  have sz5 := B05.size
  have B06 : Below w.heap.size w w6 := B05.trans (M6.down sz5 gw (fun k e => by cases e))
  have hv6 : ∀ k, v6.ownBlock = some k → w.heap.size ≤ k := M6.base sz5 (fun k e => by cases e)
  have K16 : Blk w6 w.heap.size 32 _ := (M6.keep _ K15.lt (Blk.ne_ K15 O5.blk (by decide)) (fun e => by cases e)).trans K15
  have K26 : Blk w6 (w.heap.size + 1) 25 _ := (M6.keep _ K25.lt (Blk.ne_ K25 O5.blk (by decide)) (fun e => by cases e)).trans K25
  clear O4 B4 L5 B5 O5 B05 K15 K25 M6 hb4 sz5 K1 K2 c1
  have c1 := K16.cell
  simp at c1
  cases y
  · have hh : beI s 4 = headR s false c t p b := by unfold headR; simp
    rw [hh] at O6
    have hhl : (headR s false c t p b).length ≤ 24 := by rw [headR_len]; simp
    obtain ⟨hd, hhd⟩ : ∃ hd, headR s false c t p b = hd := ⟨_, rfl⟩
    rw [hhd] at O6 hhl
    have HHD := Lib.hid hhd
    clear hh hhd
    go_wp2_with fail
    go_loopw [23] (fun x wr => ∃ (k : Nat) (v : Value), k ≤ n ∧ x = .int .i64 k ∧ OutAt wr g (hd ++ (l.take k).flatMap bytB) v ∧ (∀ k, v.ownBlock = some k → w.heap.size ≤ k) ∧ Blk wr w.heap.size 32 #[.int .u32 s, .bool false, .int .i64 c, .int .u32 t, .int .u32 p, .int .u32 b, .slice la n cp] ∧ Blk wr (w.heap.size + 1) 25 #[.int .i64 0, .int .i64 0, .string ⟨#[]⟩] ∧ Below w.heap.size w wr) (fun x _ => n - (intOf x).toNat)
    case atStart => exact ⟨0, v6, by omega, rfl, by simpa using O6, hv6, K16, K26, B06⟩
    case round =>
      clear O6 hv6 K16 K26 B06 c1
      obtain ⟨k, v, hk, rfl, O, hv, K1, K2, B⟩ := hrel
      by_cases hlt : k < n
      · obtain ⟨ga, off, rfl, hg, hcell⟩ := S.at_ (by omega)
        obtain ⟨x, hx, hcl⟩ := hcell k hlt
        have HXO := Lib.hid (HOK.out x (List.mem_of_getElem? hx))
        have HFS := Lib.hid (flat_snoc bytB l k _ hx)
        obtain ⟨xs, xf, xl, xh, xj, xa, xd⟩ := x
        have e0 := (B.cell (p := ⟨ga, off + k * 7, none⟩) hg).trans (hcl 0 _ rfl)
        have e1 := (B.cell (p := ⟨ga, off + k * 7 + 1, none⟩) hg).trans (hcl 1 _ rfl)
        have e2 := (B.cell (p := ⟨ga, off + k * 7 + 2, none⟩) hg).trans (hcl 2 _ rfl)
        have e3 := (B.cell (p := ⟨ga, off + k * 7 + 3, none⟩) hg).trans (hcl 3 _ rfl)
        have e4 := (B.cell (p := ⟨ga, off + k * 7 + 4, none⟩) hg).trans (hcl 4 _ rfl)
        have e5 := (B.cell (p := ⟨ga, off + k * 7 + 5, none⟩) hg).trans (hcl 5 _ rfl)
        have e6 := (B.cell (p := ⟨ga, off + k * 7 + 6, none⟩) hg).trans (hcl 6 _ rfl)
        simp only at e0 e1 e2 e3 e4 e5 e6
        have hbl2 : (hd ++ (l.take k).flatMap bytB).length ≤ 90000 := by rw [List.length_append, flat_len bytB 24 bytB_len, List.length_take]; omega
        have i0 : (0 : Int) ≤ (k : Int) := by omega
        have i1 : (k : Int) < (n : Int) := by omega
        clear hcell hcl hx
        go_upto_region 12 with fail
        have k4 := Blk.new wr 49 #[.int .u32 xs, .int .i64 xf, .int .i64 xl, .int .u32 xh, .int .u32 xj, .int .u32 xa, .int .u32 xd]
        have B4 : Below wr.heap.size wr (wr.alloc (.cells #[.int .u32 xs, .int .i64 xf, .int .i64 xl, .int .u32 xh, .int .u32 xj, .int .u32 xa, .int .u32 xd] 49)) := (Below.refl _ wr).alloc (Nat.le_refl _) _
        have O5 := O.below B4
        have K15 := K1.below B4 K1.lt
        have K25 := K2.below B4 K2.lt
        have B5 := below_then B B4 (Nat.le_refl _)
        generalize wr.alloc (.cells #[.int .u32 xs, .int .i64 xf, .int .i64 xl, .int .u32 xh, .int .u32 xj, .int .u32 xa, .int .u32 xd] 49) = w5' at *
        generalize wr.heap.size = g4 at *
        clear e0 e1 e2 e3 e4 e5 e6 B4 B O K1 K2
        have c4 := k4.cell
        simp at c4
        go_wp2_with fail
        refine (bk_write g _ v xs xf xl xh xj xa xd w5' O5 hbl2 (by obtain ⟨u0, u1, u2, u3, u4⟩ := HXO.out; exact ⟨u0, u1, u2, u3, u4⟩)).mono ?_
        rintro e w9 ⟨rfl, v9, O9, M9⟩
        have sz8 := B5.size
        have B09 : Below w.heap.size w w9 := B5.trans (M9.down sz8 gw hv)
        have hv9 : ∀ k, v9.ownBlock = some k → w.heap.size ≤ k := M9.base sz8 hv
        have K19 : Blk w9 w.heap.size 32 _ := (M9.keep _ K15.lt (Blk.ne_ K15 O5.blk (by decide)) (own_ne_blk O5.own K15 (by decide))).trans K15
        have K29 : Blk w9 (w.heap.size + 1) 25 _ := (M9.keep _ K25.lt (Blk.ne_ K25 O5.blk (by decide)) (own_ne_blk O5.own K25 (by decide))).trans K25
        have O10 : OutAt w9 g (hd ++ (l.take (k + 1)).flatMap bytB) v9 := by rw [HFS.out, ← List.append_assoc]; exact O9
        have HO := Lib.hid O10
        clear O9 O10 M9 O5 B5 K15 K25 c4 k4 sz8 hbl2
        go_wp2_with fail
        go_roundw
        case rel => exact ⟨k + 1, v9, by omega, by go_num, HO.out, hv9, K19, K29, B09⟩
        case measure => simp only [intOf]; omega
      · obtain rfl : k = n := by omega
        have hall : l.take k = l := by have := HL.out; rw [← this]; exact List.take_length
        rw [hall] at O
        obtain ⟨bd, hbd⟩ : ∃ bd, hd ++ l.flatMap bytB = bd := ⟨_, rfl⟩
        rw [hbd] at O
        have HBD := Lib.hid hbd
        obtain ⟨sb, hsb⟩ : ∃ s, strOfNums bd = s := ⟨_, rfl⟩
        have HPB := Lib.hid (fun (gx : Ext wr) => pen_Bytes g bd v gx.world (O.below gx.below))
        rw [hsb] at HPB
        have HSS := Lib.hid hsb
        have HK2 := Lib.hid K2
        have E0 := fun (gx : Ext wr) => gx.cell (K1.cell 6) K1.lt
        simp at E0
        clear hall hbd hsb O K2
        obtain ⟨wq, hwq⟩ : ∃ wq, wq = wr := ⟨_, rfl⟩
        go_upto_region 14 with fail
        refine wp_region_ext_tail 5 (by kernel_rfl) (by kernel_rfl) ?_; simp only [List.take_succ_cons, List.take_zero, List.drop_succ_cons, List.drop_zero]; (repeat (go_big_quiet_step ((first | (go_at_call 18; with_reducible exact calls_ext_same _ (HPB.out _)))))); refine wpQuiet_nil ?_; rintro _ ⟨gq, rfl⟩
        have K2q := HK2.out.below gq.below HK2.out.lt
        have Bq := below_then B gq.below (Nat.le_refl _)
        generalize gq.world = w7' at *
        have c8 := K2q.cell
        have f8 := K2q.frozen
        simp at c8
        obtain ⟨wS, eS, KS, BS, hkS⟩ := three_set K2q rfl (.int .i64 (k : Int)) (.int .i64 201) (.string sb) w.heap.size (by omega)
        have cS := KS.cell
        simp at cS
        have BE := Bq.trans BS
        go_wp2_with fail
        refine bodyPost_ret (v := .agg #[.int .i64 (k : Int), .int .i64 201, .string sb]) ?_ rfl ⟨?_, BE⟩
        · simp [results, Try.results6, go_sem, cS]
        · unfold bodyR; rw [HHD.out, HBD.out, HSS.out]; rfl
  · go_wp2_with fail
    refine (sent_put g (beI s 4) v6 c t p b _ O6 (by rw [beI_len]; omega) hc HU.out.2.1 HU.out.2.2.1 HU.out.2.2.2).mono ?_
    rintro e w7 ⟨rfl, v7, O7, M7⟩
    have hh : beI s 4 ++ encS c t p b = headR s true c t p b := by unfold headR; simp
    rw [hh] at O7
    have hhl : (headR s true c t p b).length ≤ 24 := by rw [headR_len]; simp
    obtain ⟨hd, hhd⟩ : ∃ hd, headR s true c t p b = hd := ⟨_, rfl⟩
    rw [hhd] at O7 hhl
    have HHD := Lib.hid hhd
    have sz6 := B06.size
    have B07 : Below w.heap.size w w7 := B06.trans (M7.down sz6 gw hv6)
    have hv7 : ∀ k, v7.ownBlock = some k → w.heap.size ≤ k := M7.base sz6 hv6
    have K17 : Blk w7 w.heap.size 32 _ := (M7.keep _ K16.lt (Blk.ne_ K16 O6.blk (by decide)) (own_ne_blk O6.own K16 (by decide))).trans K16
    have K27 : Blk w7 (w.heap.size + 1) 25 _ := (M7.keep _ K26.lt (Blk.ne_ K26 O6.blk (by decide)) (own_ne_blk O6.own K26 (by decide))).trans K26
    clear hh hhd O6 M7 sz6 B06 hv6 K16 K26 c1
    have c1 := K17.cell
    simp at c1
    go_wp2_with fail
    go_loopw [23] (fun x wr => ∃ (k : Nat) (v : Value), k ≤ n ∧ x = .int .i64 k ∧ OutAt wr g (hd ++ (l.take k).flatMap bytB) v ∧ (∀ k, v.ownBlock = some k → w.heap.size ≤ k) ∧ Blk wr w.heap.size 32 #[.int .u32 s, .bool true, .int .i64 c, .int .u32 t, .int .u32 p, .int .u32 b, .slice la n cp] ∧ Blk wr (w.heap.size + 1) 25 #[.int .i64 0, .int .i64 0, .string ⟨#[]⟩] ∧ Below w.heap.size w wr) (fun x _ => n - (intOf x).toNat)
    case atStart => exact ⟨0, v7, by omega, rfl, by simpa using O7, hv7, K17, K27, B07⟩
    case round =>
      clear O7 hv7 K17 K27 B07 c1
      obtain ⟨k, v, hk, rfl, O, hv, K1, K2, B⟩ := hrel
      by_cases hlt : k < n
      · obtain ⟨ga, off, rfl, hg, hcell⟩ := S.at_ (by omega)
        obtain ⟨x, hx, hcl⟩ := hcell k hlt
        have HXO := Lib.hid (HOK.out x (List.mem_of_getElem? hx))
        have HFS := Lib.hid (flat_snoc bytB l k _ hx)
        obtain ⟨xs, xf, xl, xh, xj, xa, xd⟩ := x
        have e0 := (B.cell (p := ⟨ga, off + k * 7, none⟩) hg).trans (hcl 0 _ rfl)
        have e1 := (B.cell (p := ⟨ga, off + k * 7 + 1, none⟩) hg).trans (hcl 1 _ rfl)
        have e2 := (B.cell (p := ⟨ga, off + k * 7 + 2, none⟩) hg).trans (hcl 2 _ rfl)
        have e3 := (B.cell (p := ⟨ga, off + k * 7 + 3, none⟩) hg).trans (hcl 3 _ rfl)
        have e4 := (B.cell (p := ⟨ga, off + k * 7 + 4, none⟩) hg).trans (hcl 4 _ rfl)
        have e5 := (B.cell (p := ⟨ga, off + k * 7 + 5, none⟩) hg).trans (hcl 5 _ rfl)
        have e6 := (B.cell (p := ⟨ga, off + k * 7 + 6, none⟩) hg).trans (hcl 6 _ rfl)
        simp only at e0 e1 e2 e3 e4 e5 e6
        have hbl2 : (hd ++ (l.take k).flatMap bytB).length ≤ 90000 := by rw [List.length_append, flat_len bytB 24 bytB_len, List.length_take]; omega
        have i0 : (0 : Int) ≤ (k : Int) := by omega
        have i1 : (k : Int) < (n : Int) := by omega
        clear hcell hcl hx
        go_upto_region 12 with fail
        have k4 := Blk.new wr 49 #[.int .u32 xs, .int .i64 xf, .int .i64 xl, .int .u32 xh, .int .u32 xj, .int .u32 xa, .int .u32 xd]
        have B4 : Below wr.heap.size wr (wr.alloc (.cells #[.int .u32 xs, .int .i64 xf, .int .i64 xl, .int .u32 xh, .int .u32 xj, .int .u32 xa, .int .u32 xd] 49)) := (Below.refl _ wr).alloc (Nat.le_refl _) _
        have O5 := O.below B4
        have K15 := K1.below B4 K1.lt
        have K25 := K2.below B4 K2.lt
        have B5 := below_then B B4 (Nat.le_refl _)
        generalize wr.alloc (.cells #[.int .u32 xs, .int .i64 xf, .int .i64 xl, .int .u32 xh, .int .u32 xj, .int .u32 xa, .int .u32 xd] 49) = w5' at *
        generalize wr.heap.size = g4 at *
        clear e0 e1 e2 e3 e4 e5 e6 B4 B O K1 K2
        have c4 := k4.cell
        simp at c4
        go_wp2_with fail
        refine (bk_write g _ v xs xf xl xh xj xa xd w5' O5 hbl2 (by obtain ⟨u0, u1, u2, u3, u4⟩ := HXO.out; exact ⟨u0, u1, u2, u3, u4⟩)).mono ?_
        rintro e w9 ⟨rfl, v9, O9, M9⟩
        have sz8 := B5.size
        have B09 : Below w.heap.size w w9 := B5.trans (M9.down sz8 gw hv)
        have hv9 : ∀ k, v9.ownBlock = some k → w.heap.size ≤ k := M9.base sz8 hv
        have K19 : Blk w9 w.heap.size 32 _ := (M9.keep _ K15.lt (Blk.ne_ K15 O5.blk (by decide)) (own_ne_blk O5.own K15 (by decide))).trans K15
        have K29 : Blk w9 (w.heap.size + 1) 25 _ := (M9.keep _ K25.lt (Blk.ne_ K25 O5.blk (by decide)) (own_ne_blk O5.own K25 (by decide))).trans K25
        have O10 : OutAt w9 g (hd ++ (l.take (k + 1)).flatMap bytB) v9 := by rw [HFS.out, ← List.append_assoc]; exact O9
        have HO := Lib.hid O10
        clear O9 O10 M9 O5 B5 K15 K25 c4 k4 sz8 hbl2
        go_wp2_with fail
        go_roundw
        case rel => exact ⟨k + 1, v9, by omega, by go_num, HO.out, hv9, K19, K29, B09⟩
        case measure => simp only [intOf]; omega
      · obtain rfl : k = n := by omega
        have hall : l.take k = l := by have := HL.out; rw [← this]; exact List.take_length
        rw [hall] at O
        obtain ⟨bd, hbd⟩ : ∃ bd, hd ++ l.flatMap bytB = bd := ⟨_, rfl⟩
        rw [hbd] at O
        have HBD := Lib.hid hbd
        obtain ⟨sb, hsb⟩ : ∃ s, strOfNums bd = s := ⟨_, rfl⟩
        have HPB := Lib.hid (fun (gx : Ext wr) => pen_Bytes g bd v gx.world (O.below gx.below))
        rw [hsb] at HPB
        have HSS := Lib.hid hsb
        have HK2 := Lib.hid K2
        have E0 := fun (gx : Ext wr) => gx.cell (K1.cell 6) K1.lt
        simp at E0
        clear hall hbd hsb O K2
        obtain ⟨wq, hwq⟩ : ∃ wq, wq = wr := ⟨_, rfl⟩
        go_upto_region 14 with fail
        refine wp_region_ext_tail 5 (by kernel_rfl) (by kernel_rfl) ?_; simp only [List.take_succ_cons, List.take_zero, List.drop_succ_cons, List.drop_zero]; (repeat (go_big_quiet_step ((first | (go_at_call 18; with_reducible exact calls_ext_same _ (HPB.out _)))))); refine wpQuiet_nil ?_; rintro _ ⟨gq, rfl⟩
        have K2q := HK2.out.below gq.below HK2.out.lt
        have Bq := below_then B gq.below (Nat.le_refl _)
        generalize gq.world = w7' at *
        have c8 := K2q.cell
        have f8 := K2q.frozen
        simp at c8
        obtain ⟨wS, eS, KS, BS, hkS⟩ := three_set K2q rfl (.int .i64 (k : Int)) (.int .i64 200) (.string sb) w.heap.size (by omega)
        have cS := KS.cell
        simp at cS
        have BE := Bq.trans BS
        go_wp2_with fail
        refine bodyPost_ret (v := .agg #[.int .i64 (k : Int), .int .i64 200, .string sb]) ?_ rfl ⟨?_, BE⟩
        · simp [results, Try.results6, go_sem, cS]
        · unfold bodyR; rw [HHD.out, HBD.out, HSS.out]; rfl
end Go.Proofs.Ytolgdcchnmbmnaa
