/- The statement CordelleWire, walked: it returns true. No condition but the frame's. (Printed by gen_wire6.py.) -/
import Derived.Test.YtbibgffgljojgaaDoorWire5
import Derived.Test.YtbibgffgljojgaaDoorCrcTurnsBack
namespace Go.Proofs.YtbibgffgljojgaaDoor
open Go.RowKit BigFrame
attribute [local go_sem ↓] Go.wp_at_zero Go.wp_at_succ

theorem str_iff (a b : ByteArray) : (a.toList == b.toList) = true ↔ a = b := by
  rw [beq_iff_eq, ByteArray.toList_eq, ByteArray.toList_eq]
  exact ⟨fun h => ByteArray.ext (Array.toList_inj.mp h), fun h => by rw [h]⟩
theorem wfU16W {x : Int} (h : (Lit.int .u16 x).wf = true) : 0 ≤ x ∧ x < 65536 := by
  simp [Lit.wf, IntKind.min, IntKind.max, IntKind.signed, IntKind.bits] at h
  omega
theorem wfU32W {x : Int} (h : (Lit.int .u32 x).wf = true) : 0 ≤ x ∧ x < 4294967296 := by
  simp [Lit.wf, IntKind.min, IntKind.max, IntKind.signed, IntKind.bits] at h
  omega
/-- Both told packets' rows, while the last region is drawn. -/
structure FWr (mk : Bool) (kd sq tm sc : Int) (hx : Bool) (pf : Int) (ex2 d2 : ByteArray) (m : Nat) (f : Nat → Int) (i : Nat) (v : Value) (W : World) : Prop where
  h1 : i = 1 → ∃ a c, v = .agg #[.bool mk, .int .i64 kd, .int .i64 sq, .int .i64 tm, .int .i64 sc, .slice a m c, .bool hx, .int .i64 pf, .string ex2, .string d2, .int .i64 0] ∧ SliceOf W a m c 1 (fun i => [.int .i64 (f i)])
  h3 : i = 3 → ∃ a c, v = .agg #[.bool mk, .int .i64 kd, .int .i64 sq, .int .i64 tm, .int .i64 sc, .slice a m c, .bool hx, .int .i64 pf, .string ex2, .string d2, .int .i64 0] ∧ SliceOf W a m c 1 (fun i => [.int .i64 (f i)])
theorem FWr_lasts (mk : Bool) (kd sq tm sc : Int) (hx : Bool) (pf : Int) (ex2 d2 : ByteArray) (m : Nat) (f : Nat → Int) : Lasts (FWr mk kd sq tm sc hx pf ex2 d2 m f) := fun i v W W' h hb =>
  ⟨fun e => by obtain ⟨a, c, q1, q2⟩ := h.h1 e; exact ⟨a, c, q1, q2.below hb⟩, fun e => by obtain ⟨a, c, q1, q2⟩ := h.h3 e; exact ⟨a, c, q1, q2.below hb⟩⟩
structure GWr (mk : Bool) (kd sq tm sc : Int) (hx : Bool) (pf : Int) (ex2 d2 : ByteArray) (m : Nat) (zb : Bool) (q : Nat) (v : Value) : Prop where
  a1 : q = 1 → ∃ a c, v = .agg #[.bool mk, .int .i64 kd, .int .i64 sq, .int .i64 tm, .int .i64 sc, .slice a m c, .bool hx, .int .i64 pf, .string ex2, .string d2, .int .i64 0]
  a3 : q = 3 → ∃ a c, v = .agg #[.bool mk, .int .i64 kd, .int .i64 sq, .int .i64 tm, .int .i64 sc, .slice a m c, .bool hx, .int .i64 pf, .string ex2, .string d2, .int .i64 0]
  a4 : q = 4 → v = .bool true
  a7 : q = 7 → v = .bool zb
set_option maxRecDepth 20000 in
set_option maxHeartbeats 16000000 in
theorem CordelleWire_walk (mk : Bool) (kd sq tm sc : Int) (oa : Option Addr) (on oc : Nat) (f : Nat → Int) (hx : Bool) (pf : Int) (ex da : ByteArray) (pd at_ mask : Int) (w : World) (_kdw : (Lit.int .i64 kd).wf = true) (sqw : (Lit.int .u16 sq).wf = true) (tmw : (Lit.int .u32 tm).wf = true) (scw : (Lit.int .u32 sc).wf = true) (S : SliceOf w oa on oc 1 (fun j => [.int .u32 (f j)])) (F : ∀ j, j < on → (Lit.int .u32 (f j)).wf = true) (_pfw : (Lit.int .i64 pf).wf = true) (exw : ex.size ≤ maxLen) (daw : da.size ≤ maxLen) (_pdw : (Lit.int .i64 pd).wf = true) (_atw : (Lit.int .i64 at_).wf = true) (maskw : (Lit.int .u32 mask).wf = true) :
    Calls Tryd.prog 3 #[.agg #[.bool mk, .int .i64 kd, .int .u16 sq, .int .u32 tm, .int .u32 sc, .slice oa on oc, .bool hx, .int .i64 pf, .string ex, .string da, .int .i64 pd], .int .i64 at_, .int .u32 mask] w fun e w' => e = .returned (.bool true) ∧ Below w.heap.size w w' := by
  obtain ⟨mkk, rfl⟩ := mask_of mask maskw
  have hsq := wfU16W sqw
  have htm := wfU32W tmw
  have hsc := wfU32W scw
  obtain ⟨m, hm⟩ : ∃ m, min on 17 = m := ⟨_, rfl⟩
  have hm17 : m ≤ 17 ∧ m ≤ on := by omega
  have hf : ∀ i, i < m → 0 ≤ f i ∧ f i < 4294967296 := fun i hi => wfU32W (F i (by omega))
  obtain ⟨ex2, hex⟩ : ∃ s, cutB ex 60 = s := ⟨_, rfl⟩
  obtain ⟨da2, hda⟩ : ∃ s, cutB da 60 = s := ⟨_, rfl⟩
  have he60 : ex2.size ≤ 60 := by rw [← hex]; exact (cutB_size ex 60).1
  have hd60 : da2.size ≤ 60 := by rw [← hda]; exact (cutB_size da 60).1
  have HC := Lib.hid (fun W S => law04_Cut mk kd sq tm sc oa on oc hx pf ex da pd f m ex2 da2 hm hex hda exw daw W S)
  obtain ⟨dz, hdz⟩ : ∃ dz, (⟨#[0, 0, 0, 0]⟩ : ByteArray) ++ da2 = dz := ⟨_, rfl⟩
  have hbz : bytesI dz = ([0, 0, 0, 0] : List Int) ++ bytesI da2 := by rw [← hdz, bytesI_app]; rfl
  have hzs : dz.size = 4 + da2.size := by rw [← bytesI_len, hbz, List.length_append, bytesI_len]; rfl
  obtain ⟨z, hz⟩ : ∃ z, mayH kd pf m hx ex2 = z := ⟨_, rfl⟩
  have HZ := Lib.hid hz
  have HF := Lib.hid hf
  have HSQ := Lib.hid hsq
  have HTM := Lib.hid htm
  have HSC := Lib.hid hsc
  have HBZ := Lib.hid hbz
  have HZS := Lib.hid hzs
  have HS := Lib.hid S
  clear hm hex hda hz hf F exw daw maskw sqw tmw scw _kdw _pfw _pdw _atw hbz hsq htm hsc S hzs
  have K0 := Blk.new w 28 #[.bool mk, .int .i64 kd, .int .u16 sq, .int .u32 tm, .int .u32 sc, .slice oa on oc, .bool hx, .int .i64 pf, .string ex, .string da, .int .i64 pd]
  have B0 : Below w.heap.size w (w.alloc (.cells #[.bool mk, .int .i64 kd, .int .u16 sq, .int .u32 tm, .int .u32 sc, .slice oa on oc, .bool hx, .int .i64 pf, .string ex, .string da, .int .i64 pd] 28)) := (Below.refl _ w).alloc (Nat.le_refl _) _
  go_enter Tryd.func3, Tryd.ntmps3
  go_upto_region 1 with fail
  obtain ⟨g0, hg0⟩ : ∃ g, w.heap.size = g := ⟨_, rfl⟩
  have S1 := HS.out.below B0
  rw [hg0] at K0 B0 ⊢
  generalize w.alloc (.cells #[.bool mk, .int .i64 kd, .int .u16 sq, .int .u32 tm, .int .u32 sc, .slice oa on oc, .bool hx, .int .i64 pf, .string ex, .string da, .int .i64 pd] 28) = w1 at *
  have l1 := K0.lt
  have Bl : Below w1.heap.size w1 (w1.alloc (.cells #[.string ⟨#[1]⟩] 9)) := (Below.refl _ w1).alloc (Nat.le_refl _) _
  have K2 := K0.below Bl K0.lt
  have B2 := below_then B0 Bl (by omega)
  have S2 := S1.below Bl
  go_wp2_with (go_at_call 4; ((with_reducible refine (rtp_IsControl _).mono ?_); rintro e w' ⟨rfl, rfl⟩))
  refine (crc_Rem _ 1 1 (fun _ => ⟨#[1]⟩) _ _ (SliceOf.lit1 (Blk.new _ _ _)) (fun _ _ => by decide) rem_a1).mono ?_
  rintro e w' ⟨rfl, rfl⟩
  go_upto_region 3 with fail
  clear K0 B0 S1 Bl l1
  generalize w1.alloc (.cells #[.string ⟨#[1]⟩] 9) = w2 at *
  have c2 := K2.cell
  simp at c2
  go_wp2_with fail
  refine (HC.out w2 S2).mono ?_
  rintro e w3 ⟨a, c, rfl, ownO, hb3⟩
  have K3 := K2.below hb3 K2.lt
  have l2 := K2.lt
  have B3 := below_then B2 hb3 (by omega)
  have ownO := own_down ownO (show g0 ≤ w2.heap.size by omega)
  have n3 := own_ne_blk ownO K3 (by decide)
  have c3 := K3.cell
  have f3 := K3.frozen
  simp at c3
  obtain ⟨w4, eS, K4, BS, hkS⟩ := eleven_set K3 (.bool mk) (.int .i64 kd) (.int .u16 sq) (.int .u32 tm) (.int .u32 sc) (.slice a m c) (.bool hx) (.int .i64 pf) (.string ex2) (.string da2) (.int .i64 pd) g0 (Nat.le_refl _)
  have own4 := own_at ownO (w' := w4) (fun j hj => hkS j (fun e => n3 (by rw [hj, e])))
  have B4 := B3.trans BS
  clear c2 hb3 K2 B2 S2 HC l2 ownO B3 BS hkS
  go_upto_region 4 with fail
  clear eS c3 f3 K3
  have c4 := K4.cell
  have f4 := K4.frozen
  simp at c4
  have K5 := (K4.set_ 9 (.string dz)).set_ 10 (.int .i64 0)
  simp at K5
  have hk5 : ∀ z, z ≠ g0 → ((w4.setCell ⟨g0, 9, none⟩ (.string dz)).setCell ⟨g0, 10, none⟩ (.int .i64 0)).heap[z]? = w4.heap[z]? := fun z hz => (Below.heap_setCell _ ⟨g0, 10, none⟩ _ z hz).trans (Below.heap_setCell _ ⟨g0, 9, none⟩ _ z hz)
  have own5 := own_at own4 (w' := (w4.setCell ⟨g0, 9, none⟩ (.string dz)).setCell ⟨g0, 10, none⟩ (.int .i64 0)) (fun j hj => hk5 j (fun e => n3 (by rw [hj, e])))
  have B5 := (B4.setCell (p := ⟨g0, 9, none⟩) (Nat.le_refl _) (.string dz)).setCell (p := ⟨g0, 10, none⟩) (Nat.le_refl _) (.int .i64 0)
  clear hk5 own4 B4
  go_upto_region 5 with fail
  clear c4 f4 K4 hdz
  generalize (w4.setCell ⟨g0, 9, none⟩ (.string dz)).setCell ⟨g0, 10, none⟩ (.int .i64 0) = w5 at *
  have c5 := K5.cell
  simp at c5
  cases z
  · have HP := Lib.hid (fun W => rtp_Pack_no mk kd sq tm sc a m c hx pf ex2 dz (by omega) HZ.out W)
    have HT := Lib.hid (fun W S => law04_Told mk kd sq tm sc a m c hx pf ex2 dz 0 f HSQ.out HTM.out HSC.out HF.out (by omega) W S)
    have HM := Lib.hid (fun W a c => law04_May_no mk kd sq tm sc a m c hx pf ex2 dz 0 rfl (by omega) HZ.out W)
    go_wp2_with fail
    refine (HP.out w5).mono ?_
    rintro e w6 ⟨rfl, hb6⟩
    have K6 := K5.below hb6 K5.lt
    have own6 := own_lasts own5 hb6
    have l5 := K5.lt
    have B6 := below_then B5 hb6 (by omega)
    have c6 := K6.cell
    simp at c6
    clear c5
    go_wp2_with fail
    refine (HT.out w6 (SliceOf.of_rowL own6)).mono ?_
    rintro e w7 ⟨ta, tc, rfl, ownT, hb7⟩
    have l6 := K6.lt
    have B7 := below_then B6 hb7 (by omega)
    clear c6
    go_wp2_with fail
    refine (HM.out w7 ta tc).mono ?_
    rintro e w8 ⟨rfl, hb8⟩
    have B8 := below_then B7 hb8 (by omega)
    go_wp2_with fail
    go_ret
    exact ⟨rfl, by rw [hg0]; exact B8⟩
  · have hm15 : m ≤ 15 := by
      have h := HZ.out
      unfold mayH at h
      simp at h
      omega
    obtain ⟨hd, hhd⟩ : ∃ l, hdK mk kd sq tm sc f m hx pf ex2 = l := ⟨_, rfl⟩
    obtain ⟨hl0, hl1⟩ := hdK_len mk kd sq tm sc f m hx pf ex2 hm15 (by omega)
    have hbs : bytesI (strOfNums (bytK mk kd sq tm sc f m hx pf ex2 dz)) = hd ++ (([0, 0, 0, 0] : List Int) ++ bytesI da2) := by
      rw [bytK_split, bytesI_str ((hdK_ok _ _ _ _ _ _ _ _ _ _).append (bytesI_ok _)), hhd, HBZ.out]
    rw [hhd] at hl0 hl1
    obtain ⟨k, hk⟩ : ∃ k, hd.length = k := ⟨_, rfl⟩
    rw [hk] at hl0 hl1
    obtain ⟨s, hs⟩ : ∃ s, strOfNums (bytK mk kd sq tm sc f m hx pf ex2 dz) = s := ⟨_, rfl⟩
    rw [hs] at hbs
    have zs : s.size = k + (4 + da2.size) := by rw [← bytesI_len, hbs, List.length_append, List.length_append, bytesI_len, hk]; rfl
    obtain ⟨t, ht⟩ : ∃ t, sealB s k = t := ⟨_, rfl⟩
    obtain ⟨d2, hd2, hz2, hx2⟩ := seal_wire s da2 hd [0, 0, 0, 0] k hk rfl hbs
    rw [ht] at hd2
    have zt : t.size = s.size := by rw [← ht]; exact sealB_size s k (by omega)
    have hrem : remL 0#32 t.data.toList = 0#32 := by rw [← ht, sealB_list]; exact seal_rem _ _
    have htk : bytesI t = bytK mk kd sq tm sc f m hx pf ex2 d2 := by rw [hd2, bytK_split, hhd]
    have hxz : dz.extract 4 dz.size = da2 := bytesI_inj (by rw [bytesI_drop, HBZ.out]; rfl)
    obtain ⟨p, hp⟩ : ∃ p : Nat, max 0 (min at_ (8 * (t.size : Int))) = (p : Int) := ⟨(max 0 (min at_ (8 * (t.size : Int)))).toNat, by omega⟩
    obtain ⟨u, hu⟩ : ∃ u, turnOf t p mkk = u := ⟨_, rfl⟩
    have hT : IsTurn t u p mkk := by rw [← hu]; exact turnOf_is t p mkk
    have hb := hT.burst
    have htold := hT.told hrem
    have zu : u.size = t.size := hT.1
    obtain ⟨zb, hzb⟩ : ∃ b, (u.toList == t.toList) = b := ⟨_, rfl⟩
    have hdec : decide (remL 0#32 u.data.toList = 0#32) = zb := by
      rw [← hzb, Bool.eq_iff_iff, decide_eq_true_eq, str_iff, htold]
      constructor
      · intro h
        apply Classical.byContradiction
        intro hne
        have := hb.2.2.2 (fun e => hne e.symm)
        omega
      · intro h
        apply Classical.byContradiction
        intro hne
        exact hb.2.2.1 (by omega) h.symm
    have HPK := Lib.hid (fun W S hoa => rtp_Pack mk kd sq tm sc a m c hx pf ex2 dz f HZ.out (by omega) (by have := HZS.out; omega) HSQ.out HTM.out HSC.out HF.out W S hoa)
    rw [hs] at HPK
    have HSL := Lib.hid (fun W => crc_Seal s t k (by omega) (by omega) ht W)
    have HPA := Lib.hid (fun W => rtp_Parse mk kd sq tm sc m hx pf ex2 d2 f t htk HZ.out (by omega) (by omega) HSQ.out HTM.out HSC.out HF.out W)
    have HRT := Lib.hid (fun W => crc_Right t true W (by rw [maxLen_eq]; omega) (by rw [hrem]; rfl))
    have HTU := Lib.hid (fun W => crc_Turn t u at_ p mkk (by omega) hp hT W)
    have HRU := Lib.hid (fun W => crc_Right u zb W (by rw [maxLen_eq]; omega) hdec)
    have HTD := Lib.hid (fun W a c S => law04_Told mk kd sq tm sc a m c hx pf ex2 d2 0 f HSQ.out HTM.out HSC.out HF.out (by omega) W S)
    have HSM := Lib.hid (fun W a1 a2 q1 q2 S1 S2 => law04_Same mk kd sq tm sc a1 a2 m q1 q2 hx pf ex2 d2 0 f (by omega) W S1 S2)
    obtain ⟨s1, s2, s3, s4⟩ := str_ne0 (a := s) (by omega)
    have wk : IntKind.i64.wrap ((s.size : Int) - (dz.size : Int)) = (k : Int) := by
      have := HZS.out
      rw [IntWalk.i64_in _ (by omega)]
      omega
    have v1 : (4 : Int) ≤ (d2.size : Int) := by omega
    have v2 : (4 : Int) ≤ (dz.size : Int) := by have := HZS.out; omega
    clear hhd hbs hs zs ht hd2 hz2 zt hrem htk hp hu hT hb htold zu hdec hk hl0 hl1 HBZ HZS HZ
    have hoa : ∀ b off, a = some ⟨b, off, none⟩ → b < w5.heap.size := fun b off e => by
      subst e
      exact (own5.lt b rfl).2
    go_wp2_with fail
    refine (HPK.out w5 (SliceOf.of_rowL own5) hoa).mono ?_
    rintro e w6 ⟨rfl, hb6⟩
    have K6 := K5.below hb6 K5.lt
    have own6 := own_lasts own5 hb6
    have l5 := K5.lt
    have B6 := below_then B5 hb6 (by omega)
    have c6 := K6.cell
    simp at c6
    clear c5 hb6 K5 own5 B5 HPK hoa l5
    go_wp2_with fail
    refine (HSL.out w6).mono ?_
    rintro e w7 ⟨rfl, hb7⟩
    have K7 := K6.below hb7 K6.lt
    have own7 := own_lasts own6 hb7
    have l6 := K6.lt
    have B7 := below_then B6 hb7 (by omega)
    clear c6 hb7 K6 own6 B6 HSL wk s1 s2 s3 s4
    go_wp2_with fail
    refine (HPA.out w7).mono ?_
    rintro e w8 ⟨qa, qc, rfl, ownQ, hb8⟩
    have K8 := K7.below hb8 K7.lt
    have own8 := own_lasts own7 hb8
    have l7 := K7.lt
    have B8 := below_then B7 hb8 (by omega)
    have ownQ := own_down ownQ (show g0 ≤ w7.heap.size by omega)
    have Kq := Blk.new w8 28 #[.bool mk, .int .i64 kd, .int .u16 sq, .int .u32 tm, .int .u32 sc, .slice qa m qc, .bool hx, .int .i64 pf, .string ex2, .string d2, .int .i64 0]
    have Bq : Below w8.heap.size w8 (w8.alloc (.cells #[.bool mk, .int .i64 kd, .int .u16 sq, .int .u32 tm, .int .u32 sc, .slice qa m qc, .bool hx, .int .i64 pf, .string ex2, .string d2, .int .i64 0] 28)) := (Below.refl _ w8).alloc (Nat.le_refl _) _
    have K9 := K8.below Bq K8.lt
    have own9 := own_lasts own8 Bq
    have ownQ9 := own_lasts ownQ Bq
    have l8 := K8.lt
    have B9 := below_then B8 Bq (by omega)
    go_upto_region 10 with fail
    obtain ⟨gq', hgq⟩ : ∃ g, w8.heap.size = g := ⟨_, rfl⟩
    rw [hgq] at Kq l8 ⊢
    clear hb8 K7 own7 B7 HPA l6 l7 K8 own8 ownQ B8 Bq hgq
    generalize w8.alloc (.cells #[.bool mk, .int .i64 kd, .int .u16 sq, .int .u32 tm, .int .u32 sc, .slice qa m qc, .bool hx, .int .i64 pf, .string ex2, .string d2, .int .i64 0] 28) = w9 at *
    have E0 := fun (gx : Ext w9) => gx.cell (K9.cell 9) K9.lt
    have E1 := fun (gx : Ext w9) => gx.cell (Kq.cell 9) Kq.lt
    simp at E0 E1
    refine wp_region_ext (by kernel_rfl) (by kernel_rfl) ?_; (repeat (go_big_quiet_step ((first | (go_at_call 12; with_reducible exact calls_ext _ (HRT.out _)))))); refine wpQuiet_nil ?_; rintro _ ⟨gq, rfl⟩
    have K10 := K9.below gq.below K9.lt
    have Kq10 := Kq.below gq.below Kq.lt
    have own10 := own_lasts own9 gq.below
    have ownQ10 := own_lasts ownQ9 gq.below
    have l9 := K9.lt
    have B10 : Below g0 w gq.world := below_then B9 gq.below (by omega)
    clear E0 E1 K9 Kq own9 ownQ9 B9 HRT l9
    generalize gq.world = w10 at *
    have c10 := K10.cell
    have f10 := K10.frozen
    have cq10 := Kq10.cell
    simp at c10 cq10
    have n10 := own_ne_blk own10 K10 (by decide)
    have nq10 := own_ne_blk ownQ10 K10 (by decide)
    have K11 := K10.set_ 9 (.string d2)
    simp at K11
    have hk11 : ∀ z, z ≠ g0 → (w10.setCell ⟨g0, 9, none⟩ (.string d2)).heap[z]? = w10.heap[z]? := fun z hz => Below.heap_setCell _ ⟨g0, 9, none⟩ _ z hz
    have Kq11 : Blk (w10.setCell ⟨g0, 9, none⟩ (.string d2)) gq' 28 _ := (hk11 gq' (by omega)).trans Kq10
    have own11 := own_at own10 (w' := w10.setCell ⟨g0, 9, none⟩ (.string d2)) (fun j hj => hk11 j (fun e => n10 (by rw [hj, e])))
    have ownQ11 := own_at ownQ10 (w' := w10.setCell ⟨g0, 9, none⟩ (.string d2)) (fun j hj => hk11 j (fun e => nq10 (by rw [hj, e])))
    have B11 := B10.setCell (p := ⟨g0, 9, none⟩) (Nat.le_refl _) (.string d2)
    go_upto_region 13 with fail
    clear c10 f10 cq10 K10 Kq10 own10 ownQ10 hk11 B10 n10 nq10 hx2 hxz
    generalize w10.setCell ⟨g0, 9, none⟩ (.string d2) = w11 at *
    go_wp2_with fail
    refine (HTU.out w11).mono ?_
    rintro e w12 ⟨rfl, hb12⟩
    have K12 := K11.below hb12 K11.lt
    have Kq12 := Kq11.below hb12 Kq11.lt
    have S12 := SliceOf.of_rowL (own_lasts own11 hb12)
    have SQ12 := SliceOf.of_rowL (own_lasts ownQ11 hb12)
    have l11 := K11.lt
    have B12 := below_then B11 hb12 (by omega)
    clear K11 Kq11 own11 ownQ11 B11 hb12 HTU
    go_upto_region 14 with fail
    have hne : Nonempty (UWF (Facts w12 (FWr mk kd sq tm sc hx pf ex2 d2 m f))) := Facts.ne w12 _
    have E0 := fun (gx : UWF (Facts w12 (FWr mk kd sq tm sc hx pf ex2 d2 m f))) => (K12.below gx.holds.below K12.lt).cell
    have E1 := fun (gx : UWF (Facts w12 (FWr mk kd sq tm sc hx pf ex2 d2 m f))) => (Kq12.below gx.holds.below Kq12.lt).cell
    simp at E0 E1
    refine wp_region_free [(0, 1, some 1), (2, 1, some 3), (4, 0, some 4), (5, 2, some 7), (8, 6, none)] (Facts w12 (FWr mk kd sq tm sc hx pf ex2 d2 m f)) (GWr mk kd sq tm sc hx pf ex2 d2 m zb) (fun q => if q = 4 then .bool true else if q = 7 then .bool zb else .agg #[.bool mk, .int .i64 kd, .int .i64 sq, .int .i64 tm, .int .i64 sc, .slice none m 0, .bool hx, .int .i64 pf, .string ex2, .string d2, .int .i64 0]) (by kernel_rfl) (by kernel_rfl) ?_ ?_ ?_ ?_
    · intro y hy LL G W hC
      simp [moversI] at hy
      refine hC.quiet (fun v V => ⟨fun hi => ?_, fun hi => ?_⟩)
      · omega
      · omega
    · exact Facts.start _ _ _
    · intro q
      exact ⟨fun e => by subst e; exact ⟨_, _, rfl⟩, fun e => by subst e; exact ⟨_, _, rfl⟩, fun e => by subst e; rfl, fun e => by subst e; rfl⟩
    · intro G hG
      obtain ⟨x1, y1, g1⟩ := (hG 1).a1 rfl
      obtain ⟨x3, y3, g3⟩ := (hG 3).a3 rfl
      have g4 := (hG 4).a4 rfl
      have g7 := (hG 7).a7 rfl
      simp only [walkF, List.drop_zero, List.drop_succ_cons, List.take_succ_cons, List.take_zero, List.toList_toArray]; (repeat (go_big_quiet_step (fail))); refine wpQuiet_nil ?_
      refine ⟨_, _, _, _, _, _, rfl, .inl ⟨rfl, ?_, ?_⟩⟩
      · intro LL W hL hA hC
        refine ⟨?_⟩; go_simp; simp only [movesToUpon]
        refine (HTD.out W _ _ (S12.below hC.below)).mono ?_
        rintro e w' ⟨ta, tc, rfl, ownT, hb'⟩
        exact ⟨_, rfl, ⟨fun _ => ⟨_, _, rfl⟩, (fun e => by cases e), (fun e => by cases e), (fun e => by cases e)⟩, hC.add (FWr_lasts _ _ _ _ _ _ _ _ _ _ _) hb' ⟨fun _ => ⟨_, _, rfl, SliceOf.of_rowL ownT⟩, (fun e => by cases e)⟩⟩
      · intro K' hK'; dsimp only at hK'; rw [g1]; go_big_quiet_op; go_big_quiet_on; (repeat (go_big_quiet_step (fail))); refine wpQuiet_nil ?_
        refine ⟨_, _, _, _, _, _, rfl, .inl ⟨rfl, ?_, ?_⟩⟩
        · intro LL W hL hA hC
          refine ⟨?_⟩; go_simp; simp only [movesToUpon]
          refine (HTD.out W _ _ (SQ12.below hC.below)).mono ?_
          rintro e w' ⟨ta, tc, rfl, ownT, hb'⟩
          exact ⟨_, rfl, ⟨(fun e => by cases e), fun _ => ⟨_, _, rfl⟩, (fun e => by cases e), (fun e => by cases e)⟩, hC.add (FWr_lasts _ _ _ _ _ _ _ _ _ _ _) hb' ⟨(fun e => by cases e), fun _ => ⟨_, _, rfl, SliceOf.of_rowL ownT⟩⟩⟩
        · intro K' hK'; dsimp only at hK'; rw [g3]; go_big_quiet_op; go_big_quiet_on; (repeat (go_big_quiet_step (fail))); refine wpQuiet_nil ?_
          refine ⟨_, _, _, _, _, _, rfl, .inl ⟨rfl, ?_, ?_⟩⟩
          · intro LL W hL hA hC
            obtain ⟨ta, tc, q1, T1⟩ := (hC.fact 1 (hA 1 (by kernel_rfl))).h1 rfl
            obtain ⟨ua, uc, q2, T2⟩ := (hC.fact 3 (hA 3 (by kernel_rfl))).h3 rfl
            rw [g1] at q1
            rw [g3] at q2
            simp at q1 q2
            obtain ⟨rfl, rfl⟩ := q1
            obtain ⟨rfl, rfl⟩ := q2
            refine ⟨?_⟩; go_simp; simp only [movesToUpon]
            refine (HSM.out W _ _ _ _ T1 T2).mono ?_
            rintro e w' ⟨rfl, hb'⟩
            exact ⟨_, rfl, ⟨(fun e => by cases e), (fun e => by cases e), fun _ => rfl, (fun e => by cases e)⟩, hC.add (FWr_lasts _ _ _ _ _ _ _ _ _ _ _) hb' ⟨(fun e => by cases e), (fun e => by cases e)⟩⟩
          · intro K' hK'; dsimp only at hK'; rw [g4]; go_big_quiet_op; go_big_quiet_on; (repeat (go_big_quiet_step (fail))); refine wpQuiet_nil ?_
            refine ⟨_, _, _, _, _, _, rfl, .inl ⟨rfl, ?_, ?_⟩⟩
            · intro LL W hL hA hC
              refine ⟨?_⟩; go_simp; simp only [movesToUpon]
              refine (HRU.out W).mono ?_
              rintro e w' ⟨rfl, hb'⟩
              exact ⟨_, rfl, ⟨(fun e => by cases e), (fun e => by cases e), (fun e => by cases e), fun _ => rfl⟩, hC.add (FWr_lasts _ _ _ _ _ _ _ _ _ _ _) hb' ⟨(fun e => by cases e), (fun e => by cases e)⟩⟩
            · intro K' hK'; dsimp only at hK'; rw [g7]; go_big_quiet_op; go_big_quiet_on; (repeat (go_big_quiet_step (fail))); refine wpQuiet_nil ?_
              intro LL w13 hL hC
              have l12 := K12.lt
              have B13 := below_then B12 hC.below (by omega)
              clear hC hL hG g1 g3 g4 g7 E0 E1 hne
              go_wp2_with fail
              go_ret
              exact ⟨ret_bool (by simp), by rw [hg0]; exact B13⟩
end Go.Proofs.YtbibgffgljojgaaDoor
