/- GapsOften, walked. No condition. -/
import Derived.Test.YtonamlgipoannaaGaps11
import Derived.Test.YtonamlgipoannaaGapsOfP
import Derived.Test.YtonamlgipoannaaMapsB
namespace Go.Proofs.Ytonamlgipoannaa
open Go.RowKit BigFrame
attribute [local go_sem ↓] Go.wp_at_zero Go.wp_at_succ
attribute [local go_sem] i64_and15 i64_and31 i64_and3

theorem clip_in2 {n a b : Int} (h1 : a ≤ n) (h2 : n ≤ b) : clipI n a b = n := by unfold clipI; omega
theorem wf_i64 {x : Int} (h1 : -9223372036854775808 ≤ x) (h2 : x ≤ 9223372036854775807) : (Lit.int .i64 x).wf = true := by
  simp [Lit.wf, IntKind.min, IntKind.max, IntKind.bits, IntKind.signed]; omega
theorem numm_to {W : World} {b n : Nat} {f f' : Int → Int} (h : NumM W b n f) (e : f = f') : NumM W b n f' := e ▸ h
/-- What holds of the worlds behind each act. -/
structure OfW (w0 wr : World) (g mp cb : Nat) (A B C D a2 a3 : Int) (y : Bool) (e u top : Int) (l : List WR) (v : Value) (n1 n2 : Nat) (f : Int → Int) (h : Int → Bool) : Prop where
  good : Good A B C D y e l
  oft : Oft B y e top l f h
  gv : GV wr g A B C D y e u l v
  asked : NumM wr mp n1 f
  came : BoolM wr (mp + 1) n2 h
  cfg : Blk wr cb 53 #[.int .i64 A, .int .i64 B, .int .i64 a2, .int .i64 a3]
  own : ∀ j, v.ownBlock = some j → w0.heap.size ≤ j ∧ j ≠ mp ∧ j ≠ mp + 1 ∧ j ≠ cb
  below : Below w0.heap.size w0 wr
set_option maxRecDepth 20000 in
set_option maxHeartbeats 16000000 in
theorem GapsOften_walk (a0x0 : Int) (a0x1 : Int) (a0x2 : Int) (a0x3 : Int) (a1a : Option Addr) (a1l a1c : Nat) (a1e0 : Nat → Int) (a1e1 : Nat → Int) (a1e2 : Nat → Int) (w : World) (a0x0w0 : (Lit.int .i64 a0x0).wf = true) (a0x1w0 : (Lit.int .i64 a0x1).wf = true) (a0x2w0 : (Lit.int .i64 a0x2).wf = true) (a0x3w0 : (Lit.int .i64 a0x3).wf = true) (a1S : SliceOf w a1a a1l a1c 3 (fun i => [.int .i64 (a1e0 i), .int .i64 (a1e1 i), .int .i64 (a1e2 i)])) (a1F0 : ∀ i, i < a1l → (Lit.int .i64 (a1e0 i)).wf = true) (a1F1 : ∀ i, i < a1l → (Lit.int .i64 (a1e1 i)).wf = true) (a1F2 : ∀ i, i < a1l → (Lit.int .i64 (a1e2 i)).wf = true) :
    Calls Try.prog 7 #[.agg #[.int .i64 a0x0, .int .i64 a0x1, .int .i64 a0x2, .int .i64 a0x3], .slice a1a a1l a1c] w fun e w' => e = .returned (.bool true) ∧ Below w.heap.size w w' := by
  clear a0x0w0 a0x1w0 a0x2w0 a0x3w0 a1F0 a1F1 a1F2
  obtain ⟨A0, hA0⟩ : ∃ x, a0x0 % 16 = x := ⟨_, rfl⟩
  obtain ⟨B0, hB0⟩ : ∃ x, a0x1 % 4 = x := ⟨_, rfl⟩
  obtain ⟨A, hA⟩ : ∃ x, 1 + A0 = x := ⟨_, rfl⟩
  obtain ⟨B, hB⟩ : ∃ x, 1 + B0 = x := ⟨_, rfl⟩
  have wA : IntKind.i64.wrap (1 + A0) = A := by rw [IntWalk.i64_in _ (by omega), hA]
  have wB : IntKind.i64.wrap (1 + B0) = B := by rw [IntWalk.i64_in _ (by omega), hB]
  have nA : bits .and .i64 a0x0 15 = A0 := by rw [i64_and15, hA0]
  have nB : bits .and .i64 a0x1 3 = B0 := by rw [i64_and3, hB0]
  obtain ⟨C, hC⟩ : ∃ x, clipI a0x2 0 1048576 = x := ⟨_, rfl⟩
  obtain ⟨D, hD⟩ : ∃ x, clipI a0x3 1 1048576 = x := ⟨_, rfl⟩
  have cA : clipI A 1 1024 = A := clip_in2 (by omega) (by omega)
  have cB : clipI B 1 100 = B := clip_in2 (by omega) (by omega)
  have HNW := Lib.hid (fun W => gaps_New A B a0x2 a0x3 A B C D cA cB hC hD W)
  have G0 : Good A B C D false 0 [] := Good.start cA cB hC hD
  have hB1 : 0 ≤ B := by omega
  have HS := Lib.hid a1S
  have SL := a1S.size_le
  have hmm := @run_makeMap Try.prog
  clear hA hB hC hD cA cB hA0 hB0 a1S
  have K0 := Blk.new w 53 #[.int .i64 a0x0, .int .i64 a0x1, .int .i64 a0x2, .int .i64 a0x3]
  have B0' : Below w.heap.size w (w.alloc (.cells #[.int .i64 a0x0, .int .i64 a0x1, .int .i64 a0x2, .int .i64 a0x3] 53)) := (Below.refl _ w).alloc (Nat.le_refl _) _
  have s0 := B0'.size
  go_enter Try.func7, Try.ntmps7
  go_upto_region 1 with fail
  generalize w.alloc (.cells #[.int .i64 a0x0, .int .i64 a0x1, .int .i64 a0x2, .int .i64 a0x3] 53) = w1 at *
  go_wp2_with fail
  refine (law22_awake w1).mono ?_
  rintro e w2 ⟨rfl, B2⟩
  have K2 := K0.below B2 K0.lt
  have B02 := B0'.trans (B2.mono s0)
  have K3 := (K2.set_ 0 (.int .i64 A)).set_ 1 (.int .i64 B)
  have B03 := (B02.setCell (p := ⟨w.heap.size, 0, none⟩) (Nat.le_refl _) (.int .i64 A)).setCell (p := ⟨w.heap.size, 1, none⟩) (Nat.le_refl _) (.int .i64 B)
  have c2 := K2.cell
  have f2 := K2.frozen
  simp at c2 K3
  clear K0 B0' B2 B02
  go_upto_region 4 with fail
  generalize (w2.setCell ⟨w.heap.size, 0, none⟩ (.int .i64 A)).setCell ⟨w.heap.size, 1, none⟩ (.int .i64 B) = w3 at *
  have c3 := K3.cell
  simp at c3
  clear c2 f2 K2
  go_wp2_with fail
  refine (HNW.out w3).mono ?_
  rintro e w4 ⟨g, rfl, h4, hg, B4⟩
  have K4 := K3.below B4 K3.lt
  have s3 := B03.size
  have B04 := B03.trans (B4.mono s3)
  have gw : w.heap.size ≤ g := by omega
  have gl := h4.blk.lt
  have hcg : w.heap.size < w3.heap.size := K3.lt
  clear c3 K3 B03
  have P3 := NumM.made w4
  have Q3 := BoolM.made (w4.alloc (.map #[] 0))
  have Bm := ((Below.refl w4.heap.size w4).alloc (Nat.le_refl _) (.map #[] 0)).alloc (by simp) (.map #[] 0)
  have P3' := P3.at_ (((Below.refl _ (w4.alloc (.map #[] 0))).alloc (Nat.le_refl _) (.map #[] 0)).block w4.heap.size (by simp))
  have h5 := h4.below Bm
  have K5 := K4.below Bm K4.lt
  have B05 : Below w.heap.size w ((w4.alloc (.map #[] 0)).alloc (.map #[] 0)) := B04.trans (Bm.mono B04.size)
  have hz2 : (w4.alloc (.map #[] 0)).heap.size = w4.heap.size + 1 := by simp
  rw [hz2] at Q3
  obtain ⟨mp, hmp⟩ : ∃ mp, w4.heap.size = mp := ⟨_, rfl⟩
  have hgm : g < mp := by omega
  have s4 := B04.size
  have hmw : w.heap.size ≤ mp := by omega
  have hcm : w.heap.size < mp := by have := K4.lt; omega
  have hgc : w.heap.size < g := by omega
  go_upto_region 8 with fail
  clear hmm
  rw [hmp] at P3' Q3
  generalize (w4.alloc (.map #[] 0)).alloc (.map #[] 0) = w5 at *
  have OW : OfW w w5 g mp w.heap.size A B C D a0x2 a0x3 false 0 0 0 [] (.slice none 0 0) 0 0 (fun _ => 0) (fun _ => false) := ⟨G0, Oft.start hB1, h5, P3', Q3, K5, (fun j e => by cases e), B05⟩
  clear P3 P3' Q3 Bm h4 h5 K4 K5 B4 B04 B05 hz2 hmp HNW G0 gl
  go_wp2_with fail
  go_loopw [8, 9, 10] (fun x8 x9 x10 wr => ∃ (k : Nat) (top now : Int) (y : Bool) (e u : Int) (l : List WR) (v : Value) (n1 n2 : Nat) (f : Int → Int) (h : Int → Bool), k ≤ 60 ∧ k ≤ a1l ∧ x8 = .int .i64 top ∧ x9 = .int .i64 now ∧ x10 = .int .i64 k ∧ 0 ≤ top ∧ top ≤ 23 * (k : Int) ∧ 0 ≤ now ∧ now ≤ 15 * (k : Int) ∧ n1 ≤ 1024 * k ∧ n2 ≤ k ∧ OfW w wr g mp w.heap.size A B C D a0x2 a0x3 y e u top l v n1 n2 f h) (fun _ _ x10 _ => 60 - (intOf x10).toNat)
  case atStart => exact ⟨0, 0, 0, false, 0, 0, [], _, 0, 0, _, _, by omega, by omega, rfl, rfl, rfl, by omega, by omega, by omega, by omega, by omega, by omega, OW⟩
  case round =>
    clear OW
    obtain ⟨k, top, now, y, e0, u, l, v, n1, n2, f, h, hk, hk2, rfl, rfl, rfl, ht0, ht1, hw0, hw1, hn1, hn2, O⟩ := hrel
    have Bw := O.below
    have sB := Bw.size
    by_cases hgo : k < a1l ∧ k < 60
    · obtain ⟨hlt, h60⟩ := hgo
      obtain ⟨bb, off, rfl, hbb, hcell⟩ := HS.out.at3x (by omega)
      obtain ⟨hc0', hc1', hc2'⟩ := hcell k hlt
      have d0 := (Bw.cell (p := ⟨bb, off + k * 3, none⟩) hbb).trans hc0'
      have d1 := (Bw.cell (p := ⟨bb, off + k * 3 + 1, none⟩) hbb).trans hc1'
      have d2 := (Bw.cell (p := ⟨bb, off + k * 3 + 2, none⟩) hbb).trans hc2'
      obtain ⟨kd, hkd⟩ : ∃ kd, a1e0 k = kd := ⟨_, rfl⟩
      obtain ⟨xn, hxn⟩ : ∃ kd, a1e1 k = kd := ⟨_, rfl⟩
      obtain ⟨lt, hlt'⟩ : ∃ kd, a1e2 k = kd := ⟨_, rfl⟩
      rw [hkd] at d0
      rw [hxn] at d1
      rw [hlt'] at d2
      clear hkd hxn hlt' hcell hc0' hc1' hc2'
      have i0 : (0 : Int) ≤ (k : Int) := by omega
      have i1 : (k : Int) < (a1l : Int) := by omega
      have i2 : (k : Int) < 60 := by omega
      have wk : IntKind.i64.wrap ((k : Int) + 1) = ((k + 1 : Nat) : Int) := by rw [IntWalk.i64_in _ (by omega)]; omega
      obtain ⟨l0, hl0⟩ : ∃ x, lt % 16 = x := ⟨_, rfl⟩
      have nl0 : bits .and .i64 lt 15 = l0 := by rw [i64_and15, hl0]
      obtain ⟨nw, hnw⟩ : ∃ x, now + l0 = x := ⟨_, rfl⟩
      have wnw : IntKind.i64.wrap (now + l0) = nw := by rw [IntWalk.i64_in _ (by omega), hnw]
      have hnw0 : 0 ≤ nw ∧ nw ≤ 15 * ((k + 1 : Nat) : Int) := by omega
      have Ka := Blk.new wr 60 #[.int .i64 kd, .int .i64 xn, .int .i64 lt]
      have Ba : Below wr.heap.size wr (wr.alloc (.cells #[.int .i64 kd, .int .i64 xn, .int .i64 lt] 60)) := (Below.refl _ wr).alloc (Nat.le_refl _) _
      have O1 : OfW w (wr.alloc (.cells #[.int .i64 kd, .int .i64 xn, .int .i64 lt] 60)) g mp w.heap.size A B C D a0x2 a0x3 y e0 u top l v n1 n2 f h := ⟨O.good, O.oft, O.gv.below Ba, O.asked.at_ (Ba.block mp O.asked.lt), O.came.at_ (Ba.block (mp + 1) O.came.lt), O.cfg.below Ba O.cfg.lt, O.own, below_then Bw Ba (Nat.le_refl _)⟩
      go_upto_region 13 with fail
      obtain ⟨ba, hba⟩ : ∃ ba, wr.heap.size = ba := ⟨_, rfl⟩
      rw [hba] at Ka ⊢
      have hbam : mp + 1 < ba := by have := O.came.lt; omega
      generalize wr.alloc (.cells #[.int .i64 kd, .int .i64 xn, .int .i64 lt] 60) = w6 at *
      clear hba O d0 d1 d2 Ba Bw sB hl0 hnw
      have ka := Ka.cell
      simp at ka
      have s6 := O1.below.size
      have hml := O1.asked.lt
      have hcl := O1.came.lt
      by_cases hk2' : kd = 2
      · subst hk2'
        have b2 := O1.good.b2
        have HD := Lib.hid (gaps_Due g A B C D y e0 u l v nw nw (clip_in2 (by omega) (by omega)) w6 O1.gv (by have := O1.good.small; omega) b2 O1.good.ok)
        rw [dueO_eq] at HD
        have O2 := O1.oft.due O1.good nw
        have G2 := O1.good.due nw
        obtain ⟨L, hL⟩ : ∃ x, dueN B nw l = x := ⟨_, rfl⟩
        rw [hL] at HD O2
        have HLn := Lib.hid hL
        obtain ⟨l2, hl2⟩ : ∃ x, dueL B nw l = x := ⟨_, rfl⟩
        rw [hl2] at HD O2 G2
        obtain ⟨u2, hu2⟩ : ∃ x, dueU B nw u l = x := ⟨_, rfl⟩
        rw [hu2] at HD
        have hLl : L.length ≤ 1024 := by
          rw [← hL]; unfold dueN; rw [List.length_map]
          exact Nat.le_trans (List.length_filter_le _ _) O1.good.small
        have HND := Lib.hid (show L.Nodup by rw [← hL]; exact dueN_nodup O1.good.rise)
        clear hL hl2 hu2
        go_wp2_with fail
        refine HD.out.mono ?_
        rintro e w7 ⟨vo, rfl, ⟨zo, own7⟩, v7, h7, hv7, K7⟩
        obtain ⟨oa, oc, rfl, hz⟩ := own_slice own7
        have hzL : zo ≤ 1024 := by rw [hz, List.length_map]; exact hLl
        have HZ := Lib.hid (show L.length = zo by rw [hz, List.length_map])
        have s7 := K7.below.size
        have B7 : Below w.heap.size w w7 := O1.below.trans (K7.down s6 gw)
        have MA7 := O1.asked.at_ (K7.keep mp hml (by omega))
        have MC7 := O1.came.at_ (K7.keep (mp + 1) hcl (by omega))
        have KC7 : Blk w7 w.heap.size 53 _ := (K7.keep w.heap.size O1.cfg.lt (by omega)).trans O1.cfg
        have hvo : ∀ j, (Value.slice oa zo oc).ownBlock = some j → w6.heap.size ≤ j := fun j hj => (own7.lt j hj).1
        have hgl7 : g < w7.heap.size := h7.blk.lt
        have hml7 := MA7.lt
        have hcl7 := MC7.lt
        have hkl7 := KC7.lt
        have HVN := Lib.hid (fun j (hj : v7.ownBlock = some j) => hv7 j hj)
        have HVL := Lib.hid (fun j (hj : v7.ownBlock = some j) => (h7.own.lt j hj).2)
        have KA7 : Blk w7 ba 60 _ := (K7.keep ba Ka.lt (by have := O1.gv.blk.lt; intro e; subst e; have hb := O1.gv.blk; have hk := Ka; unfold Blk at hb hk; rw [hk] at hb; cases hb)).trans Ka
        clear hz ka Ka
        have HO := Lib.hid own7
        have s7w := B7.size
        obtain ⟨wz, hwz⟩ : ∃ wl, wl = w7 := ⟨_, rfl⟩
        subst hwz
        go_wp2_with fail
        go_loopw [62] (fun x62 wr => ∃ (j n1' : Nat), j ≤ zo ∧ x62 = .int .i64 j ∧ NumM wr mp n1' (fAt f (L.take j)) ∧ n1' ≤ n1 + j ∧ (∀ q, q < wz.heap.size → q ≠ mp → wr.heap[q]? = wz.heap[q]?) ∧ wz.heap.size ≤ wr.heap.size ∧ Below w.heap.size w wr) (fun x62 _ => zo - (intOf x62).toNat)
        case atStart => exact ⟨0, n1, by omega, rfl, by rw [List.take_zero, fAt_nil]; exact MA7, by omega, (fun _ _ _ => rfl), Nat.le_refl _, B7⟩
        case round =>
          obtain ⟨j, n1', hj, rfl, MA, hn1', KP, hzr, Bw⟩ := hrel
          have sw := Bw.size
          by_cases hjz : j < zo
          · have hjL : j < L.length := by have := HZ.out; omega
            obtain ⟨x, hx⟩ : ∃ x, L[j]? = some x := ⟨_, List.getElem?_eq_getElem hjL⟩
            obtain ⟨a', c', e', hc⟩ := own_open HO.out
            injection e' with e1 e2 e3
            subst e1 e3
            obtain ⟨gq, rfl, hgq0, hgq, hcell⟩ := hc (by omega)
            have d0 := hcell wr (KP gq hgq (by omega)) j _ (show (L.map fun x => Value.int .i64 x)[j]? = some (.int .i64 x) by rw [List.getElem?_map, hx]; rfl)
            have hxm := List.mem_of_getElem? hx
            obtain ⟨hx1, hx2⟩ := O1.oft.one (N := nw) (x := x) (by rw [HLn.out]; exact hxm)
            have hx0 := O1.oft.f0 x
            have hxl : (Lit.int .i64 x).wf = true := by
              obtain ⟨r, hr, hrn, _⟩ := dueN_mem (show x ∈ dueN B nw l by rw [HLn.out]; exact hxm)
              have h1 := O1.good.lo r hr
              have h2 := O1.good.hi r hr
              have h3 := O1.good.e1
              exact wf_i64 (by omega) (by omega)
            obtain ⟨hf1, hf2⟩ := fAt_snoc (f := f) HND.out hx
            obtain ⟨fx, hfx⟩ : ∃ y, f x = y := ⟨_, rfl⟩
            rw [hfx] at hf1 hf2 hx1 hx0
            have b2 := O1.good.b2
            have wf1 : IntKind.i64.wrap (fx + 1) = fx + 1 := IntWalk.i64_in _ (by omega)
            have hfl : (Lit.int .i64 (fx + 1)).wf = true := wf_i64 (by omega) (by omega)
            have HL1 := MA.look x hxl fx hf1
            obtain ⟨w8, hrun, MA8, hgr⟩ := MA.put x hxl (fx + 1) hfl (by unfold maxLen; omega)
            have far := grown_far hgr
            have sz8 := hgr.size
            have KP8 : ∀ q, q < wz.heap.size → q ≠ mp → w8.heap[q]? = wz.heap[q]? := fun q h1 h2 => (far q (by omega) h2).trans (KP q h1 h2)
            have B8 := Bw.trans (grown_below hgr (B := w.heap.size) hmw sw)
            have HL2 := MA8.look x hxl (fx + 1) (by simp)
            have MC8 := MC7.at_ (KP8 (mp + 1) hcl7 (by omega))
            have HL3 := MC8.look x hxl false hx2
            have KC8 : Blk w8 w.heap.size 53 _ := (KP8 w.heap.size hkl7 (by omega)).trans KC7
            have c8 := KC8.cell
            simp at c8
            have HMA := Lib.hid (numm_to MA8 hf2.symm)
            have q0 : (0 : Int) ≤ (j : Int) := by omega
            have q1 : (j : Int) < (zo : Int) := by omega
            have q2 : ¬ B < fx + 1 := by omega
            have wj : IntKind.i64.wrap ((j : Int) + 1) = ((j + 1 : Nat) : Int) := by rw [IntWalk.i64_in _ (by omega)]; omega
            clear hx hjL hc hcell hf1 hf2 hfx MA hx2
            go_wp2_with fail
            go_roundw
            case rel => exact ⟨j + 1, n1' + 1, by omega, by go_num, HMA.out, by omega, KP8, by omega, B8⟩
            case measure => simp only [intOf]; omega
          · obtain rfl : j = zo := by omega
            have q1 : ¬ (j : Int) < (j : Int) := by omega
            have hall : L.take j = L := by have := HZ.out; rw [← this]; exact List.take_length
            rw [hall] at MA
            have O3 := Lib.hid (show OfW w wr g mp w.heap.size A B C D a0x2 a0x3 y e0 u2 top l2 v7 n1' n2 (fAt f L) h from ⟨G2, O2, h7.at_ (KP g hgl7 (by omega)) (fun q hq => KP q (HVL.out q hq) (by have := HVN.out q hq; omega)), MA, MC7.at_ (KP (mp + 1) hcl7 (by omega)), (KP w.heap.size hkl7 (by omega)).trans KC7, (fun q hq => by have := HVN.out q hq; exact ⟨by omega, by omega, by omega, by omega⟩), Bw⟩)
            clear hall MA
            go_wp2_with fail
            go_roundw
            case rel => exact ⟨k + 1, top, nw, y, e0, u2, l2, v7, n1', n2, _, _, by omega, by omega, rfl, rfl, by go_num, by omega, by omega, by omega, by omega, by omega, by omega, O3.out⟩
            case measure => simp only [intOf]; omega
      · have k2b : (kd == 2) = false := by simp [hk2']
        obtain ⟨q1, hq1⟩ : ∃ x, xn % 32 = x := ⟨_, rfl⟩
        have nq1 : bits .and .i64 xn 31 = q1 := by rw [i64_and31, hq1]
        obtain ⟨q2, hq2⟩ : ∃ x, top + q1 = x := ⟨_, rfl⟩
        obtain ⟨N, hN⟩ : ∃ x, q2 - 8 = x := ⟨_, rfl⟩
        have wq2 : IntKind.i64.wrap (top + q1) = q2 := by rw [IntWalk.i64_in _ (by omega), hq2]
        have wN : IntKind.i64.wrap (q2 - 8) = N := by rw [IntWalk.i64_in _ (by omega), hN]
        obtain ⟨tp, htp⟩ : ∃ x, max top N = x := ⟨_, rfl⟩
        have mtp : (if top < N then N else top) = tp := by rw [← htp]; split <;> omega
        have hNb : -8 ≤ N ∧ N ≤ 1500 := by omega
        have htpb : 0 ≤ tp ∧ tp ≤ 23 * ((k + 1 : Nat) : Int) := by omega
        have cN : clipI N (-1099511627776) 1099511627776 = N := clip_in2 (by omega) (by omega)
        have HCM := Lib.hid (gaps_Came g A B C D y e0 u l v N nw N nw cN (clip_in2 (by omega) (by omega)) w6 O1.gv O1.good)
        have O2 := O1.oft.cam O1.good N nw tp htp
        have G2 := O1.good.came (n := N) (N := N) (T := nw) cN
        obtain ⟨l2, hl2⟩ : ∃ x, camL A C D y e0 l N nw = x := ⟨_, rfl⟩
        obtain ⟨e2, he2⟩ : ∃ x, camE y e0 N = x := ⟨_, rfl⟩
        obtain ⟨u2, hu2⟩ : ∃ x, camU A y e0 u l.length N = x := ⟨_, rfl⟩
        rw [hl2, he2, hu2] at HCM
        rw [hl2, he2] at O2 G2
        have hNl : (Lit.int .i64 N).wf = true := wf_i64 (by omega) (by omega)
        clear hl2 he2 hu2 hq1 hq2 hN htp cN
        go_wp2_with fail
        refine HCM.out.mono ?_
        rintro e w7 ⟨rfl, v7, h7, M7⟩
        have s7 := M7.below.size
        have B7 : Below w.heap.size w w7 := O1.below.trans (M7.down s6 gw (fun j hj => (O1.own j hj).1))
        have MA7 := O1.asked.at_ (M7.keep mp hml (by omega) (fun e => (O1.own _ e).2.1 rfl))
        have MC7 := O1.came.at_ (M7.keep (mp + 1) hcl (by omega) (fun e => (O1.own _ e).2.2.1 rfl))
        have KC7 : Blk w7 w.heap.size 53 _ := (M7.keep w.heap.size O1.cfg.lt (by omega) (fun e => (O1.own _ e).2.2.2 rfl)).trans O1.cfg
        have hv7 : ∀ j, v7.ownBlock = some j → w.heap.size ≤ j ∧ j ≠ mp ∧ j ≠ mp + 1 ∧ j ≠ w.heap.size := fun j hj => by
          rcases M7.row j hj with h1 | h1
          · exact O1.own j h1
          · exact ⟨by omega, by omega, by omega, by omega⟩
        obtain ⟨w8, hrun, MC8, hgr⟩ := MC7.put N hNl true (by unfold maxLen; omega)
        have far := grown_far hgr
        have h8 := h7.at_ (far g h7.blk.lt (by omega)) (fun j hj => far j (h7.own.lt j hj).2 (hv7 j hj).2.2.1)
        have MA8 := MA7.at_ (far mp MA7.lt (by omega))
        have KC8 : Blk w8 w.heap.size 53 _ := (far w.heap.size KC7.lt (by omega)).trans KC7
        have B8 := B7.trans (grown_below hgr (B := w.heap.size) (by omega) B7.size)
        have HWA := Lib.hid (gaps_Wanting g A B C D true e2 u2 l2 v7 w8 h8 (by have := G2.small; omega))
        obtain ⟨m, hm⟩ : ∃ x, l2.length = x := ⟨_, rfl⟩
        have hmA := G2.len
        have hm1 := G2.small
        rw [hm] at HWA hmA hm1
        have HM := Lib.hid hm
        clear hm ka Ka far M7 MA7 MC7 KC7 hgr h7 B7
        go_wp2_with fail
        refine HWA.out.mono ?_
        rintro e w9 ⟨v9, rfl, own9, B9⟩
        obtain ⟨oa, oc, rfl, -⟩ := own_slice own9
        have O3 := Lib.hid (show OfW w w9 g mp w.heap.size A B C D a0x2 a0x3 true e2 u2 tp l2 v7 n1 (n2 + 1) f (fun j => if j = N then true else h j) from ⟨G2, O2, h8.below B9, MA8.at_ (B9.block mp MA8.lt), MC8.at_ (B9.block (mp + 1) MC8.lt), KC8.below B9 KC8.lt, hv7, B8.trans (B9.mono B8.size)⟩)
        have K9 := KC8.below B9 KC8.lt
        have c9 := K9.cell
        simp at c9
        have MC9 := Lib.hid (MC8.at_ (B9.block (mp + 1) MC8.lt))
        have HO := Lib.hid own9
        have p9 : ¬ A < (m : Int) := by omega
        clear own9 MC8 MA8 KC8 K9 h8 B8
        obtain ⟨wz, hwz⟩ : ∃ wl, wl = w9 := ⟨_, rfl⟩
        subst hwz
        go_wp2_with fail
        go_loopw [106] (fun x106 wr => ∃ j : Nat, j ≤ m ∧ x106 = .int .i64 j ∧ wz = wr) (fun x106 _ => m - (intOf x106).toNat)
        case atStart => exact ⟨0, by omega, rfl, rfl⟩
        case round =>
          obtain ⟨j, hj, rfl, rfl⟩ := hrel
          by_cases hjm : j < m
          · have hjl : j < l2.length := by have := HM.out; omega
            obtain ⟨r, hr⟩ : ∃ r, l2[j]? = some r := ⟨_, List.getElem?_eq_getElem hjl⟩
            obtain ⟨a', c', e', hc⟩ := own_open HO.out
            injection e' with e1 e2' e3
            subst e1 e3
            obtain ⟨gq, rfl, hgq0, hgq, hcell⟩ := hc (by omega)
            have d0 := hcell wz rfl j _ (show (numC l2)[j]? = some (.int .i64 r.n) by unfold numC; rw [List.getElem?_map, hr]; rfl)
            have hrm := List.mem_of_getElem? hr
            have hx1 := G2.lo r hrm
            have hx2 := G2.hi r hrm
            have hx3 := G2.e1
            have hx4 := O2.top rfl
            have hx5 := O2.came r hrm
            obtain ⟨x, hx⟩ : ∃ x, r.n = x := ⟨_, rfl⟩
            rw [hx] at d0 hx1 hx2 hx5
            have hxl : (Lit.int .i64 x).wf = true := wf_i64 (by omega) (by omega)
            have HLK := MC9.out.look x hxl false hx5
            have q0' : (0 : Int) ≤ (j : Int) := by omega
            have q1' : (j : Int) < (m : Int) := by omega
            have q2' : ¬ tp ≤ x := by omega
            have wj : IntKind.i64.wrap ((j : Int) + 1) = ((j + 1 : Nat) : Int) := by rw [IntWalk.i64_in _ (by omega)]; omega
            clear hr hjl hc hcell hx hrm hx5
            go_wp2_with fail
            go_roundw
            case rel => exact ⟨j + 1, by omega, by go_num, by trivial⟩
            case measure => simp only [intOf]; omega
          · obtain rfl : j = m := by omega
            have q1' : ¬ (j : Int) < (j : Int) := by omega
            go_wp2_with fail
            go_roundw
            case rel => exact ⟨k + 1, tp, nw, true, e2, u2, l2, v7, n1, n2 + 1, _, _, by omega, by omega, rfl, rfl, by go_num, by omega, by omega, by omega, by omega, by omega, by omega, O3.out⟩
            case measure => simp only [intOf]; omega
    · have hcs : ((k : Int) < (a1l : Int) ∧ ¬ (k : Int) < 60) ∨ ¬ (k : Int) < (a1l : Int) := by omega
      rcases hcs with ⟨i1, i2⟩ | i1
      all_goals
        go_wp2_with fail
        go_ret
        exact ⟨rfl, Bw⟩
end Go.Proofs.Ytonamlgipoannaa
