/- Law 04: Cut, Told, Same; the document's May of what may not be. No condition but the sizes. (Printed by gen_wire2.py.) -/
import Derived.Test.YtbibgffgljojgaaDoorWire1
import Derived.Test.YtbibgffgljojgaaDoorApp
import Derived.Test.YtbibgffgljojgaaDoorCrc2
namespace Go.Proofs.YtbibgffgljojgaaDoor
open Go.RowKit BigFrame
attribute [local go_sem ↓] Go.wp_at_zero Go.wp_at_succ

theorem eleven_set {w : World} {g : Nat} {t : TypeId} {y0 y1 y2 y3 y4 y5 y6 y7 y8 y9 y10 : Value} (h : Blk w g t #[y0, y1, y2, y3, y4, y5, y6, y7, y8, y9, y10]) (x0 x1 x2 x3 x4 x5 x6 x7 x8 x9 x10 : Value) (B : Nat) (hB : B ≤ g) :
    ∃ w2, ((((((((((w.setCell ⟨g, 0, none⟩ x0).setCell ⟨g, 1, none⟩ x1).setCell ⟨g, 2, none⟩ x2).setCell ⟨g, 3, none⟩ x3).setCell ⟨g, 4, none⟩ x4).setCell ⟨g, 5, none⟩ x5).setCell ⟨g, 6, none⟩ x6).setCell ⟨g, 7, none⟩ x7).setCell ⟨g, 8, none⟩ x8).setCell ⟨g, 9, none⟩ x9).setCell ⟨g, 10, none⟩ x10 = w2 ∧ Blk w2 g t #[x0, x1, x2, x3, x4, x5, x6, x7, x8, x9, x10] ∧ Below B w w2 ∧ (∀ k, k ≠ g → w2.heap[k]? = w.heap[k]?) := by
  have k0 := h.set_ 0 x0; simp at k0
  have k1 := k0.set_ 1 x1; simp at k1
  have k2 := k1.set_ 2 x2; simp at k2
  have k3 := k2.set_ 3 x3; simp at k3
  have k4 := k3.set_ 4 x4; simp at k4
  have k5 := k4.set_ 5 x5; simp at k5
  have k6 := k5.set_ 6 x6; simp at k6
  have k7 := k6.set_ 7 x7; simp at k7
  have k8 := k7.set_ 8 x8; simp at k8
  have k9 := k8.set_ 9 x9; simp at k9
  have k10 := k9.set_ 10 x10; simp at k10
  exact ⟨_, rfl, k10, (((((((((((Below.refl _ _).setCell hB _).setCell hB _).setCell hB _).setCell hB _).setCell hB _).setCell hB _).setCell hB _).setCell hB _).setCell hB _).setCell hB _).setCell hB _, fun k hk => by rw [Below.heap_setCell _ _ _ _ hk, Below.heap_setCell _ _ _ _ hk, Below.heap_setCell _ _ _ _ hk, Below.heap_setCell _ _ _ _ hk, Below.heap_setCell _ _ _ _ hk, Below.heap_setCell _ _ _ _ hk, Below.heap_setCell _ _ _ _ hk, Below.heap_setCell _ _ _ _ hk, Below.heap_setCell _ _ _ _ hk, Below.heap_setCell _ _ _ _ hk, Below.heap_setCell _ _ _ _ hk]⟩
theorem two_newK (w : World) (A B : Array Value) (t u : TypeId) : Blk ((w.alloc (.cells A t)).alloc (.cells B u)) w.heap.size t A ∧ Blk ((w.alloc (.cells A t)).alloc (.cells B u)) (w.heap.size + 1) u B ∧ Below w.heap.size w ((w.alloc (.cells A t)).alloc (.cells B u)) := by
  have k1 := Blk.new w t A
  have B1 : Below w.heap.size w (w.alloc (.cells A t)) := (Below.refl _ w).alloc (Nat.le_refl _) _
  have B2 : Below (w.alloc (.cells A t)).heap.size (w.alloc (.cells A t)) ((w.alloc (.cells A t)).alloc (.cells B u)) := (Below.refl _ _).alloc (Nat.le_refl _) _
  have k2 := Blk.new (w.alloc (.cells A t)) u B
  have hsz : (w.alloc (.cells A t)).heap.size = w.heap.size + 1 := by simp
  rw [hsz] at k2
  exact ⟨k1.below B2 k1.lt, k2, below_then B1 B2 (Nat.le_refl _)⟩
theorem SliceOf.of_rowL {w : World} {B e n : Nat} {a : Option Addr} {c : Nat} {f : Nat → Value} (h : w.ownsRow B e 1 (.slice a n c) n (rowL n f)) : SliceOf w a n c 1 (fun i => [f i]) := by
  obtain ⟨a', c', e, S⟩ := SliceOf.of_own h f (fun i hi => rowL_get n f i hi)
  injection e with e1 e2 e3
  subst e1 e3
  exact S
theorem rowL_snoc (n : Nat) (f : Nat → Value) : rowL (n + 1) f = rowL n f ++ [f n] := by unfold rowL; rw [List.range_succ, List.map_append]; rfl
set_option maxRecDepth 8000 in
set_option maxHeartbeats 8000000 in
theorem law04_Cut (mk : Bool) (kd sq tm sc : Int) (oa : Option Addr) (on oc : Nat) (hx : Bool) (pf : Int) (ex da : ByteArray) (pd : Int) (f : Nat → Int) (m : Nat) (ex2 da2 : ByteArray) (hm : min on 17 = m) (he : cutB ex 60 = ex2) (hd : cutB da 60 = da2) (hes : ex.size ≤ maxLen) (hds : da.size ≤ maxLen) (w : World) (S : SliceOf w oa on oc 1 (fun i => [.int .u32 (f i)])) :
    Calls Tryd.prog 6 #[.agg #[.bool mk, .int .i64 kd, .int .u16 sq, .int .u32 tm, .int .u32 sc, .slice oa on oc, .bool hx, .int .i64 pf, .string ex, .string da, .int .i64 pd]] w fun e w' => ∃ a c, e = .returned (.agg #[.bool mk, .int .i64 kd, .int .u16 sq, .int .u32 tm, .int .u32 sc, .slice a m c, .bool hx, .int .i64 pf, .string ex2, .string da2, .int .i64 pd]) ∧ w'.ownsRow w.heap.size 23 1 (.slice a m c) m (rowL m (fun i => .int .u32 (f i))) ∧ Below w.heap.size w w' := by
  obtain ⟨i0, hi0, hz0, hz1, hz2⟩ := info_parts (show (Tryd.prog.info? 23).map (fun i => (i.zero, i.size, i.bytes)) = some (some (.int .u32 0), 1, 4) by kernel_rfl)
  have H1 := Lib.hid (fun W => law02_Cut ex ex2 60 hes (by omega) he W)
  have H2 := Lib.hid (fun W => law02_Cut da da2 60 hds (by omega) hd W)
  obtain ⟨K1, K2, B2⟩ := two_newK w #[.bool mk, .int .i64 kd, .int .u16 sq, .int .u32 tm, .int .u32 sc, .slice oa on oc, .bool hx, .int .i64 pf, .string ex, .string da, .int .i64 pd] #[.bool false, .int .i64 0, .int .u16 0, .int .u32 0, .int .u32 0, .slice none 0 0, .bool false, .int .i64 0, .string ⟨#[]⟩, .string ⟨#[]⟩, .int .i64 0] 28 28
  have hm17 : m ≤ 17 ∧ m ≤ on := by omega
  have hm1 : (if 17 < (on : Int) then 17 else (on : Int)) = (m : Int) := by rw [← hm]; split <;> omega
  have hm2 : min (on : Int) 17 = (m : Int) := by omega
  have hcap := S.1
  have hcm := S.2.1
  rw [maxLen_eq] at hcm
  have nl : (m : Int) ≤ (oc : Int) := by omega
  have nl2 : (0 : Int) ≤ (m : Int) := by omega
  have SX : SliceOf w oa m oc 1 (fun i => [.int .u32 (f i)]) := ⟨by omega, S.2.1, fun hp => by
    obtain ⟨b, off, h1, h2, h3⟩ := S.2.2 (by omega)
    exact ⟨b, off, h1, h2, fun i hi => h3 i (by omega)⟩⟩
  clear hm he hd hes hds
  go_enter Tryd.func6, Tryd.ntmps6
  go_upto_region 1 with fail
  have SX1 := SX.below B2
  obtain ⟨r, hr⟩ : ∃ r, w.heap.size + 1 = r := ⟨_, rfl⟩
  rw [hr] at K2
  try rw [hr]
  obtain ⟨g, hg⟩ : ∃ g, w.heap.size = g := ⟨_, rfl⟩
  have hgr : g ≠ r := by omega
  have hgr2 : g ≤ r := by omega
  rw [hg] at K1 B2 ⊢
  generalize (w.alloc (.cells #[.bool mk, .int .i64 kd, .int .u16 sq, .int .u32 tm, .int .u32 sc, .slice oa on oc, .bool hx, .int .i64 pf, .string ex, .string da, .int .i64 pd] 28)).alloc (.cells #[.bool false, .int .i64 0, .int .u16 0, .int .u32 0, .int .u32 0, .slice none 0 0, .bool false, .int .i64 0, .string ⟨#[]⟩, .string ⟨#[]⟩, .int .i64 0] 28) = w1 at *
  have l1 := K1.lt
  have ownl : (w1.alloc (.cells #[] 23)).ownsRow g 23 1 (.slice (some ⟨w1.heap.size, 0, none⟩) 0 0) 0 [] := own_down (own_lit w1 23 1) (by omega)
  have Bl : Below w1.heap.size w1 (w1.alloc (.cells #[] 23)) := (Below.refl _ w1).alloc (Nat.le_refl _) _
  have K3 := K1.below Bl K1.lt
  have Kr3 := K2.below Bl K2.lt
  have B3 : Below g w (w1.alloc (.cells #[] 23)) := below_then B2 Bl (by omega)
  have k1 := K1.cell
  have k3 := K3.cell
  simp at k1 k3
  have hnews := SliceOf.news1 (SX1.below Bl)
  have s3 := B3.size
  go_upto_region 2 with (at_builtin; refine wpList_append_sl rfl _ _ 24 rfl g 23 i0 (.int .u32 0) 1 4 Tryd.underlying24 hi0 hz0 hz1 hz2 rfl (by decide) _ 0 [] rfl ownl oa m oc (rowL m (fun i => .int .u32 (f i))) rfl (by rw [rowL_len]; omega) hnews (fun u hu => by obtain ⟨i, _, rfl⟩ := List.mem_map.1 hu; rfl) (by rw [maxLen_eq]; omega) (by omega) (by omega) ?_; intro v6 w6 own6 hgrow6 hat6 hsh6; obtain ⟨a6, c6, rfl⟩ := hsh6; have K6 : Blk w6 g 28 _ := (hgrow6.block _ K3.lt (own_ne_blk ownl K3 (by decide)).symm).trans K3; have k6 := K6.cell; have f6 := K6.frozen; simp at k6)
  have Kr6 : Blk w6 r 28 _ := (hgrow6.block _ Kr3.lt (own_ne_blk ownl Kr3 (by decide)).symm).trans Kr3
  have B6 : Below g w w6 := B3.grown hgrow6 (by omega) (fun j hj => (ownl.lt j hj).1)
  have K7 := K6.set_ 5 (.slice a6 (0 + m) c6)
  simp at K7
  have n6 := own_ne_blk own6 K6 (by decide)
  have own7 := own_at own6 (w' := w6.setCell ⟨g, 5, none⟩ (.slice a6 (0 + m) c6)) (fun j hj => Below.heap_setCell _ ⟨g, 5, none⟩ _ j (fun e => n6 (by rw [hj]; exact congrArg some e)))
  have Kr7 : Blk (w6.setCell ⟨g, 5, none⟩ (.slice a6 (0 + m) c6)) r 28 _ := (Below.heap_setCell _ ⟨g, 5, none⟩ _ r (Ne.symm hgr)).trans Kr6
  have B7 := B6.setCell (p := ⟨g, 5, none⟩) (Nat.le_refl _) (.slice a6 (0 + m) c6)
  simp only [Nat.zero_add, List.nil_append] at own7 K7 Kr7 B7
  clear k1 k3 K1 K2 K3 Kr3 Kr6 ownl hnews B3 Bl hgrow6 hat6 own6 n6 B6 s3 SX SX1 B2
  generalize w6.setCell ⟨g, 5, none⟩ (.slice a6 m c6) = w7 at *
  clear K6 k6 f6
  have E8 := fun (gx : Ext w7) => gx.cell (K7.cell 8) K7.lt
  have E9 := fun (gx : Ext w7) => gx.cell (K7.cell 9) K7.lt
  simp at E8 E9
  refine wp_region_ext_tail 9 (by kernel_rfl) (by kernel_rfl) ?_; simp only [List.take_succ_cons, List.take_zero, List.drop_succ_cons, List.drop_zero]; (repeat (go_big_quiet_step ((first | (go_at_call 16; with_reducible exact calls_ext_same _ (H1.out _)) | (go_at_call 16; with_reducible exact calls_ext_same _ (H2.out _)))))); refine wpQuiet_nil ?_; rintro _ ⟨gq, rfl⟩
  have K8 := K7.below gq.below K7.lt
  have Kr8 := Kr7.below gq.below Kr7.lt
  have own8 := own_lasts own7 gq.below
  have B8 : Below g w gq.world := below_then B7 gq.below (by omega)
  clear E8 E9 K7 Kr7 own7 B7
  generalize gq.world = w8 at *
  have k8 := K8.cell
  have f8 := K8.frozen
  simp at k8
  have n8 := own_ne_blk own8 K8 (by decide)
  have K9 := (K8.set_ 8 (.string ex2)).set_ 9 (.string da2)
  simp at K9
  have hk9 : ∀ z, z ≠ g → ((w8.setCell ⟨g, 8, none⟩ (.string ex2)).setCell ⟨g, 9, none⟩ (.string da2)).heap[z]? = w8.heap[z]? := fun z hz => (Below.heap_setCell _ ⟨g, 9, none⟩ _ z hz).trans (Below.heap_setCell _ ⟨g, 8, none⟩ _ z hz)
  have Kr9 : Blk ((w8.setCell ⟨g, 8, none⟩ (.string ex2)).setCell ⟨g, 9, none⟩ (.string da2)) r 28 _ := (hk9 r (Ne.symm hgr)).trans Kr8
  have own9 := own_at own8 (w' := (w8.setCell ⟨g, 8, none⟩ (.string ex2)).setCell ⟨g, 9, none⟩ (.string da2)) (fun j hj => hk9 j (fun e => n8 (by rw [hj, e])))
  have B9 := (B8.setCell (p := ⟨g, 8, none⟩) (Nat.le_refl _) (.string ex2)).setCell (p := ⟨g, 9, none⟩) (Nat.le_refl _) (.string da2)
  go_upto_region 3 with fail
  clear k8 f8 K8 Kr8 own8 B8 hk9
  generalize (w8.setCell ⟨g, 8, none⟩ (.string ex2)).setCell ⟨g, 9, none⟩ (.string da2) = w9 at *
  have k9 := K9.cell
  have kr := Kr9.cell
  have fr := Kr9.frozen
  simp at k9 kr
  have nr := own_ne_blk own9 Kr9 (by decide)
  obtain ⟨wS, eS, KS, BS, hkS⟩ := eleven_set Kr9 (.bool mk) (.int .i64 kd) (.int .u16 sq) (.int .u32 tm) (.int .u32 sc) (.slice a6 m c6) (.bool hx) (.int .i64 pf) (.string ex2) (.string da2) (.int .i64 pd) g hgr2
  have cS := KS.cell
  simp at cS
  have ownS := own_at own9 (w' := wS) (fun j hj => hkS j (fun e => nr (by rw [hj, e])))
  have BE := B9.trans BS
  clear own9 K9 Kr9 B9
  go_wp2_with fail
  refine bodyPost_ret (v := .agg #[.bool mk, .int .i64 kd, .int .u16 sq, .int .u32 tm, .int .u32 sc, .slice a6 m c6, .bool hx, .int .i64 pf, .string ex2, .string da2, .int .i64 pd]) ?_ rfl ⟨a6, c6, rfl, by rw [hg]; exact ownS, by rw [hg]; exact BE⟩
  simp [results, Tryd.results6, go_sem, cS]
set_option maxRecDepth 8000 in
set_option maxHeartbeats 8000000 in
theorem law04_Told (mk : Bool) (kd sq tm sc : Int) (oa : Option Addr) (on oc : Nat) (hx : Bool) (pf : Int) (ex da : ByteArray) (pd : Int) (f : Nat → Int) (hsq : 0 ≤ sq ∧ sq < 65536) (htm : 0 ≤ tm ∧ tm < 4294967296) (hsc : 0 ≤ sc ∧ sc < 4294967296) (hf : ∀ i, i < on → 0 ≤ f i ∧ f i < 4294967296) (hn : on ≤ 1000) (w : World) (S : SliceOf w oa on oc 1 (fun i => [.int .u32 (f i)])) :
    Calls Tryd.prog 9 #[.agg #[.bool mk, .int .i64 kd, .int .u16 sq, .int .u32 tm, .int .u32 sc, .slice oa on oc, .bool hx, .int .i64 pf, .string ex, .string da, .int .i64 pd]] w fun e w' => ∃ a c, e = .returned (.agg #[.bool mk, .int .i64 kd, .int .i64 sq, .int .i64 tm, .int .i64 sc, .slice a on c, .bool hx, .int .i64 pf, .string ex, .string da, .int .i64 pd]) ∧ w'.ownsRow w.heap.size 3 1 (.slice a on c) on (rowL on (fun i => .int .i64 (f i))) ∧ Below w.heap.size w w' := by
  obtain ⟨i0, hi0, hz0, hz1, hz2⟩ := info_parts (show (Tryd.prog.info? 3).map (fun i => (i.zero, i.size, i.bytes)) = some (some (.int .i64 0), 1, 8) by kernel_rfl)
  obtain ⟨K1, K2, B2⟩ := two_newK w #[.bool mk, .int .i64 kd, .int .u16 sq, .int .u32 tm, .int .u32 sc, .slice oa on oc, .bool hx, .int .i64 pf, .string ex, .string da, .int .i64 pd] #[.bool false, .int .i64 0, .int .i64 0, .int .i64 0, .int .i64 0, .slice none 0 0, .bool false, .int .i64 0, .string ⟨#[]⟩, .string ⟨#[]⟩, .int .i64 0] 28 36
  have ws : IntKind.i64.wrap sq = sq := IntWalk.i64_in _ (by omega)
  have wt : IntKind.i64.wrap tm = tm := IntWalk.i64_in _ (by omega)
  have wc : IntKind.i64.wrap sc = sc := IntWalk.i64_in _ (by omega)
  have HF := Lib.hid hf
  clear hf
  go_enter Tryd.func9, Tryd.ntmps9
  go_upto_region 1 with fail
  obtain ⟨r, hr⟩ : ∃ r, w.heap.size + 1 = r := ⟨_, rfl⟩
  rw [hr] at K2
  try rw [hr]
  obtain ⟨g, hg⟩ : ∃ g, w.heap.size = g := ⟨_, rfl⟩
  have hgr2 : g ≤ r := by omega
  have S1 := S.below B2
  rw [hg] at K1 B2 ⊢
  generalize (w.alloc (.cells #[.bool mk, .int .i64 kd, .int .u16 sq, .int .u32 tm, .int .u32 sc, .slice oa on oc, .bool hx, .int .i64 pf, .string ex, .string da, .int .i64 pd] 28)).alloc (.cells #[.bool false, .int .i64 0, .int .i64 0, .int .i64 0, .int .i64 0, .slice none 0 0, .bool false, .int .i64 0, .string ⟨#[]⟩, .string ⟨#[]⟩, .int .i64 0] 36) = w2 at *
  have c1 := K1.cell
  simp at c1
  have K3 := Blk.new w2 36 #[.bool mk, .int .i64 kd, .int .i64 sq, .int .i64 tm, .int .i64 sc, .slice none 0 0, .bool hx, .int .i64 pf, .string ex, .string da, .int .i64 pd]
  have B3' : Below w2.heap.size w2 (w2.alloc (.cells #[.bool mk, .int .i64 kd, .int .i64 sq, .int .i64 tm, .int .i64 sc, .slice none 0 0, .bool hx, .int .i64 pf, .string ex, .string da, .int .i64 pd] 36)) := (Below.refl _ w2).alloc (Nat.le_refl _) _
  have K13 := K1.below B3' K1.lt
  have K23 := K2.below B3' K2.lt
  have S3 := S1.below B3'
  have l1 := K1.lt
  have l2 := K2.lt
  have B3 := below_then B2 B3' (by omega)
  have n32 : w2.heap.size ≠ r := by omega
  have n30 : g ≤ w2.heap.size := by omega
  go_upto_region 2 with fail
  clear c1 K1 K2 B2 B3' ws wt wc S1 l1
  obtain ⟨g3, hg3⟩ : ∃ g, w2.heap.size = g := ⟨_, rfl⟩
  rw [hg3] at K3 n30 n32 ⊢
  generalize w2.alloc (.cells #[.bool mk, .int .i64 kd, .int .i64 sq, .int .i64 tm, .int .i64 sc, .slice none 0 0, .bool hx, .int .i64 pf, .string ex, .string da, .int .i64 pd] 36) = w3 at *
  clear hg3 l2
  have c1 := K13.cell
  simp at c1
  go_wp2_with fail
  clear c1
  go_loopw [42] (fun x wr => ∃ (k : Nat) (av : Option Addr) (cv : Nat), k ≤ on ∧ x = .int .i64 k ∧ Blk wr g3 36 #[.bool mk, .int .i64 kd, .int .i64 sq, .int .i64 tm, .int .i64 sc, .slice av k cv, .bool hx, .int .i64 pf, .string ex, .string da, .int .i64 pd] ∧ wr.ownsRow g 3 1 (.slice av k cv) k (rowL k (fun i => .int .i64 (f i))) ∧ Blk wr r 36 #[.bool false, .int .i64 0, .int .i64 0, .int .i64 0, .int .i64 0, .slice none 0 0, .bool false, .int .i64 0, .string ⟨#[]⟩, .string ⟨#[]⟩, .int .i64 0] ∧ Below g w wr) (fun x _ => on - (intOf x).toNat)
  case atStart => exact ⟨0, none, 0, by omega, rfl, K3, ⟨rfl, .inl ⟨rfl, rfl⟩⟩, K23, B3⟩
  case round =>
    clear K3 K13 K23 B3 S3
    obtain ⟨k, av, cv, hk, rfl, K3, own, K2, B⟩ := hrel
    have sB := B.size
    by_cases hlt : k < on
    · obtain ⟨ga, off, rfl, hga, hcell⟩ := S.at1 (by omega)
      have e0 := (B.cell (p := ⟨ga, off + k, none⟩) (show ga < g by omega)).trans (hcell k hlt)
      have hxb := HF.out k hlt
      have hrw : Hid (rowL (k + 1) (fun i => .int .i64 (f i)) = rowL k (fun i => .int .i64 (f i)) ++ [.int .i64 (f k)]) := Lib.hid (rowL_snoc _ _)
      obtain ⟨x, hx⟩ : ∃ x, f k = x := ⟨_, rfl⟩
      rw [hx] at e0 hxb hrw
      have vx : IntKind.i64.wrap x = x := IntWalk.i64_in _ (by omega)
      have i0' : (0 : Int) ≤ (k : Int) := by omega
      have i1 : (k : Int) < (on : Int) := by omega
      clear hcell hx
      have c3 := K3.cell
      simp at c3
      have kb := Blk.new wr 3 #[.int .i64 x]
      have hnew := World.news_of_block kb
      have Bb : Below wr.heap.size wr (wr.alloc (.cells #[.int .i64 x] 3)) := (Below.refl _ _).alloc (Nat.le_refl _) _
      have own6 := own_lasts own Bb
      have K36 := K3.below Bb K3.lt
      have K26 := K2.below Bb K2.lt
      have B6 := below_then B Bb (by omega)
      have c36 := K36.cell
      simp at c36
      have no3 := own_ne_blk own6 K36 (by decide)
      have no2 := own_ne_blk own6 K26 (by decide)
      have l3 := K36.lt
      have l2 := K26.lt
      go_wp2_with (at_builtin; refine wpList_append_lies _ rfl _ _ 34 rfl g 3 i0 (.int .i64 0) 1 8 Tryd.underlying34 hi0 hz0 hz1 hz2 rfl (by decide) _ _ _ rfl own6 ⟨wr.heap.size, 0, none⟩ 1 1 [.int .i64 x] rfl rfl hnew (by simp [Value.oneCell']) (by omega) (by rw [maxLen_eq]; omega) (by omega) (by simp; omega) _ rfl ?_; intro g7 cap7 w7 own7 hgrow hat hlt7; have k37 : Blk w7 g3 36 _ := Eq.trans (hgrow.block g3 l3 (fun e => no3 e.symm)) K36; have c37 := k37.cell; have f37 := k37.frozen; simp at c37)
      have k27 : Blk w7 r 36 _ := Eq.trans (hgrow.block _ l2 (fun e => no2 e.symm)) K26
      have B7 := B6.grown hgrow (by simp; omega) (fun j hj => (own6.lt j hj).1)
      have hk8 : ∀ z, z ≠ g3 → (w7.setCell ⟨g3, 5, none⟩ (.slice (some ⟨g7, 0, none⟩) (k + 1) cap7)).heap[z]? = w7.heap[z]? := fun z hz => Below.heap_setCell _ ⟨g3, 5, none⟩ _ z hz
      have k38 := k37.set_ 5 (.slice (some ⟨g7, 0, none⟩) (k + 1) cap7)
      simp at k38
      have n7 : g7 ≠ g3 := fun e => own_ne_blk own7 k37 (by decide) (by rw [e]; rfl)
      have own8 := own_at own7 (w' := w7.setCell ⟨g3, 5, none⟩ (.slice (some ⟨g7, 0, none⟩) (k + 1) cap7)) (fun j hj => hk8 j (by
        simp only [Value.ownBlock, Option.some.injEq] at hj
        omega))
      have B8 : Below g w (w7.setCell ⟨g3, 5, none⟩ (.slice (some ⟨g7, 0, none⟩) (k + 1) cap7)) := B7.setCell (p := ⟨g3, 5, none⟩) n30 _
      go_roundw
      case rel => exact ⟨k + 1, _, _, by omega, by go_num, k38, by rw [hrw.out]; exact own8, (hk8 _ (Ne.symm n32)).trans k27, B8⟩
      case measure => simp only [intOf]; omega
    · obtain rfl : k = on := by omega
      have c3 := K3.cell
      simp at c3
      have c2 := K2.cell
      have f2 := K2.frozen
      simp at c2
      have no2 := own_ne_blk own K2 (by decide)
      obtain ⟨wS, eS, KS, BS, hkS⟩ := eleven_set K2 (.bool mk) (.int .i64 kd) (.int .i64 sq) (.int .i64 tm) (.int .i64 sc) (.slice av k cv) (.bool hx) (.int .i64 pf) (.string ex) (.string da) (.int .i64 pd) g hgr2
      have cS := KS.cell
      simp at cS
      have ownS := own_at own (w' := wS) (fun j hj => hkS j (fun e => no2 (by rw [hj, e])))
      have BE := B.trans BS
      clear own K3 K2 B
      go_wp2_with fail
      refine bodyPost_ret (v := .agg #[.bool mk, .int .i64 kd, .int .i64 sq, .int .i64 tm, .int .i64 sc, .slice av k cv, .bool hx, .int .i64 pf, .string ex, .string da, .int .i64 pd]) ?_ rfl ⟨av, cv, rfl, by rw [hg]; exact ownS, by rw [hg]; exact BE⟩
      simp [results, Tryd.results9, go_sem, cS]
set_option maxRecDepth 8000 in
set_option maxHeartbeats 8000000 in
theorem law04_Same (mk : Bool) (kd sq tm sc : Int) (a1 a2 : Option Addr) (n q1 q2 : Nat) (hx : Bool) (pf : Int) (ex da : ByteArray) (pd : Int) (f : Nat → Int) (hn : n ≤ 1000) (w : World) (S1 : SliceOf w a1 n q1 1 (fun i => [.int .i64 (f i)])) (S2 : SliceOf w a2 n q2 1 (fun i => [.int .i64 (f i)])) :
    Calls Tryd.prog 14 #[.agg #[.bool mk, .int .i64 kd, .int .i64 sq, .int .i64 tm, .int .i64 sc, .slice a1 n q1, .bool hx, .int .i64 pf, .string ex, .string da, .int .i64 pd], .agg #[.bool mk, .int .i64 kd, .int .i64 sq, .int .i64 tm, .int .i64 sc, .slice a2 n q2, .bool hx, .int .i64 pf, .string ex, .string da, .int .i64 pd]] w fun e w' => e = .returned (.bool true) ∧ Below w.heap.size w w' := by
  obtain ⟨K1, K2, B2⟩ := two_newK w #[.bool mk, .int .i64 kd, .int .i64 sq, .int .i64 tm, .int .i64 sc, .slice a1 n q1, .bool hx, .int .i64 pf, .string ex, .string da, .int .i64 pd] #[.bool mk, .int .i64 kd, .int .i64 sq, .int .i64 tm, .int .i64 sc, .slice a2 n q2, .bool hx, .int .i64 pf, .string ex, .string da, .int .i64 pd] 36 36
  go_enter Tryd.func14, Tryd.ntmps14
  go_upto_region 1 with fail
  generalize (w.alloc (.cells #[.bool mk, .int .i64 kd, .int .i64 sq, .int .i64 tm, .int .i64 sc, .slice a1 n q1, .bool hx, .int .i64 pf, .string ex, .string da, .int .i64 pd] 36)).alloc (.cells #[.bool mk, .int .i64 kd, .int .i64 sq, .int .i64 tm, .int .i64 sc, .slice a2 n q2, .bool hx, .int .i64 pf, .string ex, .string da, .int .i64 pd] 36) = w2 at *
  have c1 := K1.cell
  have c2 := K2.cell
  simp at c1 c2
  go_wp2_with fail
  clear c1 c2
  go_loopw [51] (fun x wr => ∃ k : Nat, k ≤ n ∧ x = .int .i64 k ∧ Blk wr w.heap.size 36 #[.bool mk, .int .i64 kd, .int .i64 sq, .int .i64 tm, .int .i64 sc, .slice a1 n q1, .bool hx, .int .i64 pf, .string ex, .string da, .int .i64 pd] ∧ Blk wr (w.heap.size + 1) 36 #[.bool mk, .int .i64 kd, .int .i64 sq, .int .i64 tm, .int .i64 sc, .slice a2 n q2, .bool hx, .int .i64 pf, .string ex, .string da, .int .i64 pd] ∧ Below w.heap.size w wr) (fun x _ => n - (intOf x).toNat)
  case atStart => exact ⟨0, by omega, rfl, K1, K2, B2⟩
  case round =>
    clear K1 K2 B2
    obtain ⟨k, hk, rfl, K1, K2, B⟩ := hrel
    by_cases hlt : k < n
    · obtain ⟨g1, o1, rfl, hg1, hc1⟩ := S1.at1 (by omega)
      obtain ⟨g2, o2, rfl, hg2, hc2⟩ := S2.at1 (by omega)
      have e1 := (B.cell (p := ⟨g1, o1 + k, none⟩) hg1).trans (hc1 k hlt)
      have e2 := (B.cell (p := ⟨g2, o2 + k, none⟩) hg2).trans (hc2 k hlt)
      obtain ⟨x, hx⟩ : ∃ x, f k = x := ⟨_, rfl⟩
      rw [hx] at e1 e2
      have E10 := fun (gx : Ext wr) => gx.cell e1 (Nat.lt_of_lt_of_le hg1 B.size)
      have E20 := fun (gx : Ext wr) => gx.cell e2 (Nat.lt_of_lt_of_le hg2 B.size)
      have EK1 := fun (gx : Ext wr) => gx.cell (K1.cell 5) K1.lt
      have EK2 := fun (gx : Ext wr) => gx.cell (K2.cell 5) K2.lt
      simp at EK1 EK2
      have i0 : (0 : Int) ≤ (k : Int) := by omega
      have i1 : (k : Int) < (n : Int) := by omega
      clear hc1 hc2 e1 e2 hx
      go_upto_region 6 with fail
      refine wp_region_ext (by kernel_rfl) (by kernel_rfl) ?_; (repeat (go_big_quiet_step (fail))); refine wpQuiet_nil ?_; rintro _ ⟨gq, rfl⟩
      have K1 := K1.below gq.below K1.lt
      have K2 := K2.below gq.below K2.lt
      have B := below_then B gq.below (Nat.le_refl _)
      clear E10 E20 EK1 EK2
      generalize gq.world = w8 at *
      go_wp2_with fail
      go_roundw
      case rel => exact ⟨k + 1, by omega, by go_num, K1, K2, B⟩
      case measure => simp only [intOf]; omega
    · obtain rfl : k = n := by omega
      have c1 := K1.cell
      have c2 := K2.cell
      simp at c1 c2
      go_wp2_with fail
      go_ret
      exact ⟨rfl, B⟩
set_option maxRecDepth 8000 in
set_option maxHeartbeats 8000000 in
theorem law04_May_no (mk : Bool) (kd sq tm sc : Int) (oa : Option Addr) (on oc : Nat) (hx : Bool) (pf : Int) (ex da : ByteArray) (pd : Int) (hp : pd = 0) (he : ex.size ≤ 10000) (hz : mayH kd pf on hx ex = false) (w : World) :
    Calls Tryd.prog 8 #[.agg #[.bool mk, .int .i64 kd, .int .i64 sq, .int .i64 tm, .int .i64 sc, .slice oa on oc, .bool hx, .int .i64 pf, .string ex, .string da, .int .i64 pd]] w fun e w' => e = .returned (.bool false) ∧ Below w.heap.size w w' := by
  have K := Blk.new w 36 #[.bool mk, .int .i64 kd, .int .i64 sq, .int .i64 tm, .int .i64 sc, .slice oa on oc, .bool hx, .int .i64 pf, .string ex, .string da, .int .i64 pd]
  have B : Below w.heap.size w (w.alloc (.cells #[.bool mk, .int .i64 kd, .int .i64 sq, .int .i64 tm, .int .i64 sc, .slice oa on oc, .bool hx, .int .i64 pf, .string ex, .string da, .int .i64 pd] 36)) := (Below.refl _ w).alloc (Nat.le_refl _) _
  subst hp
  by_cases q0 : kd < 0
  · clear hz
    go_enter Tryd.func8, Tryd.ntmps8
    go_upto_region 1 with fail
    generalize w.alloc (.cells _ 36) = w1 at *
    have c1 := K.cell
    simp at c1
    go_wp2_with fail
    go_ret
    exact ⟨rfl, B⟩
  · by_cases q1 : 127 < kd
    · clear hz
      go_enter Tryd.func8, Tryd.ntmps8
      go_upto_region 1 with fail
      generalize w.alloc (.cells _ 36) = w1 at *
      have c1 := K.cell
      simp at c1
      go_wp2_with fail
      go_ret
      exact ⟨rfl, B⟩
    · by_cases q2 : 15 < (on : Int)
      · clear hz
        go_enter Tryd.func8, Tryd.ntmps8
        go_upto_region 1 with fail
        generalize w.alloc (.cells _ 36) = w1 at *
        have c1 := K.cell
        simp at c1
        go_wp2_with fail
        go_ret
        exact ⟨rfl, B⟩
      · by_cases q3 : pf < 0
        · clear hz
          go_enter Tryd.func8, Tryd.ntmps8
          go_upto_region 1 with fail
          generalize w.alloc (.cells _ 36) = w1 at *
          have c1 := K.cell
          simp at c1
          go_wp2_with fail
          go_ret
          exact ⟨rfl, B⟩
        · by_cases q4 : 65535 < pf
          · clear hz
            go_enter Tryd.func8, Tryd.ntmps8
            go_upto_region 1 with fail
            generalize w.alloc (.cells _ 36) = w1 at *
            have c1 := K.cell
            simp at c1
            go_wp2_with fail
            go_ret
            exact ⟨rfl, B⟩
          · cases hx
            · by_cases q5 : pf = 0
              · have q6 : ¬ ex.size = 0 := fun e => by
                  unfold mayH at hz
                  rw [q5, e] at hz
                  simp at hz
                  omega
                subst q5
                obtain ⟨r1, r2, r3, r4⟩ := str_ne0 q6
                clear hz q6
                go_enter Tryd.func8, Tryd.ntmps8
                go_upto_region 1 with fail
                generalize w.alloc (.cells _ 36) = w1 at *
                have c1 := K.cell
                simp at c1
                go_wp2_with fail
                go_ret
                exact ⟨rfl, B⟩
              · have r1 : (pf == 0) = false := by simp [q5]
                clear hz q5
                go_enter Tryd.func8, Tryd.ntmps8
                go_upto_region 1 with fail
                generalize w.alloc (.cells _ 36) = w1 at *
                have c1 := K.cell
                simp at c1
                go_wp2_with fail
                go_ret
                exact ⟨rfl, B⟩
            · have q5 : ¬ ex.size % 4 = 0 := fun e => by
                unfold mayH at hz
                rw [e] at hz
                simp at hz
                omega
              have r1 : ((ex.size : Int) % 4 == 0) = false := by simp; omega
              clear hz q5
              go_enter Tryd.func8, Tryd.ntmps8
              go_upto_region 1 with fail
              generalize w.alloc (.cells _ 36) = w1 at *
              have c1 := K.cell
              simp at c1
              go_wp2_with fail
              go_ret
              exact ⟨rfl, B⟩
end Go.Proofs.YtbibgffgljojgaaDoor
