/- Package rtp: Pack. No condition but the sizes. (Printed by gen_wire3.py.) -/
import Derived.Test.YtbibgffgljojgaaDoorWire1
namespace Go.Proofs.YtbibgffgljojgaaDoor
open Go.RowKit BigFrame
attribute [local go_sem ↓] Go.wp_at_zero Go.wp_at_succ

/-- What stands behind some of a chain's calls. -/
def stL (bs : List Int) (l : List (List Int)) (k : Nat) : List Int := bs ++ (l.take k).flatMap id
theorem stL_succ (bs : List Int) (l : List (List Int)) (k : Nat) (x : List Int) (h : l[k]? = some x) : stL bs l (k + 1) = stL bs l k ++ x := by
  unfold stL; rw [List.take_add_one, h, List.flatMap_append, List.append_assoc]; simp
theorem stL_len (bs : List Int) (l : List (List Int)) (k : Nat) : (stL bs l k).length ≤ bs.length + (l.flatMap id).length := by
  unfold stL
  rw [List.length_append]
  have : ((l.take k).flatMap id).length ≤ (l.flatMap id).length := by
    conv => rhs; rw [← List.take_append_drop k l, List.flatMap_append, List.length_append]
    omega
  omega
theorem PenW.adds {w0 W W' : World} {g : Nat} {v : Value} {St : Nat → List Int} {ms : List Nat} {la : List (Nat × TypeId × List Value)} {L : Nat → Bool} {G : Nat → Value} (h : PenW w0 g v St ms la L G W) (hB : Below W.heap.size W W') {z : Nat} (hz : z ∉ ms) (hz2 : ∀ a ∈ la, a.1 ≠ z) (u : Value) : PenW w0 g v St ms la (upd L z) (upF G z u) W' := by
  obtain ⟨⟨k, v', h1, h2, h3, h4⟩, h5⟩ := h
  refine ⟨⟨k, v', fun i m' hm' => ?_, h2, h3.below hB, h4.trans (MovedP.of_below hB)⟩, fun a ha2 e => ?_⟩
  · rw [updL_ne L (show m' ≠ z from fun e => hz (by rw [← e]; exact List.mem_of_getElem? hm'))]
    exact h1 i m' hm'
  · rw [updL_ne L (hz2 a ha2)] at e
    rw [upF_ne _ _ (hz2 a ha2)]
    obtain ⟨x, q1, q2⟩ := h5 a ha2 e
    exact ⟨x, q1, q2.below hB q2.lt⟩
def headK (q0 q1 sq tm sc : Int) (f : Nat → Int) (on : Nat) : List (List Int) := [beAll (fun i => [q0, q1].getD i 0) 1 2, beAll (fun i => [sq].getD i 0) 2 1, be4All (fun i => [tm, sc].getD i 0) 2, be4All f on]
def extK (pf m : Int) (ex : ByteArray) : List (List Int) := [beAll (fun i => [pf, m].getD i 0) 2 2, rawAll (fun i => [ex].getD i ByteArray.empty) 1]
def bytK (mk : Bool) (kd sq tm sc : Int) (f : Nat → Int) (on : Nat) (hx : Bool) (pf : Int) (ex da : ByteArray) : List Int :=
  (headK (firstP on hx) (secondP mk kd) sq tm sc f on).flatMap id ++ (if hx then (extK pf ((ex.size : Int) / 4) ex).flatMap id else []) ++ rawAll (fun i => [da, ByteArray.empty].getD i ByteArray.empty) 2
structure GPk8 (g : Nat) (q1 : Int) (q : Nat) (v : Value) : Prop where
  f3 : q = 3 → v = .int .i64 q1
  f4 : q = 4 → ∃ x, v = .slice (some ⟨x, 0, none⟩) 2 2
  f5 : q = 5 → v = .pointer (some ⟨g, 0, none⟩)
  f10 : q = 10 → ∃ x, v = .slice (some ⟨x, 0, none⟩) 1 1
  f11 : q = 11 → v = .pointer (some ⟨g, 0, none⟩)
  f18 : q = 18 → ∃ x, v = .slice (some ⟨x, 0, none⟩) 2 2
  f19 : q = 19 → v = .pointer (some ⟨g, 0, none⟩)
  f23 : q = 23 → v = .pointer (some ⟨g, 0, none⟩)
structure GPk10 (g : Nat) (q : Nat) (v : Value) : Prop where
  f8 : q = 8 → ∃ x, v = .slice (some ⟨x, 0, none⟩) 2 2
  f9 : q = 9 → v = .pointer (some ⟨g, 0, none⟩)
  f13 : q = 13 → ∃ x, v = .slice (some ⟨x, 0, none⟩) 1 1
  f14 : q = 14 → v = .pointer (some ⟨g, 0, none⟩)
set_option maxRecDepth 8000 in
set_option maxHeartbeats 16000000 in
theorem rtp_Pack (mk : Bool) (kd sq tm sc : Int) (oa : Option Addr) (on oc : Nat) (hx : Bool) (pf : Int) (ex da : ByteArray) (f : Nat → Int) (hz : mayH kd pf on hx ex = true) (he : ex.size ≤ 1000) (hda : da.size ≤ 1000) (hsq : 0 ≤ sq ∧ sq < 65536) (htm : 0 ≤ tm ∧ tm < 4294967296) (hsc : 0 ≤ sc ∧ sc < 4294967296) (hf : ∀ i, i < on → 0 ≤ f i ∧ f i < 4294967296) (w : World) (S : SliceOf w oa on oc 1 (fun i => [.int .u32 (f i)])) (hoa : ∀ b off, oa = some ⟨b, off, none⟩ → b < w.heap.size) :
    Calls Tryd.prog 7 #[.agg #[.bool mk, .int .i64 kd, .int .u16 sq, .int .u32 tm, .int .u32 sc, .slice oa on oc, .bool hx, .int .i64 pf, .string ex, .string da, .int .i64 0]] w fun e w' => e = .returned (.string (strOfNums (bytK mk kd sq tm sc f on hx pf ex da))) ∧ Below w.heap.size w w' := by
  have hzz := hz
  unfold mayH at hzz
  simp at hzz
  obtain ⟨_, ⟨hk0, hk1⟩, hon, ⟨hp0, hp1⟩, hx4⟩ := hzz
  obtain ⟨q0, hq0⟩ : ∃ q, firstP on hx = q := ⟨_, rfl⟩
  obtain ⟨q1, hq1⟩ : ∃ q, secondP mk kd = q := ⟨_, rfl⟩
  obtain ⟨em, hem⟩ : ∃ q, (ex.size : Int) / 4 = q := ⟨_, rfl⟩
  obtain ⟨PP, hPP⟩ : ∃ P, headK q0 q1 sq tm sc f on = P := ⟨_, rfl⟩
  obtain ⟨PX, hPX⟩ : ∃ P, extK pf em ex = P := ⟨_, rfl⟩
  have hPl : (PP.flatMap id).length ≤ 100 := by rw [← hPP]; unfold headK; simp [beAll_len, be4All_len]; omega
  have hrx : (rawAll (fun i => [ex].getD i ByteArray.empty) 1).length ≤ 1000 := by
    have : rawAll (fun i => [ex].getD i ByteArray.empty) 1 = bytesI ex := by unfold rawAll; simp
    rw [this, bytesI_len]; exact he
  have hxl : (PX.flatMap id).length ≤ 1010 := by
    rw [← hPX]; unfold extK; simp only [List.flatMap_cons, List.flatMap_nil, id, List.append_nil, List.length_append, beAll_len]; omega
  have hrl : (rawAll (fun i => [da, ByteArray.empty].getD i ByteArray.empty) 2).length ≤ 1000 := by
    have : rawAll (fun i => [da, ByteArray.empty].getD i ByteArray.empty) 2 = bytesI da := by
      unfold rawAll
      have h0 : bytesI ByteArray.empty = [] := rfl
      simp [List.range_succ, h0]
    rw [this, bytesI_len]; exact hda
  have hp0' : PP[0]? = some (beAll (fun i => [q0, q1].getD i 0) 1 2) := by rw [← hPP]; rfl
  have hp1' : PP[1]? = some (beAll (fun i => [sq].getD i 0) 2 1) := by rw [← hPP]; rfl
  have hp2' : PP[2]? = some (be4All (fun i => [tm, sc].getD i 0) 2) := by rw [← hPP]; rfl
  have hp3' : PP[3]? = some (be4All f on) := by rw [← hPP]; rfl
  obtain ⟨bs, hbs⟩ : ∃ bs, PP.flatMap id = bs := ⟨_, rfl⟩
  rw [hbs] at hPl
  have HS : ∀ k, (stL [] PP k).length ≤ bs.length := fun k => by have := stL_len [] PP k; rw [hbs] at this; simpa using this
  have hfin : stL [] PP 4 = bs := by rw [← hbs, ← hPP]; rfl
  have HBK : Hid (bytK mk kd sq tm sc f on hx pf ex da = bs ++ (if hx then PX.flatMap id else []) ++ rawAll (fun i => [da, ByteArray.empty].getD i ByteArray.empty) 2) := Lib.hid (by unfold bytK; rw [hq0, hq1, hem, hPP, hPX, hbs])
  have HPX := Lib.hid hPX
  have HRX := Lib.hid hrx
  have HRL := Lib.hid hrl
  have HTM := Lib.hid htm
  have HSCC := Lib.hid hsc
  have HF := Lib.hid hf
  have HOA := Lib.hid hoa
  have HCK := Lib.hid (fun W => rtp_Check mk kd sq tm sc oa on oc hx pf ex da (by omega) true hz W)
  have HFI := Lib.hid (fun W => rtp_first mk kd sq tm sc oa on oc hx pf ex hon q0 hq0 W)
  have HSC := Lib.hid (fun W => rtp_second mk kd sq tm sc oa on oc hx pf ex hk0 hk1 q1 hq1 W)
  have vsq : IntKind.i64.wrap sq = sq := IntWalk.i64_in _ (by omega)
  have hex4 : ((ex.size : Int)).tdiv 4 = em := by rw [← hem]; exact Int.tdiv_eq_ediv_of_nonneg (by omega)
  have wem : wrap64 em = em := IntWalk.wrap64_in _ (by omega)
  have K := Blk.new w 28 #[.bool mk, .int .i64 kd, .int .u16 sq, .int .u32 tm, .int .u32 sc, .slice oa on oc, .bool hx, .int .i64 pf, .string ex, .string da, .int .i64 0]
  have B : Below w.heap.size w (w.alloc (.cells #[.bool mk, .int .i64 kd, .int .u16 sq, .int .u32 tm, .int .u32 sc, .slice oa on oc, .bool hx, .int .i64 pf, .string ex, .string da, .int .i64 0] 28)) := (Below.refl _ w).alloc (Nat.le_refl _) _
  clear hbs hem hz hq0 hq1 hPP hPX hrx hrl htm hsc hf hoa hx4 hsq hk0 hk1 hp0 hp1
  go_enter Tryd.func7, Tryd.ntmps7
  go_upto_region 1 with fail
  generalize w.alloc (.cells #[.bool mk, .int .i64 kd, .int .u16 sq, .int .u32 tm, .int .u32 sc, .slice oa on oc, .bool hx, .int .i64 pf, .string ex, .string da, .int .i64 0] 28) = w1 at *
  have c1 := K.cell
  simp at c1
  go_wp2_with fail
  refine (HCK.out _).mono ?_
  rintro e w2 ⟨rfl, hb2⟩
  have K2 := K.below hb2 K.lt
  have B2 := below_then B hb2 (Nat.le_refl _)
  have c2 := K2.cell
  simp at c2
  clear c1 hb2 B K HCK
  go_wp2_with fail
  refine (HFI.out _).mono ?_
  rintro e w3 ⟨rfl, hb3⟩
  have K3 := K2.below hb3 K2.lt
  have B3 := below_then B2 hb3 (Nat.le_refl _)
  have c3 := K3.cell
  simp at c3
  clear c2 hb3 B2 K2 HFI
  have K9 := Blk.new w3 53 #[.slice none 0 0]
  have B9 : Below w3.heap.size w3 (w3.alloc (.cells #[.slice none 0 0] 53)) := (Below.refl _ w3).alloc (Nat.le_refl _) _
  have O4 : OutAt (w3.alloc (.cells #[.slice none 0 0] 53)) w3.heap.size [] (.slice none 0 0) := ⟨K9, ⟨rfl, .inl ⟨rfl, rfl⟩⟩, (fun e => by cases e)⟩
  have B4 := below_then B3 B9 (Nat.le_refl _)
  have K4 := K3.below B9 K3.lt
  have gw : w.heap.size ≤ w3.heap.size := B3.size
  go_upto_region 8 with fail
  obtain ⟨g, hg⟩ : ∃ g, w3.heap.size = g := ⟨_, rfl⟩
  rw [hg] at O4 gw ⊢
  clear K9 B9 B3 K3 c3 hg
  generalize w3.alloc (.cells #[.slice none 0 0] 53) = w4 at *
  obtain ⟨v, hv0⟩ : ∃ v : Value, v = .slice none 0 0 := ⟨_, rfl⟩
  have hv : ∀ k, v.ownBlock = some k → w.heap.size ≤ k := fun k e => by rw [hv0] at e; cases e
  rw [← hv0] at O4
  clear hv0
  have sz4 := B4.size
  have c1 := K4.cell
  simp at c1
  go_upto_region 8 with fail
  have H1' : OutAt w4 g (stL [] PP 0) v := by unfold stL; simpa using O4
  have E0 := fun (gw : UWF (PenW w4 g v (stL [] PP) [5, 11, 19, 23] [(4, 3, [.int .i64 q0, .int .i64 q1]), (10, 3, [.int .i64 sq]), (18, 23, [.int .u32 tm, .int .u32 sc])])) => (gw.holds.blk H1' K4 (by decide) (by decide)).cell
  simp at E0
  have hne : Nonempty (UWF (PenW w4 g v (stL [] PP) [5, 11, 19, 23] [(4, 3, [.int .i64 q0, .int .i64 q1]), (10, 3, [.int .i64 sq]), (18, 23, [.int .u32 tm, .int .u32 sc])])) := PenW.ne H1'
  clear c1
  refine wp_region_free [(0, 3, some 3), (4, 0, some 4), (5, 0, some 5), (6, 4, some 10), (11, 0, some 11), (12, 6, some 18), (19, 0, some 19), (20, 3, some 23), (24, 0, none)] (PenW w4 g v (stL [] PP) [5, 11, 19, 23] [(4, 3, [.int .i64 q0, .int .i64 q1]), (10, 3, [.int .i64 sq]), (18, 23, [.int .u32 tm, .int .u32 sc])]) (GPk8 g q1) (fun q => if q = 3 then .int .i64 q1 else if q = 4 then .slice (some ⟨0, 0, none⟩) 2 2 else if q = 10 then .slice (some ⟨0, 0, none⟩) 1 1 else if q = 18 then .slice (some ⟨0, 0, none⟩) 2 2 else .pointer (some ⟨g, 0, none⟩)) (by kernel_rfl) (by kernel_rfl) ?_ ?_ ?_ ?_
  · intro z hz LL G W hC
    simp [moversI] at hz
    exact hC.quiet (by simp; omega) (by simp; omega)
  · exact PenW.start H1' _
  · intro z
    exact ⟨fun e => by subst e; rfl, fun e => by subst e; exact ⟨0, rfl⟩, fun e => by subst e; rfl, fun e => by subst e; exact ⟨0, rfl⟩, fun e => by subst e; rfl, fun e => by subst e; exact ⟨0, rfl⟩, fun e => by subst e; rfl, fun e => by subst e; rfl⟩
  · intro G hG
    have g3 := (hG 3).f3 rfl
    obtain ⟨x4, g4⟩ := (hG 4).f4 rfl
    have g5 := (hG 5).f5 rfl
    obtain ⟨x10, g10⟩ := (hG 10).f10 rfl
    have g11 := (hG 11).f11 rfl
    obtain ⟨x18, g18⟩ := (hG 18).f18 rfl
    have g19 := (hG 19).f19 rfl
    have g23 := (hG 23).f23 rfl
    simp only [walkF, List.drop_zero, List.drop_succ_cons, List.take_succ_cons, List.take_zero, List.toList_toArray]; (repeat (go_big_quiet_step (fail))); refine wpQuiet_nil ?_
    refine ⟨_, _, _, _, _, _, rfl, .inl ⟨rfl, ?_, ?_⟩⟩
    · intro LL W hL hA hC
      refine ⟨?_⟩; go_simp; simp only [movesToUpon]
      refine (HSC.out W).mono ?_
      rintro e w' ⟨rfl, hb'⟩
      exact ⟨_, rfl, ⟨fun _ => rfl, (fun e => by cases e), (fun e => by cases e), (fun e => by cases e), (fun e => by cases e), (fun e => by cases e), (fun e => by cases e), (fun e => by cases e)⟩, hC.adds hb' (by simp) (by simp) _⟩
    · intro K' hK'; dsimp only at hK'; rw [g3]; go_big_quiet_op; go_big_quiet_on; (repeat (go_big_quiet_step (fail))); refine wpQuiet_nil ?_
      refine ⟨_, _, _, _, _, _, rfl, .inl ⟨rfl, ?_, ?_⟩⟩
      · intro LL W hL hA hC
        refine ⟨?_⟩; go_simp; simp only [movesToUpon]
        exact ⟨⟨(fun e => by cases e), fun _ => ⟨_, rfl⟩, (fun e => by cases e), (fun e => by cases e), (fun e => by cases e), (fun e => by cases e), (fun e => by cases e), (fun e => by cases e)⟩, hC.made (n := 2) (by simp) (by simp) (by simp) rfl⟩
      · intro K' hK'; dsimp only at hK'; rw [g4]; go_big_quiet_op; go_big_quiet_on; (repeat (go_big_quiet_step (fail))); refine wpQuiet_nil ?_
        refine ⟨_, _, _, _, _, _, rfl, .inl ⟨rfl, ?_, ?_⟩⟩
        · intro LL W hL hA hC
          obtain ⟨v1, O1, M0⟩ := hC.at 0 5 rfl hL (fun m' e _ => absurd e (by omega))
          have KL := hC.at_lit (m := 4) (t := 3) (cs := [.int .i64 q0, .int .i64 q1]) (by simp) (hA 4 (by kernel_rfl)) g4
          refine ⟨?_⟩; go_simp; simp only [movesToUpon]
          refine (pen_U8 g _ v1 _ 2 2 (fun i => [q0, q1].getD i 0) W O1 (by have h1 := HS 0; have h2 := hPl; omega) (SliceOf.of_blk (n := 2) KL (fun i => .int .i64 ([q0, q1].getD i 0)) rfl (by omega) (fun i hi => by match i, hi with
              | 0, _ => rfl
              | 1, _ => rfl
              )) (fun b off e => by injection e with e; injection e with e1 e2; subst e1; exact ⟨Blk.ne_ KL O1.blk (by decide), own_ne_blk O1.own KL (by decide)⟩)).mono ?_
          rintro e w' ⟨rfl, v2, O2, M2⟩
          exact ⟨_, rfl, ⟨(fun e => by cases e), (fun e => by cases e), fun _ => rfl, (fun e => by cases e), (fun e => by cases e), (fun e => by cases e), (fun e => by cases e), (fun e => by cases e)⟩, hC.call (by decide) 0 5 rfl hL (fun m' e _ => absurd e (by omega)) (fun a ha => by simp at ha; rcases ha with rfl | rfl | rfl <;> simp) O1 M0 (by rw [stL_succ _ _ _ _ hp0']; exact O2) M2 _⟩
        · intro K' hK'; dsimp only at hK'; rw [g5]; go_big_quiet_op; go_big_quiet_on; (repeat (go_big_quiet_step (fail))); refine wpQuiet_nil ?_
          refine ⟨_, _, _, _, _, _, rfl, .inl ⟨rfl, ?_, ?_⟩⟩
          · intro LL W hL hA hC
            refine ⟨?_⟩; go_simp; simp only [movesToUpon]
            exact ⟨⟨(fun e => by cases e), (fun e => by cases e), (fun e => by cases e), fun _ => ⟨_, rfl⟩, (fun e => by cases e), (fun e => by cases e), (fun e => by cases e), (fun e => by cases e)⟩, hC.made (n := 1) (by simp) (by simp) (by simp) rfl⟩
          · intro K' hK'; dsimp only at hK'; rw [g10]; go_big_quiet_op; go_big_quiet_on; (repeat (go_big_quiet_step (fail))); refine wpQuiet_nil ?_
            refine ⟨_, _, _, _, _, _, rfl, .inl ⟨rfl, ?_, ?_⟩⟩
            · intro LL W hL hA hC
              obtain ⟨v1, O1, M0⟩ := hC.at 1 11 rfl hL (fun m' _ e => by simp at e; subst e; exact hA 5 (by kernel_rfl))
              have KL := hC.at_lit (m := 10) (t := 3) (cs := [.int .i64 sq]) (by simp) (hA 10 (by kernel_rfl)) g10
              refine ⟨?_⟩; go_simp; simp only [movesToUpon]
              refine (pen_U16 g _ v1 _ 1 1 (fun i => [sq].getD i 0) W O1 (by have h1 := HS 1; have h2 := hPl; omega) (SliceOf.of_blk (n := 1) KL (fun i => .int .i64 ([sq].getD i 0)) rfl (by omega) (fun i hi => by match i, hi with
                  | 0, _ => rfl
                  )) (fun b off e => by injection e with e; injection e with e1 e2; subst e1; exact ⟨Blk.ne_ KL O1.blk (by decide), own_ne_blk O1.own KL (by decide)⟩)).mono ?_
              rintro e w' ⟨rfl, v2, O2, M2⟩
              exact ⟨_, rfl, ⟨(fun e => by cases e), (fun e => by cases e), (fun e => by cases e), (fun e => by cases e), fun _ => rfl, (fun e => by cases e), (fun e => by cases e), (fun e => by cases e)⟩, hC.call (by decide) 1 11 rfl hL (fun m' _ e => by simp at e; subst e; exact hA 5 (by kernel_rfl)) (fun a ha => by simp at ha; rcases ha with rfl | rfl | rfl <;> simp) O1 M0 (by rw [stL_succ _ _ _ _ hp1']; exact O2) M2 _⟩
            · intro K' hK'; dsimp only at hK'; rw [g11]; go_big_quiet_op; go_big_quiet_on; (repeat (go_big_quiet_step (fail))); refine wpQuiet_nil ?_
              refine ⟨_, _, _, _, _, _, rfl, .inl ⟨rfl, ?_, ?_⟩⟩
              · intro LL W hL hA hC
                refine ⟨?_⟩; go_simp; simp only [movesToUpon]
                exact ⟨⟨(fun e => by cases e), (fun e => by cases e), (fun e => by cases e), (fun e => by cases e), (fun e => by cases e), fun _ => ⟨_, rfl⟩, (fun e => by cases e), (fun e => by cases e)⟩, hC.made (n := 2) (by simp) (by simp) (by simp) rfl⟩
              · intro K' hK'; dsimp only at hK'; rw [g18]; go_big_quiet_op; go_big_quiet_on; (repeat (go_big_quiet_step (fail))); refine wpQuiet_nil ?_
                refine ⟨_, _, _, _, _, _, rfl, .inl ⟨rfl, ?_, ?_⟩⟩
                · intro LL W hL hA hC
                  obtain ⟨v1, O1, M0⟩ := hC.at 2 19 rfl hL (fun m' _ e => by simp at e; subst e; exact hA 11 (by kernel_rfl))
                  have KL := hC.at_lit (m := 18) (t := 23) (cs := [.int .u32 tm, .int .u32 sc]) (by simp) (hA 18 (by kernel_rfl)) g18
                  refine ⟨?_⟩; go_simp; simp only [movesToUpon]
                  refine (pen_OutU32 g _ v1 _ 2 2 (fun i => [tm, sc].getD i 0) W O1 (by have h1 := HS 2; have h2 := hPl; omega) (SliceOf.of_blk (n := 2) KL (fun i => .int .u32 ([tm, sc].getD i 0)) rfl (by omega) (fun i hi => by match i, hi with
                      | 0, _ => rfl
                      | 1, _ => rfl
                      )) (fun i hi => match i, hi with
                      | 0, _ => HTM.out
                      | 1, _ => HSCC.out) (fun b off e => by injection e with e; injection e with e1 e2; subst e1; exact ⟨Blk.ne_ KL O1.blk (by decide), own_ne_blk O1.own KL (by decide)⟩)).mono ?_
                  rintro e w' ⟨rfl, v2, O2, M2⟩
                  exact ⟨_, rfl, ⟨(fun e => by cases e), (fun e => by cases e), (fun e => by cases e), (fun e => by cases e), (fun e => by cases e), (fun e => by cases e), fun _ => rfl, (fun e => by cases e)⟩, hC.call (by decide) 2 19 rfl hL (fun m' _ e => by simp at e; subst e; exact hA 11 (by kernel_rfl)) (fun a ha => by simp at ha; rcases ha with rfl | rfl | rfl <;> simp) O1 M0 (by rw [stL_succ _ _ _ _ hp2']; exact O2) M2 _⟩
                · intro K' hK'; dsimp only at hK'; rw [g19]; go_big_quiet_op; go_big_quiet_on; (repeat (go_big_quiet_step (fail))); refine wpQuiet_nil ?_
                  refine ⟨_, _, _, _, _, _, rfl, .inl ⟨rfl, ?_, ?_⟩⟩
                  · intro LL W hL hA hC
                    obtain ⟨v1, O1, M0⟩ := hC.at 3 23 rfl hL (fun m' _ e => by simp at e; subst e; exact hA 19 (by kernel_rfl))
                    have BW : Below w.heap.size w W := B4.trans (M0.down sz4 gw hv)
                    have hv1 := M0.base sz4 hv
                    refine ⟨?_⟩; go_simp; simp only [movesToUpon]
                    refine (pen_OutU32 g _ v1 oa on oc f W O1 (by have h1 := HS 3; have h2 := hPl; omega) (S.below BW) HF.out (fun b off e => by have h1 := HOA.out b off e; exact ⟨by omega, fun e2 => by have := hv1 b e2; omega⟩)).mono ?_
                    rintro e w' ⟨rfl, v2, O2, M2⟩
                    exact ⟨_, rfl, ⟨(fun e => by cases e), (fun e => by cases e), (fun e => by cases e), (fun e => by cases e), (fun e => by cases e), (fun e => by cases e), (fun e => by cases e), fun _ => rfl⟩, hC.call (by decide) 3 23 rfl hL (fun m' _ e => by simp at e; subst e; exact hA 19 (by kernel_rfl)) (fun a ha => by simp at ha; rcases ha with rfl | rfl | rfl <;> simp) O1 M0 (by rw [stL_succ _ _ _ _ hp3']; exact O2) M2 _⟩
                  · intro K' hK'; dsimp only at hK'; rw [g23]; go_big_quiet_op; go_big_quiet_on; (repeat (go_big_quiet_step (fail))); refine wpQuiet_nil ?_
                    intro LL w9 hL hC
                    obtain ⟨v9, O9, M9⟩ := hC.all (fun m hm => by simp at hm; exact hL m (by rcases hm with rfl | rfl | rfl | rfl <;> decide))
                    rw [show ([5, 11, 19, 23] : List Nat).length = 4 from rfl, hfin] at O9
                    have K9 : Blk w9 w.heap.size 28 _ := (M9.keep _ K4.lt (Blk.ne_ K4 H1'.blk (by decide)) (own_ne_blk H1'.own K4 (by decide))).trans K4
                    clear hC hL hG E0 hne H1' g3 g4 g5 g10 g11 g18 g19 g23
                    have B9 : Below w.heap.size w w9 := B4.trans (M9.down sz4 gw hv)
                    have hv9 : ∀ k, v9.ownBlock = some k → w.heap.size ≤ k := M9.base sz4 hv
                    have sz9 := B9.size
                    have c9 := K9.cell
                    simp at c9
                    clear M9 B4 hv K4 O4 sz4
                    cases hx
                    · clear c9
                      have K11 := Blk.new w9 9 #[.string da, .string ⟨#[]⟩]
                      have B11 : Below w9.heap.size w9 (w9.alloc (.cells #[.string da, .string ⟨#[]⟩] 9)) := (Below.refl _ w9).alloc (Nat.le_refl _) _
                      have O11 := O9.below B11
                      have c9 := K9.cell
                      simp at c9
                      have sB9 := B9.size
                      go_wp2_with fail
                      refine (pen_OutRaw g _ v9 _ 2 2 (fun i => [da, ByteArray.empty].getD i ByteArray.empty) _ O11 (by have h3 := HRL.out; (try simp only [List.length_append]); omega) (SliceOf.of_blk (cs := [.string da, .string ⟨#[]⟩]) (n := 2) K11 (fun i => .string ([da, ByteArray.empty].getD i ByteArray.empty)) rfl (by omega) (fun i hi => by match i, hi with
                          | 0, _ => rfl
                          | 1, _ => rfl
                          )) (fun b off e => by injection e with e; injection e with e1 e2; subst e1; exact ⟨Blk.ne_ K11 O11.blk (by decide), own_ne_blk O11.own K11 (by decide)⟩)).mono ?_
                      rintro e w12 ⟨rfl, v12, O12, M12⟩
                      have B12 : Below w.heap.size w w12 := (below_then B9 B11 (Nat.le_refl _)).trans (M12.down (by have := B11.size; omega) gw hv9)
                      have HPB := Lib.hid (pen_Bytes g _ v12 w12 O12)
                      clear c9 K11 B11 O11 O12 M12
                      go_wp2_with fail
                      refine HPB.out.mono ?_
                      rintro e w13 ⟨rfl, rfl⟩
                      go_wp2_with fail
                      go_ret
                      exact ⟨by rw [HBK.out]; simp, B12⟩
                    · have hps : PX[0]? = some (beAll (fun i => [pf, em].getD i 0) 2 2) := by rw [← HPX.out]; rfl
                      have hpx1 : PX[1]? = some (rawAll (fun i => [ex].getD i ByteArray.empty) 1) := by rw [← HPX.out]; rfl
                      have hpx0 := hps
                      have HSX := fun k => stL_len bs PX k
                      have hfinx : stL bs PX 2 = bs ++ PX.flatMap id := by rw [← HPX.out]; rfl
                      go_upto_region 9 with fail
                      go_upto_region 10 with fail
                      have H1' : OutAt w9 g (stL bs PX 0) v9 := by unfold stL; simpa using O9
                      have E0 := fun (gw : UWF (PenW w9 g v9 (stL bs PX) [9, 14] [(8, 3, [.int .i64 pf, .int .i64 em]), (13, 9, [.string ex])])) => (gw.holds.blk H1' K9 (by decide) (by decide)).cell
                      simp at E0
                      have hne : Nonempty (UWF (PenW w9 g v9 (stL bs PX) [9, 14] [(8, 3, [.int .i64 pf, .int .i64 em]), (13, 9, [.string ex])])) := PenW.ne H1'
                      clear c9
                      refine wp_region_free [(0, 8, some 8), (9, 0, some 9), (10, 3, some 13), (14, 0, some 14), (15, 0, none)] (PenW w9 g v9 (stL bs PX) [9, 14] [(8, 3, [.int .i64 pf, .int .i64 em]), (13, 9, [.string ex])]) (GPk10 g) (fun q => if q = 8 then .slice (some ⟨0, 0, none⟩) 2 2 else if q = 13 then .slice (some ⟨0, 0, none⟩) 1 1 else .pointer (some ⟨g, 0, none⟩)) (by kernel_rfl) (by kernel_rfl) ?_ ?_ ?_ ?_
                      · intro z hz LL G W hC
                        simp [moversI] at hz
                        exact hC.quiet (by simp; omega) (by simp; omega)
                      · exact PenW.start H1' _
                      · intro z
                        exact ⟨fun e => by subst e; exact ⟨0, rfl⟩, fun e => by subst e; rfl, fun e => by subst e; exact ⟨0, rfl⟩, fun e => by subst e; rfl⟩
                      · intro G hG
                        obtain ⟨x8, g8⟩ := (hG 8).f8 rfl
                        have g9 := (hG 9).f9 rfl
                        obtain ⟨x13, g13⟩ := (hG 13).f13 rfl
                        have g14 := (hG 14).f14 rfl
                        simp only [walkF, List.drop_zero, List.drop_succ_cons, List.take_succ_cons, List.take_zero, List.toList_toArray]; (repeat (go_big_quiet_step (fail))); refine wpQuiet_nil ?_
                        refine ⟨_, _, _, _, _, _, rfl, .inl ⟨rfl, ?_, ?_⟩⟩
                        · intro LL W hL hA hC
                          refine ⟨?_⟩; go_simp; simp only [movesToUpon]
                          exact ⟨⟨fun _ => ⟨_, rfl⟩, (fun e => by cases e), (fun e => by cases e), (fun e => by cases e)⟩, hC.made (n := 2) (by simp) (by simp) (by simp) rfl⟩
                        · intro K' hK'; dsimp only at hK'; rw [g8]; go_big_quiet_op; go_big_quiet_on; (repeat (go_big_quiet_step (fail))); refine wpQuiet_nil ?_
                          refine ⟨_, _, _, _, _, _, rfl, .inl ⟨rfl, ?_, ?_⟩⟩
                          · intro LL W hL hA hC
                            obtain ⟨v1, O1, M0⟩ := hC.at 0 9 rfl hL (fun m' e _ => absurd e (by omega))
                            have KL := hC.at_lit (m := 8) (t := 3) (cs := [.int .i64 pf, .int .i64 em]) (by simp) (hA 8 (by kernel_rfl)) g8
                            refine ⟨?_⟩; go_simp; simp only [movesToUpon]
                            refine (pen_U16 g _ v1 _ 2 2 (fun i => [pf, em].getD i 0) W O1 (by have h1 := HSX 0; have h2 := hPl; have h4 := hxl; omega) (SliceOf.of_blk (n := 2) KL (fun i => .int .i64 ([pf, em].getD i 0)) rfl (by omega) (fun i hi => by match i, hi with
                                | 0, _ => rfl
                                | 1, _ => rfl
                                )) (fun b off e => by injection e with e; injection e with e1 e2; subst e1; exact ⟨Blk.ne_ KL O1.blk (by decide), own_ne_blk O1.own KL (by decide)⟩)).mono ?_
                            rintro e w' ⟨rfl, v2, O2, M2⟩
                            exact ⟨_, rfl, ⟨(fun e => by cases e), fun _ => rfl, (fun e => by cases e), (fun e => by cases e)⟩, hC.call (by decide) 0 9 rfl hL (fun m' e _ => absurd e (by omega)) (fun a ha => by simp at ha; rcases ha with rfl | rfl <;> simp) O1 M0 (by rw [stL_succ _ _ _ _ hpx0]; exact O2) M2 _⟩
                          · intro K' hK'; dsimp only at hK'; rw [g9]; go_big_quiet_op; go_big_quiet_on; (repeat (go_big_quiet_step (fail))); refine wpQuiet_nil ?_
                            refine ⟨_, _, _, _, _, _, rfl, .inl ⟨rfl, ?_, ?_⟩⟩
                            · intro LL W hL hA hC
                              refine ⟨?_⟩; go_simp; simp only [movesToUpon]
                              exact ⟨⟨(fun e => by cases e), (fun e => by cases e), fun _ => ⟨_, rfl⟩, (fun e => by cases e)⟩, hC.made (n := 1) (by simp) (by simp) (by simp) rfl⟩
                            · intro K' hK'; dsimp only at hK'; rw [g13]; go_big_quiet_op; go_big_quiet_on; (repeat (go_big_quiet_step (fail))); refine wpQuiet_nil ?_
                              refine ⟨_, _, _, _, _, _, rfl, .inl ⟨rfl, ?_, ?_⟩⟩
                              · intro LL W hL hA hC
                                obtain ⟨v1, O1, M0⟩ := hC.at 1 14 rfl hL (fun m' _ e => by simp at e; subst e; exact hA 9 (by kernel_rfl))
                                have KL := hC.at_lit (m := 13) (t := 9) (cs := [.string ex]) (by simp) (hA 13 (by kernel_rfl)) g13
                                refine ⟨?_⟩; go_simp; simp only [movesToUpon]
                                refine (pen_OutRaw g _ v1 _ 1 1 (fun i => [ex].getD i ByteArray.empty) W O1 (by have h1 := HSX 1; have h2 := hPl; have h4 := hxl; have h3 := HRX.out; omega) (SliceOf.of_blk (n := 1) KL (fun i => .string ([ex].getD i ByteArray.empty)) rfl (by omega) (fun i hi => by match i, hi with
                                    | 0, _ => rfl
                                    )) (fun b off e => by injection e with e; injection e with e1 e2; subst e1; exact ⟨Blk.ne_ KL O1.blk (by decide), own_ne_blk O1.own KL (by decide)⟩)).mono ?_
                                rintro e w' ⟨rfl, v2, O2, M2⟩
                                exact ⟨_, rfl, ⟨(fun e => by cases e), (fun e => by cases e), (fun e => by cases e), fun _ => rfl⟩, hC.call (by decide) 1 14 rfl hL (fun m' _ e => by simp at e; subst e; exact hA 9 (by kernel_rfl)) (fun a ha => by simp at ha; rcases ha with rfl | rfl <;> simp) O1 M0 (by rw [stL_succ _ _ _ _ hpx1]; exact O2) M2 _⟩
                              · intro K' hK'; dsimp only at hK'; rw [g14]; go_big_quiet_op; go_big_quiet_on; (repeat (go_big_quiet_step (fail))); refine wpQuiet_nil ?_
                                intro LL wA hL hC
                                obtain ⟨vA, OA, MA⟩ := hC.all (fun m hm => by simp at hm; exact hL m (by rcases hm with rfl | rfl <;> decide))
                                rw [show ([9, 14] : List Nat).length = 2 from rfl, hfinx] at OA
                                have KA : Blk wA w.heap.size 28 _ := (MA.keep _ K9.lt (Blk.ne_ K9 H1'.blk (by decide)) (own_ne_blk H1'.own K9 (by decide))).trans K9
                                clear hC hL hG E0 hne g8 g9 g13 g14
                                have BA : Below w.heap.size w wA := B9.trans (MA.down sz9 gw hv9)
                                have hvA : ∀ k, vA.ownBlock = some k → w.heap.size ≤ k := MA.base sz9 hv9
                                clear MA H1' B9 hv9 K9 O9 sz9
                                have K11 := Blk.new wA 9 #[.string da, .string ⟨#[]⟩]
                                have B11 : Below wA.heap.size wA (wA.alloc (.cells #[.string da, .string ⟨#[]⟩] 9)) := (Below.refl _ wA).alloc (Nat.le_refl _) _
                                have O11 := OA.below B11
                                have c9 := KA.cell
                                simp at c9
                                have sB9 := BA.size
                                go_wp2_with fail
                                refine (pen_OutRaw g _ vA _ 2 2 (fun i => [da, ByteArray.empty].getD i ByteArray.empty) _ O11 (by have h3 := HRL.out; (try simp only [List.length_append]); omega) (SliceOf.of_blk (cs := [.string da, .string ⟨#[]⟩]) (n := 2) K11 (fun i => .string ([da, ByteArray.empty].getD i ByteArray.empty)) rfl (by omega) (fun i hi => by match i, hi with
                                    | 0, _ => rfl
                                    | 1, _ => rfl
                                    )) (fun b off e => by injection e with e; injection e with e1 e2; subst e1; exact ⟨Blk.ne_ K11 O11.blk (by decide), own_ne_blk O11.own K11 (by decide)⟩)).mono ?_
                                rintro e w12 ⟨rfl, v12, O12, M12⟩
                                have B12 : Below w.heap.size w w12 := (below_then BA B11 (Nat.le_refl _)).trans (M12.down (by have := B11.size; omega) gw hvA)
                                have HPB := Lib.hid (pen_Bytes g _ v12 w12 O12)
                                clear c9 K11 B11 O11 O12 M12
                                go_wp2_with fail
                                refine HPB.out.mono ?_
                                rintro e w13 ⟨rfl, rfl⟩
                                go_wp2_with fail
                                go_ret
                                exact ⟨by rw [HBK.out]; simp, B12⟩
end Go.Proofs.YtbibgffgljojgaaDoor
