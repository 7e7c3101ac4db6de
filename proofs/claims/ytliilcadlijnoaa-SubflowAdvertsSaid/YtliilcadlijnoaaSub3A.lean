/- Package subflow: ToAdverts. No condition but the text's size. (Printed by gen_sub3.py.) -/
import Derived.Test.YtliilcadlijnoaaSub3
namespace Go.Proofs.Ytliilcadlijnoaa
open Go.RowKit BigFrame
attribute [local go_sem ↓] Go.wp_at_zero Go.wp_at_succ

attribute [local go_sem] pcc_guard
/-- While one part is read and put behind the others. -/
def StA (w0 : World) (B gi gn gp g2 m : Nat) (tl : List Int) (src : Int) (xs : List Value) (p x1 r : Int) (ub : Bool) (k : Nat) (G : Nat → Value) (W : World) : Prop :=
  match k with
  | 0 => W = w0.drew
  | 1 => InB W gi (tl.drop 1) ∧ OldBut w0 W gi
  | 2 => InB W gi (tl.drop 2) ∧ OldBut w0 W gi
  | 3 => InB W gi (tl.drop 4) ∧ OldBut w0 W gi
  | 4 => ∃ W2, InB W2 gi (tl.drop 4) ∧ OldBut w0 W2 gi ∧ W = W2.alloc (.cells ([.int .i64 p, .bool ub, .int .i64 r]).toArray 31) ∧ G 10 = .slice (some ⟨W2.heap.size, 0, none⟩) 1 1
  | 5 => ∃ g4 cap, G 11 = .slice (some ⟨g4, 0, none⟩) (m + 1) cap ∧ W.ownsRow B 31 3 (.slice (some ⟨g4, 0, none⟩) (m + 1) cap) (m + 1) (xs ++ [.int .i64 p, .bool ub, .int .i64 r]) ∧ InB W gi (tl.drop 4) ∧ Below B w0 W ∧ W.heap[gn]? = w0.heap[gn]? ∧ W.heap[gp]? = w0.heap[gp]? ∧ W.heap[g2]? = w0.heap[g2]?
  | 6 => ∃ g4 cap, G 11 = .slice (some ⟨g4, 0, none⟩) (m + 1) cap ∧ W.ownsRow B 31 3 (.slice (some ⟨g4, 0, none⟩) (m + 1) cap) (m + 1) (xs ++ [.int .i64 p, .bool ub, .int .i64 r]) ∧ InB W gi (tl.drop 4) ∧ Below B w0 W ∧ Blk W gn 27 #[.int .u32 src, .slice (some ⟨g4, 0, none⟩) (m + 1) cap] ∧ W.heap[gp]? = w0.heap[gp]? ∧ W.heap[g2]? = w0.heap[g2]?
  | _ => False
structure CA (w0 : World) (B gi gn gp g2 m : Nat) (tl : List Int) (src : Int) (xs : List Value) (p x1 r : Int) (ub : Bool) (L : Nat → Bool) (G : Nat → Value) (W : World) : Prop where
  ph : Phase [3, 5, 8, 10, 11, 13] (StA w0 B gi gn gp g2 m tl src xs p x1 r ub) L G W
  anc : L 13 = true → L 1 = true
structure GA (m : Nat) (sv : Value) (p x1 r : Int) (ub : Bool) (q : Nat) (v : Value) : Prop where
  a1 : q = 1 → v = sv
  c0 : q = 3 → v = .int .i64 p
  c1 : q = 5 → v = .int .i64 x1
  c2 : q = 8 → v = .int .i64 r
  lt : q = 10 → ∃ g, v = .slice (some ⟨g, 0, none⟩) 1 1
  ap : q = 11 → ∃ g cap, v = .slice (some ⟨g, 0, none⟩) (m + 1) cap
section
variable {w0 W W' : World} {B gi gn gp g2 m : Nat} {tl : List Int} {src : Int} {xs : List Value} {p x1 r : Int} {ub : Bool} {L : Nat → Bool} {G : Nat → Value}
theorem CA.start (G : Nat → Value) : CA w0 B gi gn gp g2 m tl src xs p x1 r ub (fun _ => false) G w0.drew := ⟨Phase.start rfl, (fun e => by cases e)⟩
theorem CA.quiet (h : CA w0 B gi gn gp g2 m tl src xs p x1 r ub L G W) {z : Nat} (h1 : z ≠ 1) (h2 : z ∉ [3, 5, 8, 10, 11, 13]) : CA w0 B gi gn gp g2 m tl src xs p x1 r ub (upd L z) G W := by
  refine ⟨h.ph.quiet (fun i e => h2 (List.mem_of_getElem? e)), fun e => ?_⟩
  rw [updL_ne L (fun e2 => h2 (by rw [← e2]; simp))] at e
  rw [updL_ne L (Ne.symm h1)]
  exact h.anc e
theorem StA.old {k : Nat} (h : StA w0 B gi gn gp g2 m tl src xs p x1 r ub k G W) (hk : k ≤ 5) (hn : gn ≠ gi) (hl : gn < w0.heap.size) : W.heap[gn]? = w0.heap[gn]? := by
  match k, hk with
  | 0, _ => rw [show W = w0.drew from h]; rfl
  | 1, _ => exact h.2.keep gn hl hn
  | 2, _ => exact h.2.keep gn hl hn
  | 3, _ => exact h.2.keep gn hl hn
  | 4, _ =>
    obtain ⟨W2, _, hO, rfl, _⟩ := h
    exact (Below.heap_alloc _ _ _ (by have := hO.below.size; omega)).trans (hO.keep gn hl hn)
  | 5, _ =>
    obtain ⟨g4, cap, _, _, _, _, h1, _⟩ := h
    exact h1
theorem StA.up {k : Nat} (h : StA w0 B gi gn gp g2 m tl src xs p x1 r ub k G W) (u : Value) : StA w0 B gi gn gp g2 m tl src xs p x1 r ub k (upF G 1 u) W := by
  have hGl : upF G 1 u 10 = G 10 := upF_ne _ _ (by decide)
  have hGa : upF G 1 u 11 = G 11 := upF_ne _ _ (by decide)
  unfold StA at h ⊢
  rw [hGl, hGa]
  exact h
theorem CA.load (h : CA w0 B gi gn gp g2 m tl src xs p x1 r ub L G W) (hL : L 1 = false) (hn : gn ≠ gi) (hl : gn < w0.heap.size) (u : Value) : W.heap[gn]? = w0.heap[gn]? ∧ CA w0 B gi gn gp g2 m tl src xs p x1 r ub (upd L 1) (upF G 1 u) W := by
  obtain ⟨⟨k, h1, h2⟩, h3⟩ := h
  have hst : L 13 = false := by
    cases e : L 13
    · rfl
    · rw [h3 e] at hL; cases hL
  have hk : ¬ 5 < k := fun e => by
    have := (h1 5 13 rfl).2 e
    rw [hst] at this; cases this
  refine ⟨StA.old h2 (by omega) hn hl, ⟨k, fun i z hz => ?_, StA.up h2 u⟩, fun e => by rw [updL_at]⟩
  have hz1 : z ≠ 1 := fun e => by
    subst e
    have := List.mem_of_getElem? hz
    simp at this
  rw [updL_ne L hz1]
  exact h1 i z hz
end
set_option maxRecDepth 8000 in
set_option maxHeartbeats 16000000 in
theorem sub_ToA (s : ByteArray) (w : World) (hs : s.size ≤ 10000) (L : List Int) (hL : bytesI s = L) (src : Int) (hsrc : src4 L = src) (ys : List AdR) (hys : decs 4 decA 15 (L.drop 4) = ys) (ok : Bool) (hok : decide (pieceA src ys = some L) = ok) :
    Calls Try.prog 11 #[.agg #[.int .i64 2, .int .i64 211, .string s]] w fun e w' => Below w.heap.size w w' ∧ if ok = true then ∃ a c, e = .returned (.tuple #[.agg #[.int .u32 src, .slice a ys.length c], .int .i64 0]) ∧ AdAt w' a ys.length c ys else e = .returned (.tuple #[.agg #[.int .u32 0, .slice none 0 0], .int .i64 1]) := by
  obtain ⟨ip, hp0, hp1, hp2, hp3⟩ := info_ad
  have hbL := bytesI_ok s
  rw [hL] at hbL
  have hsb := src4_bd hbL
  rw [hsrc] at hsb
  have hLl : L.length ≤ 10000 := by rw [← hL, bytesI_len]; exact hs
  obtain ⟨K1, K2, B1⟩ := two_newS w #[.int .i64 2, .int .i64 211, .string s] #[.int .u32 0, .slice none 0 0] 33 27
  have HU := Lib.hid (fun g W (I : InAt W g s 0) => penB_U32start g s W I hs)
  rw [hL, hsrc] at HU
  have hyl : ys.length ≤ 15 := by rw [← hys]; exact decs_len _ _
  have HYS := Lib.hid hys
  have HOK := Lib.hid hok
  have HL := Lib.hid hL
  have HBL := Lib.hid hbL
  clear hys hok hL hsrc hs hbL
  go_enter Try.func11, Try.ntmps11
  go_upto_region 1 with fail
  generalize (w.alloc (.cells #[.int .i64 2, .int .i64 211, .string s] 33)).alloc (.cells #[.int .u32 0, .slice none 0 0] 27) = w1 at *
  have k1 := K1.cell
  simp at k1
  have s1 := B1.size
  have hl2 := K2.lt
  go_wp2_with fail
  refine (pen_Of s w1).mono ?_
  rintro e w2 ⟨rfl, I2, B2⟩
  have K12 := K1.below B2 K1.lt
  have K22 := K2.below B2 K2.lt
  obtain ⟨gi, hgi⟩ : ∃ gi, w1.heap.size = gi := ⟨_, rfl⟩
  have B02 := below_then B1 B2 (Nat.le_refl _)
  rw [hgi] at I2 B2 hl2 ⊢
  have nig : w.heap.size < gi := by omega
  clear K1 K2 B1 B2 k1
  go_wp2_with fail
  refine (HU.out gi w2 I2).mono ?_
  rintro e w3 ⟨rfl, I3, O3⟩
  have B3 : Below w.heap.size w w3 := B02.trans (O3.down (by have := B02.size; omega) (by omega))
  have K13 := O3.blk K12 (by omega)
  have K23 := O3.blk K22 (by omega)
  have Kn := Blk.new w3 27 #[.int .u32 src, .slice none 0 0]
  have Bn : Below w3.heap.size w3 (w3.alloc (.cells #[.int .u32 src, .slice none 0 0] 27)) := (Below.refl _ w3).alloc (Nat.le_refl _) _
  have I5 := I3.below Bn
  have K15 := K13.below Bn K13.lt
  have K25 := K23.below Bn K23.lt
  have B5 := below_then B3 Bn (Nat.le_refl _)
  have hil := I3.lt
  clear O3 I2 I3 K12 K22 K13 K23 B02 hgi HU
  go_upto_region 5 with fail
  obtain ⟨gn, hgn⟩ : ∃ gn, w3.heap.size = gn := ⟨_, rfl⟩
  rw [hgn] at Kn hil ⊢
  generalize w3.alloc (.cells #[.int .u32 src, .slice none 0 0] 27) = w5 at *
  have nin : gn ≠ gi := by omega
  have ni2 : w.heap.size + 1 ≠ gi := by omega
  have ni1 : w.heap.size ≠ gi := by omega
  have nn2 : w.heap.size + 1 ≠ gn := by omega
  have nn1 : w.heap.size ≠ gn := by omega
  clear Bn B3 hgn
  go_loopw [] (fun wr => ∃ (tl : List Int) (out : List AdR) (m : Nat) (av : Option Addr) (cv : Nat), InB wr gi tl ∧ tl.length ≤ 10000 ∧ ys = out ++ decs 4 decA (15 - m) tl ∧ out.length = m ∧ m ≤ 15 ∧ Blk wr gn 27 #[.int .u32 src, .slice av m cv] ∧ wr.ownsRow w.heap.size 31 3 (.slice av m cv) m (rowG cellsA out) ∧ Blk wr w.heap.size 33 #[.int .i64 2, .int .i64 211, .string s] ∧ Blk wr (w.heap.size + 1) 27 #[.int .u32 0, .slice none 0 0] ∧ Below w.heap.size w wr) (fun wr => leftAt gi wr)
  case atStart => exact ⟨L.drop 4, [], 0, none, 0, I5, by rw [List.length_drop]; omega, HYS.out.symm, rfl, by omega, Kn, ⟨rfl, .inl ⟨rfl, rfl⟩⟩, K15, K25, B5⟩
  case round =>
    clear I5 Kn K25 K15 B5
    obtain ⟨tl, out, m, av, cv, I, ht, hpar, hom, hm15, Kn, own, K1, K2, B⟩ := hrel
    have HPAR := Lib.hid hpar
    have HOM := Lib.hid hom
    clear hpar hom
    have hbt := I.ok
    obtain ⟨tz, htz⟩ : ∃ tz, tl.length = tz := ⟨_, rfl⟩
    have HLF := Lib.hid (penB_Left gi tl wr I)
    rw [htz] at HLF ht
    have HTZ := Lib.hid htz
    clear htz
    have kn := Kn.cell
    simp at kn
    by_cases hpos : 4 ≤ tz ∧ m < 15
    · obtain ⟨hpos, hm14⟩ := hpos
      have p1 : (4 : Int) ≤ (tz : Int) := by omega
      have p2 : (m : Int) < 15 := by omega
      obtain ⟨p, hp⟩ : ∃ x, n1 tl = x := ⟨_, rfl⟩
      obtain ⟨x1, hx1⟩ : ∃ x, n1 (tl.drop 1) = x := ⟨_, rfl⟩
      obtain ⟨r, hr⟩ : ∃ x, n2 (tl.drop 2) = x := ⟨_, rfl⟩
      obtain ⟨ub, hub⟩ : ∃ x, (x1 == 1) = x := ⟨_, rfl⟩
      have HV0 := Lib.hid (fun W (I : InB W gi tl) => penB_U8 gi tl W I (by have := HTZ.out; omega) (by have := HTZ.out; omega))
      have HV1 := Lib.hid (fun W (I : InB W gi (tl.drop 1)) => penB_U8 gi _ W I (by rw [List.length_drop]; have := HTZ.out; omega) (by rw [List.length_drop]; have := HTZ.out; omega))
      have HV2 := Lib.hid (fun W (I : InB W gi (tl.drop 2)) => penB_U16 gi _ W I (by rw [List.length_drop]; have := HTZ.out; omega) (by rw [List.length_drop]; have := HTZ.out; omega))
      rw [hp] at HV0
      rw [hx1] at HV1
      rw [hr] at HV2
      simp only [List.drop_drop] at HV1 HV2
      have HREC := Lib.hid (show decA tl = ⟨p, ub, r⟩ by
        unfold decA
        rw [hr, ← hp, ← hub, ← hx1]
        unfold n1
        rw [getD_drop]
        rfl)
      clear hp hx1 hr
      have HPR := Lib.hid (show ys = (out ++ [⟨p, ub, r⟩]) ++ decs 4 decA (15 - (m + 1)) (tl.drop 4) by
        rw [HPAR.out, List.append_assoc]
        congr 1
        have e15 : 15 - m = (15 - (m + 1)) + 1 := by omega
        rw [e15]
        show (if 4 ≤ tl.length then _ else _) = _
        rw [if_pos (by have := HTZ.out; omega), HREC.out]
        rfl)
      have hrow2 := Lib.hid (show rowG cellsA out ++ [.int .i64 p, .bool ub, .int .i64 r] = rowG cellsA (out ++ [⟨p, ub, r⟩]) by rw [rowG_append]; rfl)
      have sB := B.size
      have hgil := I.lt
      have hgnl := Kn.lt
      have hg1l := K1.lt
      have hg2l := K2.lt
      have no_i : (Value.slice av m cv).ownBlock ≠ some gi := by obtain ⟨s9, x9, _, I9⟩ := I; exact own_ne_blk own I9.blk (by decide)
      have no_n := own_ne_blk own Kn (by decide)
      have no_1 := own_ne_blk own K1 (by decide)
      have no_2 := own_ne_blk own K2 (by decide)
      clear hbt
      go_wp2_with fail
      refine HLF.out.mono ?_
      rintro e' w' ⟨rfl, rfl⟩
      go_upto_region 6 with fail
      clear kn
      have hne : Nonempty (UWF (CA wr w.heap.size gi gn w.heap.size (w.heap.size + 1) m tl src (rowG cellsA out) p x1 r ub)) := ⟨⟨_, _, _, CA.start (fun _ => undef)⟩⟩
      refine wp_region_free [(0, 1, some 1), (2, 1, some 3), (4, 1, some 5), (6, 2, some 8), (9, 1, some 10), (11, 0, some 11), (12, 1, some 13), (14, 0, none)] (CA wr w.heap.size gi gn w.heap.size (w.heap.size + 1) m tl src (rowG cellsA out) p x1 r ub) (GA m (.slice av m cv) p x1 r ub) (fun y => if y = 1 then .slice av m cv else if y = 3 then .int .i64 p else if y = 5 then .int .i64 x1 else if y = 8 then .int .i64 r else if y = 10 then .slice (some ⟨0, 0, none⟩) 1 1 else .slice (some ⟨0, 0, none⟩) (m + 1) 0) (by kernel_rfl) (by kernel_rfl) ?_ ?_ ?_ ?_
      · intro y hy LL G W hC
        simp [moversI] at hy
        exact hC.quiet (by omega) (by simp; omega)
      · exact CA.start _
      · intro y
        exact ⟨fun e => by subst e; rfl, fun e => by subst e; rfl, fun e => by subst e; rfl, fun e => by subst e; rfl, fun e => by subst e; exact ⟨_, rfl⟩, fun e => by subst e; exact ⟨_, _, rfl⟩⟩
      · intro G hG
        have g1 := (hG 1).a1 rfl
        have g3 := (hG 3).c0 rfl
        have g5 := (hG 5).c1 rfl
        have g8 := (hG 8).c2 rfl
        obtain ⟨gl, g10⟩ := (hG 10).lt rfl
        obtain ⟨gr, gc, g11⟩ := (hG 11).ap rfl
        simp only [walkF, List.drop_zero, List.drop_succ_cons, List.take_succ_cons, List.take_zero, List.toList_toArray]; (repeat (go_big_quiet_step (fail))); refine wpQuiet_nil ?_
        refine ⟨_, _, _, _, _, _, rfl, .inl ⟨rfl, ?_, ?_⟩⟩
        · intro LL W hL hA hC
          obtain ⟨hkeep, hC'⟩ := hC.load hL nin hgnl (.slice av m cv)
          have kn : Blk W gn 27 _ := hkeep.trans Kn
          have cn := kn.cell
          simp at cn
          refine ⟨?_⟩; go_simp; simp only [movesToUpon]
          exact ⟨⟨fun _ => rfl, (fun e => by cases e), (fun e => by cases e), (fun e => by cases e), (fun e => by cases e), (fun e => by cases e)⟩, hC'⟩
        · intro K' hK'; dsimp only at hK'; rw [g1]; go_big_quiet_op; go_big_quiet_on; (repeat (go_big_quiet_step (fail))); refine wpQuiet_nil ?_
          refine ⟨_, _, _, _, _, _, rfl, .inl ⟨rfl, ?_, ?_⟩⟩
          · intro LL W hL hA hC
            have hst : W = wr.drew := hC.ph.at 0 3 rfl hL (fun m' h0 _ => absurd h0 (by omega))
            subst hst
            have I0 : InB wr.drew gi tl := I.at_ rfl
            refine ⟨?_⟩; go_simp; simp only [movesToUpon]
            refine (HV0.out wr.drew I0).mono ?_
            rintro e w' ⟨rfl, I1, O1⟩
            refine ⟨_, rfl, ⟨(fun e => by cases e), fun _ => rfl, (fun e => by cases e), (fun e => by cases e), (fun e => by cases e), (fun e => by cases e)⟩, ⟨hC.ph.next (by decide) 0 3 rfl hL (fun m' h0 _ => absurd h0 (by omega)) ⟨I1, (OldBut.drew wr gi).trans O1⟩, fun e => ?_⟩⟩
            rw [updL_ne _ (by decide)] at e ⊢
            exact hC.anc e
          · intro K' hK'; dsimp only at hK'; rw [g3]; go_big_quiet_op; go_big_quiet_on; (repeat (go_big_quiet_step (fail))); refine wpQuiet_nil ?_
            refine ⟨_, _, _, _, _, _, rfl, .inl ⟨rfl, ?_, ?_⟩⟩
            · intro LL W hL hA hC
              have hp : ∀ m', 0 < 1 → [3, 5, 8, 10, 11, 13][1 - 1]? = some m' → LL m' = true := fun m' _ h => by
                simp at h; subst h; exact hA 3 (by kernel_rfl)
              obtain ⟨I1, O1⟩ : InB W gi (tl.drop 1) ∧ OldBut wr W gi := hC.ph.at 1 5 rfl hL hp
              refine ⟨?_⟩; go_simp; simp only [movesToUpon]
              refine (HV1.out W I1).mono ?_
              rintro e w' ⟨rfl, I2, O2⟩
              refine ⟨_, rfl, ⟨(fun e => by cases e), (fun e => by cases e), fun _ => rfl, (fun e => by cases e), (fun e => by cases e), (fun e => by cases e)⟩, ⟨hC.ph.next (by decide) 1 5 rfl hL hp ⟨I2, O1.trans O2⟩, fun e => ?_⟩⟩
              rw [updL_ne _ (by decide)] at e ⊢
              exact hC.anc e
            · intro K' hK'; dsimp only at hK'; rw [g5]; go_big_quiet_op; go_big_quiet_on; (repeat (go_big_quiet_step (fail))); refine wpQuiet_nil ?_
              refine ⟨_, _, _, _, _, _, rfl, .inl ⟨rfl, ?_, ?_⟩⟩
              · intro LL W hL hA hC
                have hp : ∀ m', 0 < 2 → [3, 5, 8, 10, 11, 13][2 - 1]? = some m' → LL m' = true := fun m' _ h => by
                  simp at h; subst h; exact hA 5 (by kernel_rfl)
                obtain ⟨I1, O1⟩ : InB W gi (tl.drop 2) ∧ OldBut wr W gi := hC.ph.at 2 8 rfl hL hp
                refine ⟨?_⟩; go_simp; simp only [movesToUpon]
                refine (HV2.out W I1).mono ?_
                rintro e w' ⟨rfl, I2, O2⟩
                refine ⟨_, rfl, ⟨(fun e => by cases e), (fun e => by cases e), (fun e => by cases e), fun _ => rfl, (fun e => by cases e), (fun e => by cases e)⟩, ⟨hC.ph.next (by decide) 2 8 rfl hL hp ⟨I2, O1.trans O2⟩, fun e => ?_⟩⟩
                rw [updL_ne _ (by decide)] at e ⊢
                exact hC.anc e
              · intro K' hK'; dsimp only at hK'; rw [g8]; go_big_quiet_op; go_big_quiet_on; (repeat (go_big_quiet_step (fail))); refine wpQuiet_nil ?_
                refine ⟨_, _, _, _, _, _, rfl, .inl ⟨rfl, ?_, ?_⟩⟩
                · intro LL W hL hA hC
                  have hp : ∀ m', 0 < 3 → [3, 5, 8, 10, 11, 13][3 - 1]? = some m' → LL m' = true := fun m' _ h => by
                    simp at h; subst h; exact hA 8 (by kernel_rfl)
                  obtain ⟨I2, O2⟩ : InB W gi (tl.drop 4) ∧ OldBut wr W gi := hC.ph.at 3 10 rfl hL hp
                  refine ⟨?_⟩; go_simp; simp only [movesToUpon]
                  refine ⟨⟨(fun e => by cases e), (fun e => by cases e), (fun e => by cases e), (fun e => by cases e), fun _ => ⟨_, rfl⟩, (fun e => by cases e)⟩, ⟨hC.ph.next (by decide) 3 10 rfl hL hp ⟨W, I2, O2, rfl, upF_same _ _ _⟩, fun e => ?_⟩⟩
                  rw [updL_ne _ (by decide)] at e ⊢
                  exact hC.anc e
                · intro K' hK'; dsimp only at hK'; rw [g10]; go_big_quiet_op; go_big_quiet_on; (repeat (go_big_quiet_step (fail))); refine wpQuiet_nil ?_
                  refine ⟨_, _, _, _, _, _, rfl, .inl ⟨rfl, ?_, ?_⟩⟩
                  · intro LL W hL hA hC
                    have hp : ∀ m', 0 < 4 → [3, 5, 8, 10, 11, 13][4 - 1]? = some m' → LL m' = true := fun m' _ h => by
                      simp at h; subst h; exact hA 10 (by kernel_rfl)
                    obtain ⟨W2, I2, O2, rfl, hg9⟩ : ∃ W2, InB W2 gi (tl.drop 4) ∧ OldBut wr W2 gi ∧ W = W2.alloc (.cells ([.int .i64 p, .bool ub, .int .i64 r] : List Value).toArray 31) ∧ G 10 = .slice (some ⟨W2.heap.size, 0, none⟩) 1 1 := hC.ph.at 4 11 rfl hL hp
                    rw [g10] at hg9
                    injection hg9 with f1 f2 f3
                    injection f1 with f1
                    injection f1 with f1
                    subst f1
                    have own2 := own_at own (w' := W2) (fun j hj => O2.keep j (own.lt j hj).2 (fun e => no_i (by rw [hj, e])))
                    have own3 := own_at own2 (w' := W2.alloc (.cells ([.int .i64 p, .bool ub, .int .i64 r] : List Value).toArray 31)) (fun j hj => Below.heap_alloc _ _ _ (own2.lt j hj).2)
                    have hnew := World.news_of_block (Blk.new W2 31 ([.int .i64 p, .bool ub, .int .i64 r] : List Value).toArray)
                    have sW := O2.below.size
                    obtain ⟨g4, cap4, w4, hrun, own4, hgrow4, _, hlt4⟩ := run_append_lies (P := Try.prog) _ 25 25 w.heap.size 31 ip (.agg #[.int .i64 0, .bool false, .int .i64 0]) 3 24 Try.underlying25 hp0 hp1 hp2 hp3 rfl (by decide) _ _ _ own3 ⟨W2.heap.size, 0, none⟩ 1 1 [.int .i64 p, .bool ub, .int .i64 r] rfl hnew (by simp [Value.oneCell']) (by omega) (by rw [maxLen_eq]; omega) (by omega) (by simp; omega) _ rfl
                    have far : ∀ k, k < wr.heap.size → k ≠ gi → (Value.slice av m cv).ownBlock ≠ some k → w4.heap[k]? = wr.heap[k]? := fun k h1 h2 h3 => (hgrow4.block k (by simp; omega) (fun e => h3 e.symm)).trans ((Below.heap_alloc _ _ _ (by omega)).trans (O2.keep k h1 h2))
                    have B4 : Below w.heap.size wr w4 := ((O2.down (by omega) (by omega)).alloc (by omega) _).grown hgrow4 (by simp; omega) (fun j hj => (own3.lt j hj).1)
                    have I4 : InB w4 gi (tl.drop 4) := I2.at_ ((hgrow4.block gi (by have := I2.lt; simp; omega) (fun e => no_i e.symm)).trans (Below.heap_alloc _ _ _ I2.lt))
                    refine MovesTo.append_ rfl rfl rfl hrun ?_
                    refine ⟨⟨(fun e => by cases e), (fun e => by cases e), (fun e => by cases e), (fun e => by cases e), (fun e => by cases e), fun _ => ⟨_, _, rfl⟩⟩, ⟨hC.ph.next (by decide) 4 11 rfl hL hp ⟨g4, cap4, upF_same _ _ _, own4, I4, B4, far gn hgnl nin no_n, far w.heap.size hg1l ni1 no_1, far (w.heap.size + 1) hg2l ni2 no_2⟩, fun e => ?_⟩⟩
                    rw [updL_ne _ (by decide)] at e ⊢
                    exact hC.anc e
                  · intro K' hK'; dsimp only at hK'; rw [g11]; go_big_quiet_op; go_big_quiet_on; (repeat (go_big_quiet_step (fail))); refine wpQuiet_nil ?_
                    refine ⟨_, _, _, _, _, _, rfl, .inl ⟨rfl, ?_, ?_⟩⟩
                    · intro LL W hL hA hC
                      have hp : ∀ m', 0 < 5 → [3, 5, 8, 10, 11, 13][5 - 1]? = some m' → LL m' = true := fun m' _ h => by
                        simp at h; subst h; exact hA 11 (by kernel_rfl)
                      obtain ⟨g4, cap4, hg10, own4, I4, B4, hn4, h14, h24⟩ : ∃ g4 cap, G 11 = .slice (some ⟨g4, 0, none⟩) (m + 1) cap ∧ W.ownsRow w.heap.size 31 3 (.slice (some ⟨g4, 0, none⟩) (m + 1) cap) (m + 1) (rowG cellsA out ++ ([.int .i64 p, .bool ub, .int .i64 r] : List Value)) ∧ InB W gi (tl.drop 4) ∧ Below w.heap.size wr W ∧ W.heap[gn]? = wr.heap[gn]? ∧ W.heap[w.heap.size]? = wr.heap[w.heap.size]? ∧ W.heap[w.heap.size + 1]? = wr.heap[w.heap.size + 1]? := hC.ph.at 5 13 rfl hL hp
                      have hg10' := hg10
                      rw [g11] at hg10'
                      injection hg10' with f1 f2 f3
                      injection f1 with f1
                      injection f1 with f1
                      subst f1 f3
                      have kn : Blk W gn 27 _ := hn4.trans Kn
                      have cn := kn.cell
                      have fn := kn.frozen
                      simp at cn
                      have kn5 := kn.set_ 1 (.slice (some ⟨gr, 0, none⟩) (m + 1) gc)
                      simp at kn5
                      have nr : gr ≠ gn := fun e => own_ne_blk own4 kn (by decide) (by rw [e]; rfl)
                      have hk5 : ∀ k, k ≠ gn → (W.setCell ⟨gn, 1, none⟩ (.slice (some ⟨gr, 0, none⟩) (m + 1) gc)).heap[k]? = W.heap[k]? := fun k hk => Below.heap_setCell _ ⟨gn, 1, none⟩ _ k hk
                      have own5 := own_at own4 (w' := W.setCell ⟨gn, 1, none⟩ (.slice (some ⟨gr, 0, none⟩) (m + 1) gc)) (fun j hj => hk5 j (by
                        simp only [Value.ownBlock, Option.some.injEq] at hj
                        omega))
                      have I5 := I4.at_ (hk5 gi (Ne.symm nin))
                      have B5 : Below w.heap.size wr (W.setCell ⟨gn, 1, none⟩ (.slice (some ⟨gr, 0, none⟩) (m + 1) gc)) := B4.setCell (p := ⟨gn, 1, none⟩) (by show w.heap.size ≤ gn; omega) _
                      refine ⟨?_⟩; go_simp; simp only [movesToUpon]
                      refine ⟨⟨(fun e => by cases e), (fun e => by cases e), (fun e => by cases e), (fun e => by cases e), (fun e => by cases e), (fun e => by cases e)⟩, ⟨hC.ph.next (by decide) 5 13 rfl hL hp ⟨gr, gc, by rw [upF_ne _ _ (by decide)]; exact g11, own5, I5, B5, kn5, (hk5 _ nn1).trans h14, (hk5 _ nn2).trans h24⟩, fun e => ?_⟩⟩
                      rw [updL_ne _ (by decide)]
                      exact hA 1 (by kernel_rfl)
                    · intro K' hK'; dsimp only at hK'; go_big_quiet_op; go_big_quiet_on; (repeat (go_big_quiet_step (fail))); refine wpQuiet_nil ?_
                      intro LL w9 hL hC
                      obtain ⟨g4, cap4, hg10, own4, I4, B4, kn4, h14, h24⟩ : ∃ g4 cap, G 11 = .slice (some ⟨g4, 0, none⟩) (m + 1) cap ∧ w9.ownsRow w.heap.size 31 3 (.slice (some ⟨g4, 0, none⟩) (m + 1) cap) (m + 1) (rowG cellsA out ++ ([.int .i64 p, .bool ub, .int .i64 r] : List Value)) ∧ InB w9 gi (tl.drop 4) ∧ Below w.heap.size wr w9 ∧ Blk w9 gn 27 #[.int .u32 src, .slice (some ⟨g4, 0, none⟩) (m + 1) cap] ∧ w9.heap[w.heap.size]? = wr.heap[w.heap.size]? ∧ w9.heap[w.heap.size + 1]? = wr.heap[w.heap.size + 1]? :=
                        hC.ph.all (fun y hy => hL y (by
                          simp at hy
                          rcases hy with rfl | rfl | rfl | rfl | rfl | rfl <;> decide)) (fun k G W h => by
                          unfold StA at h
                          split at h
                          all_goals first | exact h.elim | simp)
                      have K19 : Blk w9 w.heap.size 33 _ := h14.trans K1
                      have K29 : Blk w9 (w.heap.size + 1) 27 _ := h24.trans K2
                      have BE := B.trans B4
                      have hlf := leftAt_of I4
                      have hlr := leftAt_of I
                      rw [List.length_drop] at hlf
                      clear hC hL hG g1 g3 g5 g8 g10 g11 hne
                      go_wp2_with fail
                      go_roundw
                      case rel => exact ⟨_, out ++ [⟨p, ub, r⟩], m + 1, _, _, I4, by rw [List.length_drop]; have := HTZ.out; omega, HPR.out, by rw [List.length_append, HOM.out]; rfl, by omega, kn4, by rw [← hrow2.out]; exact own4, K19, K29, BE⟩
                      case measure => rw [hlf, hlr]; have := HTZ.out; omega
    · have hpe : ys = out := by
        rw [HPAR.out]
        by_cases h4 : 4 ≤ tz
        · have : 15 - m = 0 := by omega
          rw [this]
          simp [decs]
        · rw [decs_none (by have := HTZ.out; omega), List.append_nil]
      subst hpe
      have hom := HOM.out
      obtain ⟨_, _, e9, SA⟩ := AdAt.of_own own hom
      injection e9 with e9 e8 e7
      subst e9 e7
      obtain ⟨bo, hbo⟩ : ∃ bo, pieceA src ys = bo := ⟨_, rfl⟩
      have HPI := Lib.hid (fun gx : Ext wr => ad_Piece src hsb av m cv ys gx.world (SA.below gx.below) (by omega))
      rw [hbo] at HPI
      obtain ⟨pf, pk, ps, hpv⟩ : ∃ pf pk ps, pcV 2 bo = .agg #[.int .i64 pf, .int .i64 pk, .string ps] := by cases bo <;> exact ⟨_, _, _, rfl⟩
      rw [hpv] at HPI
      have hnb : (!(pf == 2 && pk == 211 && (ps.toList == s.toList))) = !ok := by
        congr 1
        rw [← HOK.out, hbo]
        exact pc_same hpv HL.out HBL.out (fun l e => pieceA_bytes src ys l (hbo.trans e))
      have HNE : ∀ W, (binOp .neq 33 (.agg #[.int .i64 pf, .int .i64 pk, .string ps]) (.agg #[.int .i64 2, .int .i64 211, .string s])).run Try.prog W = .ok (.bool (!ok)) W := fun W => by rw [pcc_neq, hnb]
      have E1 := fun (gx : Ext wr) => (K1.below gx.below K1.lt).cell
      have En := fun (gx : Ext wr) => (Kn.below gx.below Kn.lt).cell
      simp at E1 En
      have hpt : ¬ (4 : Int) ≤ (tz : Int) ∨ ((4 : Int) ≤ (tz : Int) ∧ ¬ (m : Int) < 15) := by omega
      clear hbo hpv hnb hpos
      have HOM2 := Lib.hid hom
      clear hom
      rcases hpt with p1 | ⟨p1, p2⟩
      all_goals
        go_wp2_with fail
        refine HLF.out.mono ?_
        rintro e' w' ⟨rfl, rfl⟩
        go_upto_region 7 with fail
        refine wp_region_ext (by kernel_rfl) (by kernel_rfl) ?_; (repeat (go_big_quiet_step ((first | (go_at_call 7; with_reducible exact calls_ext _ (HPI.out _)))))); refine wpQuiet_nil ?_; rintro _ ⟨gq, rfl⟩
        have K1g := K1.below gq.below K1.lt
        have K2g := K2.below gq.below K2.lt
        have Kng := Kn.below gq.below Kn.lt
        have Bg := below_then B gq.below (Nat.le_refl _)
        have owng := own_lasts own gq.below
        have no2g := own_ne_blk owng K2g (by decide)
        have s1g := K2g.lt
        clear E1 En
        generalize gq.world = w8 at *
        have c2 := K2g.cell
        have f2 := K2g.frozen
        have cn := Kng.cell
        simp at c2 cn
        cases ok with
        | false =>
          obtain ⟨wS, eS, KS, BS, hkS⟩ := two_set K2g rfl (.int .u32 0) (.slice none 0 0) w.heap.size (by omega)
          have cS := KS.cell
          simp at cS
          have BE := Bg.trans BS
          go_wp2_with fail
          refine bodyPost_ret (v := .tuple #[.agg #[.int .u32 0, .slice none 0 0], .int .i64 1]) ?_ rfl ⟨BE, by simp⟩
          simp [results, Try.results11, go_sem, cS]
          try rfl
        | true =>
          obtain ⟨wS, eS, KS, BS, hkS⟩ := two_set K2g rfl (.int .u32 src) (.slice av m cv) w.heap.size (by omega)
          have cS := KS.cell
          simp at cS
          have BE := Bg.trans BS
          have ownS := own_at owng (fun j hj => hkS j (fun e => no2g (by rw [hj, e])))
          obtain ⟨_, _, e9, SE⟩ := AdAt.of_own ownS HOM2.out
          injection e9 with e9 e8 e7
          subst e9 e7
          go_wp2_with fail
          refine bodyPost_ret (v := .tuple #[.agg #[.int .u32 src, .slice av m cv], .int .i64 0]) ?_ rfl ⟨BE, ?_⟩
          · simp [results, Try.results11, go_sem, cS]
            try rfl
          · rw [HOM2.out]
            exact ⟨_, _, rfl, SE⟩
end Go.Proofs.Ytliilcadlijnoaa
