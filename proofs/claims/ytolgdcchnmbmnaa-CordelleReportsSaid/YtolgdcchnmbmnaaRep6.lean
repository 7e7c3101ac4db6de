/- Package report: Of, of a piece that is a report's. No condition but how many blocks. (Printed by gen_rep6.py.) -/
import Derived.Test.YtolgdcchnmbmnaaRep5
import Derived.Test.YtolgdcchnmbmnaaSub3
import Derived.Test.YtolgdcchnmbmnaaPhase
namespace Go.Proofs.Ytolgdcchnmbmnaa
open Go.RowKit BigFrame
attribute [local go_sem ↓] Go.wp_at_zero Go.wp_at_succ

theorem info_bk : ∃ i, Try.prog.info? 49 = some i ∧ i.zero = some (.agg zBkA) ∧ i.size = 7 ∧ i.bytes = 40 := by
  have h : (Try.prog.info? 49).map (fun i => (i.zero, i.size, i.bytes)) = some (some (.agg zBkA), 7, 40) := by kernel_rfl
  obtain ⟨i, hi, he⟩ := Option.map_eq_some_iff.1 h
  simp only [Prod.mk.injEq] at he
  exact ⟨i, hi, he.1, he.2.1, he.2.2⟩
/-- While one part is read and put behind the others. -/
def StB (w0 : World) (B gi gn gp g2 m : Nat) (tl : List Int) (s : Int) (y : Bool) (c t p b : Int) (xs : List Value) (pp ff ll hh jj bb tt : Int) (k : Nat) (G : Nat → Value) (W : World) : Prop :=
  match k with
  | 0 => W = w0.drew
  | 1 => InZ W gi tl ∧ OldBut w0 W gi
  | 2 => ∃ W2, InZ W2 gi tl ∧ OldBut w0 W2 gi ∧ W = W2.alloc (.cells ([.int .u32 pp, .int .i64 ff, .int .i64 ll, .int .u32 hh, .int .u32 jj, .int .u32 bb, .int .u32 tt]).toArray 49) ∧ G 4 = .slice (some ⟨W2.heap.size, 0, none⟩) 1 1
  | 3 => ∃ g4 cap, G 5 = .slice (some ⟨g4, 0, none⟩) (m + 1) cap ∧ W.ownsRow B 49 7 (.slice (some ⟨g4, 0, none⟩) (m + 1) cap) (m + 1) (xs ++ [.int .u32 pp, .int .i64 ff, .int .i64 ll, .int .u32 hh, .int .u32 jj, .int .u32 bb, .int .u32 tt]) ∧ InZ W gi tl ∧ Below B w0 W ∧ W.heap[gn]? = w0.heap[gn]? ∧ W.heap[gp]? = w0.heap[gp]? ∧ W.heap[g2]? = w0.heap[g2]?
  | 4 => ∃ g4 cap, G 5 = .slice (some ⟨g4, 0, none⟩) (m + 1) cap ∧ W.ownsRow B 49 7 (.slice (some ⟨g4, 0, none⟩) (m + 1) cap) (m + 1) (xs ++ [.int .u32 pp, .int .i64 ff, .int .i64 ll, .int .u32 hh, .int .u32 jj, .int .u32 bb, .int .u32 tt]) ∧ InZ W gi tl ∧ Below B w0 W ∧ Blk W gn 32 #[.int .u32 s, .bool y, .int .i64 c, .int .u32 t, .int .u32 p, .int .u32 b, .slice (some ⟨g4, 0, none⟩) (m + 1) cap] ∧ W.heap[gp]? = w0.heap[gp]? ∧ W.heap[g2]? = w0.heap[g2]?
  | _ => False
structure CB (w0 : World) (B gi gn gp g2 m : Nat) (tl : List Int) (s : Int) (y : Bool) (c t p b : Int) (xs : List Value) (pp ff ll hh jj bb tt : Int) (L : Nat → Bool) (G : Nat → Value) (W : World) : Prop where
  ph : Phase [3, 4, 5, 7] (StB w0 B gi gn gp g2 m tl s y c t p b xs pp ff ll hh jj bb tt) L G W
  anc : L 7 = true → L 1 = true
structure GB (m : Nat) (sv : Value) (pp ff ll hh jj bb tt : Int) (q : Nat) (v : Value) : Prop where
  a1 : q = 1 → v = sv
  c0 : q = 3 → v = .agg #[.int .u32 pp, .int .i64 ff, .int .i64 ll, .int .u32 hh, .int .u32 jj, .int .u32 bb, .int .u32 tt]
  lt : q = 4 → ∃ g, v = .slice (some ⟨g, 0, none⟩) 1 1
  ap : q = 5 → ∃ g cap, v = .slice (some ⟨g, 0, none⟩) (m + 1) cap
section
variable {w0 W W' : World} {B gi gn gp g2 m : Nat} {tl : List Int} {s : Int} {y : Bool} {c t p b : Int} {xs : List Value} {pp ff ll hh jj bb tt : Int} {L : Nat → Bool} {G : Nat → Value}
theorem CB.start (G : Nat → Value) : CB w0 B gi gn gp g2 m tl s y c t p b xs pp ff ll hh jj bb tt (fun _ => false) G w0.drew := ⟨Phase.start rfl, (fun e => by cases e)⟩
theorem CB.quiet (h : CB w0 B gi gn gp g2 m tl s y c t p b xs pp ff ll hh jj bb tt L G W) {z : Nat} (h1 : z ≠ 1) (h2 : z ∉ [3, 4, 5, 7]) : CB w0 B gi gn gp g2 m tl s y c t p b xs pp ff ll hh jj bb tt (upd L z) G W := by
  refine ⟨h.ph.quiet (fun i e => h2 (List.mem_of_getElem? e)), fun e => ?_⟩
  rw [updL_ne L (fun e2 => h2 (by rw [← e2]; simp))] at e
  rw [updL_ne L (Ne.symm h1)]
  exact h.anc e
theorem StB.old {k : Nat} (h : StB w0 B gi gn gp g2 m tl s y c t p b xs pp ff ll hh jj bb tt k G W) (hk : k ≤ 3) (hn : gn ≠ gi) (hl : gn < w0.heap.size) : W.heap[gn]? = w0.heap[gn]? := by
  match k, hk with
  | 0, _ => rw [show W = w0.drew from h]; rfl
  | 1, _ => exact h.2.keep gn hl hn
  | 2, _ =>
    obtain ⟨W2, _, hO, rfl, _⟩ := h
    exact (Below.heap_alloc _ _ _ (by have := hO.below.size; omega)).trans (hO.keep gn hl hn)
  | 3, _ =>
    obtain ⟨g4, cap, _, _, _, _, h1, _⟩ := h
    exact h1
theorem StB.up {k : Nat} (h : StB w0 B gi gn gp g2 m tl s y c t p b xs pp ff ll hh jj bb tt k G W) (u : Value) : StB w0 B gi gn gp g2 m tl s y c t p b xs pp ff ll hh jj bb tt k (upF G 1 u) W := by
  have hGl : upF G 1 u 4 = G 4 := upF_ne _ _ (by decide)
  have hGa : upF G 1 u 5 = G 5 := upF_ne _ _ (by decide)
  unfold StB at h ⊢
  rw [hGl, hGa]
  exact h
theorem CB.load (h : CB w0 B gi gn gp g2 m tl s y c t p b xs pp ff ll hh jj bb tt L G W) (hL : L 1 = false) (hn : gn ≠ gi) (hl : gn < w0.heap.size) (u : Value) : W.heap[gn]? = w0.heap[gn]? ∧ CB w0 B gi gn gp g2 m tl s y c t p b xs pp ff ll hh jj bb tt (upd L 1) (upF G 1 u) W := by
  obtain ⟨⟨k, h1, h2⟩, h3⟩ := h
  have hst : L 7 = false := by
    cases e : L 7
    · rfl
    · rw [h3 e] at hL; cases hL
  have hk : ¬ 3 < k := fun e => by
    have := (h1 3 7 rfl).2 e
    rw [hst] at this; cases this
  refine ⟨StB.old h2 (by omega) hn hl, ⟨k, fun i z hz => ?_, StB.up h2 u⟩, fun e => by rw [updL_at]⟩
  have hz1 : z ≠ 1 := fun e => by
    subst e
    have := List.mem_of_getElem? hz
    simp at this
  rw [updL_ne L hz1]
  exact h1 i z hz
end
/-- The number is read, the new report's block made, in any order; then it is stored. -/
structure C4 (w0 : World) (gi : Nat) (r : List Int) (s : Int) (y : Bool) (L : Nat → Bool) (G : Nat → Value) (W : World) : Prop where
  i : InZ W gi (if L 1 = true then r else beI s 4 ++ r)
  o : OldBut w0 W gi
  a : L 6 = true → ∃ x, G 6 = .pointer (some ⟨x, 0, none⟩) ∧ w0.heap.size ≤ x ∧ Blk W x 32 (if L 7 = true then #[.int .u32 s, .bool y, .int .i64 0, .int .u32 0, .int .u32 0, .int .u32 0, .slice none 0 0] else #[.int .u32 0, .bool false, .int .i64 0, .int .u32 0, .int .u32 0, .int .u32 0, .slice none 0 0])
  n : L 7 = true → L 6 = true
structure G4 (s : Int) (q : Nat) (v : Value) : Prop where
  c : q = 1 → v = .int .u32 s
  p : q = 6 → ∃ x, v = .pointer (some ⟨x, 0, none⟩)
section
variable {w0 W W' : World} {gi : Nat} {r : List Int} {s : Int} {y : Bool} {L : Nat → Bool} {G : Nat → Value}
theorem C4.start (I : InZ w0 gi (beI s 4 ++ r)) (G : Nat → Value) : C4 w0 gi r s y (fun _ => false) G w0.drew :=
  ⟨(show InZ w0.drew gi (beI s 4 ++ r) from I.at_ rfl), OldBut.drew _ _, (fun e => by cases e), (fun e => by cases e)⟩
theorem C4.quiet (h : C4 w0 gi r s y L G W) {z : Nat} (h1 : z ≠ 1) (h6 : z ≠ 6) (h7 : z ≠ 7) : C4 w0 gi r s y (upd L z) G W := by
  refine ⟨?_, h.o, fun e => ?_, fun e => ?_⟩
  · rw [updL_ne L (Ne.symm h1)]; exact h.i
  · rw [updL_ne L (Ne.symm h6)] at e; rw [updL_ne L (Ne.symm h7)]; exact h.a e
  · rw [updL_ne L (Ne.symm h7)] at e; rw [updL_ne L (Ne.symm h6)]; exact h.n e
theorem C4.call (h : C4 w0 gi r s y L G W) (I : InZ W' gi r) (O : OldBut W W' gi) (u : Value) : C4 w0 gi r s y (upd L 1) (upF G 1 u) W' := by
  refine ⟨by rw [updL_at]; simpa using I, h.o.trans O, fun e => ?_, fun e => ?_⟩
  · rw [updL_ne L (by decide)] at e
    rw [updL_ne L (by decide), upF_ne _ _ (by decide)]
    obtain ⟨x, hx, hl, K⟩ := h.a e
    obtain ⟨_, _, I9⟩ := h.i
    exact ⟨x, hx, hl, O.blk K (Blk.ne_ K I9.blk (by decide))⟩
  · rw [updL_ne L (by decide)] at e; rw [updL_ne L (by decide)]; exact h.n e
theorem C4.made (h : C4 w0 gi r s y L G W) (hL : L 6 = false) : C4 w0 gi r s y (upd L 6) (upF G 6 (.pointer (some ⟨W.heap.size, 0, none⟩))) (W.alloc (.cells #[.int .u32 0, .bool false, .int .i64 0, .int .u32 0, .int .u32 0, .int .u32 0, .slice none 0 0] 32)) := by
  have hB : Below W.heap.size W (W.alloc (.cells #[.int .u32 0, .bool false, .int .i64 0, .int .u32 0, .int .u32 0, .int .u32 0, .slice none 0 0] 32)) := (Below.refl _ _).alloc (Nat.le_refl _) _
  have h7 : L 7 = false := by
    cases e : L 7
    · rfl
    · rw [h.n e] at hL; cases hL
  refine ⟨by rw [updL_ne L (by decide)]; exact h.i.below hB, h.o.trans (OldBut.of_below hB), fun _ => ⟨_, upF_same _ _ _, h.o.below.size, ?_⟩, fun e => by rw [updL_at]⟩
  rw [updL_ne L (by decide), h7]
  exact Blk.new _ _ _
theorem C4.stored (h : C4 w0 gi r s y L G W) {x : Nat} (hL : L 6 = true) (hG : G 6 = .pointer (some ⟨x, 0, none⟩)) (K : Blk W' x 32 #[.int .u32 s, .bool y, .int .i64 0, .int .u32 0, .int .u32 0, .int .u32 0, .slice none 0 0]) (hk : ∀ k, k ≠ x → W'.heap[k]? = W.heap[k]?) (hB : Below 0 W W') (hw : w0.heap.size ≤ x) (hx : x ≠ gi) (u : Value) : C4 w0 gi r s y (upd L 7) (upF G 7 u) W' := by
  refine ⟨by rw [updL_ne L (by decide)]; exact h.i.at_ (hk gi (Ne.symm hx)), h.o.new_ hk hw hB, fun _ => ⟨x, (upF_ne _ _ (by decide)).trans hG, hw, ?_⟩, fun _ => by rw [updL_ne L (by decide)]; exact hL⟩
  rw [updL_at]
  exact K
end
theorem Blk.mid4_ {w : World} {g : Nat} {t : TypeId} {y0 y1 y2 y3 y4 y5 y6 : Value} (h : Blk w g t #[y0, y1, y2, y3, y4, y5, y6]) (x2 x3 x4 x5 : Value) (B : Nat) (hB : B ≤ g) :
    ∃ w2, (((w.setCell ⟨g, 2, none⟩ x2).setCell ⟨g, 3, none⟩ x3).setCell ⟨g, 4, none⟩ x4).setCell ⟨g, 5, none⟩ x5 = w2 ∧ Blk w2 g t #[y0, y1, x2, x3, x4, x5, y6] ∧ Below B w w2 ∧ (∀ k, k ≠ g → w2.heap[k]? = w.heap[k]?) := by
  have k2 := h.set_ 2 x2; simp at k2
  have k3 := k2.set_ 3 x3; simp at k3
  have k4 := k3.set_ 4 x4; simp at k4
  have k5 := k4.set_ 5 x5; simp at k5
  exact ⟨_, rfl, k5, ((((Below.refl _ _).setCell hB _).setCell hB _).setCell hB _).setCell hB _, fun k hk => by rw [Below.heap_setCell _ _ _ _ hk, Below.heap_setCell _ _ _ _ hk, Below.heap_setCell _ _ _ _ hk, Below.heap_setCell _ _ _ _ hk]⟩
set_option maxRecDepth 8000 in
set_option maxHeartbeats 16000000 in
theorem rep_Of_true (s : Int) (c t p b : Int) (l : List BkR) (sb : ByteArray) (hsb : bytesI sb = bodyR s true c t p b l) (hz : mayR true c t p b l = true) (hs : U32 s) (ht : U32 t) (hp : U32 p) (hb : U32 b) (hl : ∀ x ∈ l, x.Ok) (n : Nat) (hln : l.length = n) (w : World) :
    Calls Try.prog 9 #[.agg #[.int .i64 (n : Int), .int .i64 200, .string sb]] w fun e w' => ∃ la cp, e = .returned (.tuple #[.agg #[.int .u32 s, .bool true, .int .i64 c, .int .u32 t, .int .u32 p, .int .u32 b, .slice la n cp], .int .i64 0]) ∧ BkAt w' la n cp l ∧ Below w.heap.size w w' := by
  have hms : (0 ≤ c ∧ c ≤ 1099511627776) ∧ n ≤ 31 := by
    have h := hz
    unfold mayR mayS at h
    simp at h
    omega
  obtain ⟨hc, hn⟩ := hms
  obtain ⟨K1, K2, B2⟩ := two_newS w #[.int .i64 (n : Int), .int .i64 200, .string sb] #[.int .u32 0, .bool false, .int .i64 0, .int .u32 0, .int .u32 0, .int .u32 0, .slice none 0 0] 25 32
  obtain ⟨r, hr⟩ : ∃ r, (if true then encS c t p b else []) ++ l.flatMap bytB = r := ⟨_, rfl⟩
  have hbr : bodyR s true c t p b l = beI s 4 ++ r := by unfold bodyR headR; rw [List.append_assoc, hr]
  rw [hbr] at hsb
  have hrl : r.length ≤ 2000 := by
    rw [← hr, List.length_append, flat_len bytB 24 bytB_len]
    have : (if true then encS c t p b else []).length ≤ 20 := by simp [encS, be4All_len]
    omega
  have HOF := Lib.hid (fun W => penZ_Of sb _ hsb W)
  have HLN := Lib.hid hln
  have HOK := Lib.hid hl
  have HZ := Lib.hid hz
  have HR := Lib.hid hr
  have HU := Lib.hid (And.intro hs (And.intro ht (And.intro hp hb)))
  have R1 := Lib.hid (fun W gi (I : InZ W gi (beI s 4 ++ r)) => penZ_U32 gi s r W I hs.1 hs.2 (by omega))
  clear hln hl hz hs ht hp hb hsb hbr hr
  go_enter Try.func9, Try.ntmps9
  go_upto_region 1 with fail
  generalize (w.alloc (.cells #[.int .i64 (n : Int), .int .i64 200, .string sb] 25)).alloc (.cells #[.int .u32 0, .bool false, .int .i64 0, .int .u32 0, .int .u32 0, .int .u32 0, .slice none 0 0] 32) = w2 at *
  have c1 := K1.cell
  simp at c1
  go_wp2_with fail
  refine (HOF.out _).mono ?_
  rintro e w3 ⟨gi, rfl, hgi, I3, B3'⟩
  have K13 := K1.below B3' K1.lt
  have K23 := K2.below B3' K2.lt
  have B3 := below_then B2 B3' (Nat.le_refl _)
  have nig : w.heap.size + 1 < gi := by have := K2.lt; omega
  have n1g : w.heap.size ≠ gi := by omega
  have n2g : w.heap.size + 1 ≠ gi := by omega
  clear c1 K1 K2 B2 B3' HOF hgi
  go_upto_region 4 with fail
  have hne : Nonempty (UWF (C4 w3 gi r s true)) := ⟨⟨_, _, _, C4.start I3 (fun _ => undef)⟩⟩
  have E0 := fun (gw : UWF (C4 w3 gi r s true)) => (gw.holds.o.blk K13 n1g).cell
  simp at E0
  refine wp_region_free [(0, 1, some 1), (2, 4, some 6), (7, 0, some 7), (8, 0, none)] (C4 w3 gi r s true) (G4 s) (fun q => if q = 1 then .int .u32 s else .pointer (some ⟨0, 0, none⟩)) (by kernel_rfl) (by kernel_rfl) ?_ ?_ ?_ ?_
  · intro z hz LL G W hC
    simp [moversI] at hz
    exact hC.quiet (by omega) (by omega) (by omega)
  · exact C4.start I3 _
  · intro z
    exact ⟨fun e => by subst e; rfl, fun e => by subst e; exact ⟨0, rfl⟩⟩
  · intro G hG
    have y1 := (hG 1).c rfl
    obtain ⟨gn, y6⟩ := (hG 6).p rfl
    simp only [walkF, List.drop_zero, List.drop_succ_cons, List.take_succ_cons, List.take_zero, List.toList_toArray]; (repeat (go_big_quiet_step (fail))); refine wpQuiet_nil ?_
    refine ⟨_, _, _, _, _, _, rfl, .inl ⟨rfl, ?_, ?_⟩⟩
    · intro LL W hL hA hC
      have I := hC.i
      rw [hL] at I
      have I : InZ W gi (beI s 4 ++ r) := I
      refine ⟨?_⟩; go_simp; simp only [movesToUpon]
      refine (R1.out W _ I).mono ?_
      rintro e w' ⟨rfl, I1, O1⟩
      exact ⟨_, rfl, ⟨fun _ => rfl, (fun e => by cases e)⟩, hC.call I1 O1 _⟩
    · intro K' hK'; dsimp only at hK'; rw [y1]; go_big_quiet_op; go_big_quiet_on; (repeat (go_big_quiet_step (fail))); refine wpQuiet_nil ?_
      refine ⟨_, _, _, _, _, _, rfl, .inl ⟨rfl, ?_, ?_⟩⟩
      · intro LL W hL hA hC
        refine ⟨?_⟩; go_simp; simp only [movesToUpon]
        exact ⟨⟨(fun e => by cases e), fun _ => ⟨_, rfl⟩⟩, hC.made hL⟩
      · intro K' hK'; dsimp only at hK'; rw [y6]; go_big_quiet_op; go_big_quiet_on; (repeat (go_big_quiet_step (fail))); refine wpQuiet_nil ?_
        refine ⟨_, _, _, _, _, _, rfl, .inl ⟨rfl, ?_, ?_⟩⟩
        · intro LL W hL hA hC
          have h6 := hA 6 (by kernel_rfl)
          obtain ⟨x, hx, hlx, K⟩ := hC.a h6
          have hx' := hx
          rw [y6] at hx'
          injection hx' with hx'
          injection hx' with hx'
          injection hx' with hx'
          subst hx'
          rw [hL] at K
          have K : Blk W gn 32 #[.int .u32 0, .bool false, .int .i64 0, .int .u32 0, .int .u32 0, .int .u32 0, .slice none 0 0] := K
          obtain ⟨_, _, I9⟩ := hC.i
          have nx : gn ≠ gi := Blk.ne_ K I9.blk (by decide)
          have cn := K.cell
          have fn := K.frozen
          simp at cn
          obtain ⟨w9, e9, K9, B9, hk9⟩ := seven_set_ K (.int .u32 s) (.bool true) (.int .i64 0) (.int .u32 0) (.int .u32 0) (.int .u32 0) (.slice none 0 0) 0 (Nat.zero_le _)
          refine ⟨?_⟩; go_simp; simp only [movesToUpon]
          try rw [e9]
          exact ⟨⟨(fun e => by cases e), (fun e => by cases e)⟩, hC.stored h6 y6 K9 hk9 B9 hlx nx _⟩
        · intro K' hK'; dsimp only at hK'; go_big_quiet_op; go_big_quiet_on; (repeat (go_big_quiet_step (fail))); refine wpQuiet_nil ?_
          intro LL w9 hL hC
          have hI := hC.i
          rw [hL 1 (by decide)] at hI
          have I4 : InZ w9 gi r := hI
          obtain ⟨x, hx, hlx, K⟩ := hC.a (hL 6 (by decide))
          rw [y6] at hx
          injection hx with hx
          injection hx with hx
          injection hx with hx
          subst hx
          rw [hL 7 (by decide)] at K
          have Kn : Blk w9 gn 32 #[.int .u32 s, .bool true, .int .i64 0, .int .u32 0, .int .u32 0, .int .u32 0, .slice none 0 0] := K
          have O4 := hC.o
          have B9 : Below w.heap.size w w9 := B3.trans (O4.down B3.size (by omega))
          have K19 := O4.blk K13 n1g
          have K29 := O4.blk K23 n2g
          have l23 := K23.lt
          have n1n : gn ≠ w.heap.size := by omega
          have n2n : gn ≠ w.heap.size + 1 := by omega
          have ngi : gn ≠ gi := by obtain ⟨_, _, I9⟩ := I4; exact Blk.ne_ Kn I9.blk (by decide)
          have lgn : w.heap.size ≤ gn := by omega
          clear hI hC hL hG y1 y6 hne E0 O4 hlx K K13 K23 B3 I3 R1 l23
          have cn := Kn.cell
          simp at cn
          have hr2 : encS c t p b ++ l.flatMap bytB = r := by have h := HR.out; simpa using h
          rw [← hr2] at I4
          have HS := Lib.hid (rep_sent gi c t p b _ w9 I4 hc HU.out.2.1 HU.out.2.2.1 HU.out.2.2.2 (by rw [← hr2, List.length_append] at hrl; omega))
          clear hr2 I4
          go_wp2_with fail
          refine HS.out.mono ?_
          rintro e wa ⟨rfl, I5, O5⟩
          have Ka := O5.blk Kn ngi
          have K1a := O5.blk K19 n1g
          have K2a := O5.blk K29 n2g
          have Ba : Below w.heap.size w wa := B9.trans (O5.down B9.size (by omega))
          clear cn HS O5 Kn K19 K29 B9
          have cn := Ka.cell
          have fn := Ka.frozen
          simp at cn
          obtain ⟨wb, eb, Kb, Bb, hkb⟩ := Blk.mid4_ Ka (.int .i64 c) (.int .u32 t) (.int .u32 p) (.int .u32 b) w.heap.size lgn
          have I6 := I5.at_ (hkb gi (Ne.symm ngi))
          have K1b : Blk wb w.heap.size 25 _ := (hkb _ (Ne.symm n1n)).trans K1a
          have K2b : Blk wb (w.heap.size + 1) 32 _ := (hkb _ (Ne.symm n2n)).trans K2a
          have BB := Ba.trans Bb
          go_upto_region 7 with fail
          try rw [eb]
          clear eb cn fn Ka K1a K2a Ba Bb hkb I5
          have c1 := K1b.cell
          simp at c1
          have nn0 : (0 : Int) ≤ (n : Int) := by omega
          have nn1 : (n : Int) ≤ 31 := by omega
          have m1 : (if (32 : Int) < (n : Int) then (32 : Int) else (n : Int)) = (n : Int) := by split <;> omega
          have m2 : (if (0 : Int) < (n : Int) then (n : Int) else 0) = (n : Int) := by split <;> omega
          have m3 : (if 32 < n then (32 : Int) else (n : Int)) = (n : Int) := by split <;> omega
          have m4 : (if 0 < n then (n : Int) else 0) = (n : Int) := by split <;> omega
          have m5 : ¬ (32 : Int) < (n : Int) := by omega
          go_wp2_with fail
          clear c1 m1 m2 m3 m4 m5
          go_loopw [34] (fun x wr => ∃ (k : Nat) (av : Option Addr) (cv : Nat), k ≤ n ∧ x = .int .i64 k ∧ InZ wr gi ((l.drop k).flatMap bytB) ∧ Blk wr gn 32 #[.int .u32 s, .bool true, .int .i64 c, .int .u32 t, .int .u32 p, .int .u32 b, .slice av k cv] ∧ wr.ownsRow w.heap.size 49 7 (.slice av k cv) k (rowG BkR.cells (l.take k)) ∧ Blk wr w.heap.size 25 #[.int .i64 (n : Int), .int .i64 200, .string sb] ∧ Blk wr (w.heap.size + 1) 32 #[.int .u32 0, .bool false, .int .i64 0, .int .u32 0, .int .u32 0, .int .u32 0, .slice none 0 0] ∧ Below w.heap.size w wr) (fun x _ => n - (intOf x).toNat)
          case atStart => exact ⟨0, none, 0, by omega, rfl, by simpa using I6, Kb, ⟨rfl, .inl ⟨rfl, rfl⟩⟩, K1b, K2b, BB⟩
          case round =>
            clear I6 Kb K1b K2b BB
            obtain ⟨k, av, cv, hk, rfl, I, Kn, own, K1, K2, B⟩ := hrel
            by_cases hlt : k < n
            · obtain ⟨ip, hp0, hp1, hp2, hp3⟩ := info_bk
              have hkl : k < l.length := by have := HLN.out; omega
              obtain ⟨x, hx⟩ : ∃ x, l[k]? = some x := ⟨_, List.getElem?_eq_getElem hkl⟩
              have hox := HOK.out x (List.mem_of_getElem? hx)
              have hmx : BkR.may x = true := by
                have h := HZ.out
                unfold mayR at h
                simp only [Bool.and_eq_true, List.all_eq_true] at h
                exact h.2.2 x (List.mem_of_getElem? hx)
              have hdr : l.drop k = x :: l.drop (k + 1) := by
                have h2 := (List.getElem?_eq_some_iff.1 hx).2
                rw [List.drop_eq_getElem_cons hkl, h2]
              have hrow2 : Hid (rowG BkR.cells (l.take k) ++ x.cells = rowG BkR.cells (l.take (k + 1))) := Lib.hid (by rw [List.take_add_one, hx, rowG_append]; simp [rowG])
              have htl2 : ((l.drop (k + 1)).flatMap bytB).length ≤ 2000 := by rw [flat_len bytB 24 bytB_len, List.length_drop]; have := HLN.out; omega
              rw [hdr, List.flatMap_cons] at I
              obtain ⟨tl, htl⟩ : ∃ tl, (l.drop (k + 1)).flatMap bytB = tl := ⟨_, rfl⟩
              rw [htl] at I htl2
              have HTL := Lib.hid htl
              obtain ⟨pp, ff, ll, hh, jj, bb, tt⟩ := x
              obtain ⟨tl0, htl0⟩ : ∃ tl0, bytB ⟨pp, ff, ll, hh, jj, bb, tt⟩ ++ tl = tl0 := ⟨_, rfl⟩
              have HV0 := Lib.hid (fun W (I : InZ W gi tl0) => rep_block gi pp ff ll hh jj bb tt tl W (by rw [htl0]; exact I) hox hmx (by omega))
              rw [htl0] at I
              clear htl hdr hx hkl htl0 hox hmx
              obtain ⟨out, hout⟩ : ∃ out, l.take k = out := ⟨_, rfl⟩
              rw [hout] at own hrow2
              clear hout
              generalize k = m at *
              have p2 : (m : Int) < (n : Int) := by omega
              have p0 : (0 : Int) ≤ (m : Int) := by omega
              have sB := B.size
              have hgil := I.lt
              have hgnl := Kn.lt
              have hg1l := K1.lt
              have hg2l := K2.lt
              have nin : gn ≠ gi := ngi
              have ni2 : w.heap.size + 1 ≠ gi := n2g
              have ni1 : w.heap.size ≠ gi := n1g
              have nn2 : w.heap.size + 1 ≠ gn := Ne.symm n2n
              have nn1 : w.heap.size ≠ gn := Ne.symm n1n
              have no_i : (Value.slice av m cv).ownBlock ≠ some gi := by obtain ⟨s9, _, I9⟩ := I; exact own_ne_blk own I9.blk (by decide)
              have no_n := own_ne_blk own Kn (by decide)
              have no_1 := own_ne_blk own K1 (by decide)
              have no_2 := own_ne_blk own K2 (by decide)
              go_upto_region 9 with fail
              have hne : Nonempty (UWF (CB wr w.heap.size gi gn w.heap.size (w.heap.size + 1) m tl s true c t p b (rowG BkR.cells out) pp ff ll hh jj bb tt)) := ⟨⟨_, _, _, CB.start (fun _ => undef)⟩⟩
              refine wp_region_free [(0, 1, some 1), (2, 1, some 3), (4, 0, some 4), (5, 0, some 5), (6, 1, some 7), (8, 0, none)] (CB wr w.heap.size gi gn w.heap.size (w.heap.size + 1) m tl s true c t p b (rowG BkR.cells out) pp ff ll hh jj bb tt) (GB m (.slice av m cv) pp ff ll hh jj bb tt) (fun y => if y = 1 then .slice av m cv else if y = 3 then .agg #[.int .u32 pp, .int .i64 ff, .int .i64 ll, .int .u32 hh, .int .u32 jj, .int .u32 bb, .int .u32 tt] else if y = 4 then .slice (some ⟨0, 0, none⟩) 1 1 else .slice (some ⟨0, 0, none⟩) (m + 1) 0) (by kernel_rfl) (by kernel_rfl) ?_ ?_ ?_ ?_
              · intro y hy LL G W hC
                simp [moversI] at hy
                exact hC.quiet (by omega) (by simp; omega)
              · exact CB.start _
              · intro y
                exact ⟨fun e => by subst e; rfl, fun e => by subst e; rfl, fun e => by subst e; exact ⟨_, rfl⟩, fun e => by subst e; exact ⟨_, _, rfl⟩⟩
              · intro G hG
                have g1 := (hG 1).a1 rfl
                have y3 := (hG 3).c0 rfl
                obtain ⟨gl, y4⟩ := (hG 4).lt rfl
                obtain ⟨gr, gc, y5⟩ := (hG 5).ap rfl
                simp only [walkF, List.drop_zero, List.drop_succ_cons, List.take_succ_cons, List.take_zero, List.toList_toArray]; (repeat (go_big_quiet_step (fail))); refine wpQuiet_nil ?_
                refine ⟨_, _, _, _, _, _, rfl, .inl ⟨rfl, ?_, ?_⟩⟩
                · intro LL W hL hA hC
                  obtain ⟨hkeep, hC'⟩ := hC.load hL nin hgnl (.slice av m cv)
                  have kn : Blk W gn 32 _ := hkeep.trans Kn
                  have cn := kn.cell
                  simp at cn
                  refine ⟨?_⟩; go_simp; simp only [movesToUpon]
                  exact ⟨⟨fun _ => rfl, (fun e => by cases e), (fun e => by cases e), (fun e => by cases e)⟩, hC'⟩
                · intro K' hK'; dsimp only at hK'; rw [g1]; go_big_quiet_op; go_big_quiet_on; (repeat (go_big_quiet_step (fail))); refine wpQuiet_nil ?_
                  refine ⟨_, _, _, _, _, _, rfl, .inl ⟨rfl, ?_, ?_⟩⟩
                  · intro LL W hL hA hC
                    have hst : W = wr.drew := hC.ph.at 0 3 rfl hL (fun m' h0 _ => absurd h0 (by omega))
                    subst hst
                    have I0 : InZ wr.drew gi tl0 := I.at_ rfl
                    refine ⟨?_⟩; go_simp; simp only [movesToUpon]
                    refine (HV0.out wr.drew I0).mono ?_
                    rintro e w' ⟨rfl, I1, O1⟩
                    refine ⟨_, rfl, ⟨(fun e => by cases e), fun _ => rfl, (fun e => by cases e), (fun e => by cases e)⟩, ⟨hC.ph.next (by decide) 0 3 rfl hL (fun m' h0 _ => absurd h0 (by omega)) ⟨I1, (OldBut.drew wr gi).trans O1⟩, fun e => ?_⟩⟩
                    rw [updL_ne _ (by decide)] at e ⊢
                    exact hC.anc e
                  · intro K' hK'; dsimp only at hK'; rw [y3]; go_big_quiet_op; go_big_quiet_on; (repeat (go_big_quiet_step (fail))); refine wpQuiet_nil ?_
                    refine ⟨_, _, _, _, _, _, rfl, .inl ⟨rfl, ?_, ?_⟩⟩
                    · intro LL W hL hA hC
                      have hp : ∀ m', 0 < 1 → [3, 4, 5, 7][1 - 1]? = some m' → LL m' = true := fun m' _ h => by
                        simp at h; subst h; exact hA 3 (by kernel_rfl)
                      obtain ⟨I2, O2⟩ : InZ W gi tl ∧ OldBut wr W gi := hC.ph.at 1 4 rfl hL hp
                      refine ⟨?_⟩; go_simp; simp only [movesToUpon]
                      refine ⟨⟨(fun e => by cases e), (fun e => by cases e), fun _ => ⟨_, rfl⟩, (fun e => by cases e)⟩, ⟨hC.ph.next (by decide) 1 4 rfl hL hp ⟨W, I2, O2, rfl, upF_same _ _ _⟩, fun e => ?_⟩⟩
                      rw [updL_ne _ (by decide)] at e ⊢
                      exact hC.anc e
                    · intro K' hK'; dsimp only at hK'; rw [y4]; go_big_quiet_op; go_big_quiet_on; (repeat (go_big_quiet_step (fail))); refine wpQuiet_nil ?_
                      refine ⟨_, _, _, _, _, _, rfl, .inl ⟨rfl, ?_, ?_⟩⟩
                      · intro LL W hL hA hC
                        have hp : ∀ m', 0 < 2 → [3, 4, 5, 7][2 - 1]? = some m' → LL m' = true := fun m' _ h => by
                          simp at h; subst h; exact hA 4 (by kernel_rfl)
                        obtain ⟨W2, I2, O2, rfl, hg9⟩ : ∃ W2, InZ W2 gi tl ∧ OldBut wr W2 gi ∧ W = W2.alloc (.cells ([.int .u32 pp, .int .i64 ff, .int .i64 ll, .int .u32 hh, .int .u32 jj, .int .u32 bb, .int .u32 tt] : List Value).toArray 49) ∧ G 4 = .slice (some ⟨W2.heap.size, 0, none⟩) 1 1 := hC.ph.at 2 5 rfl hL hp
                        rw [y4] at hg9
                        injection hg9 with f1 f2 f3
                        injection f1 with f1
                        injection f1 with f1
                        subst f1
                        have own2 := own_at own (w' := W2) (fun j hj => O2.keep j (own.lt j hj).2 (fun e => no_i (by rw [hj, e])))
                        have own3 := own_at own2 (w' := W2.alloc (.cells ([.int .u32 pp, .int .i64 ff, .int .i64 ll, .int .u32 hh, .int .u32 jj, .int .u32 bb, .int .u32 tt] : List Value).toArray 49)) (fun j hj => Below.heap_alloc _ _ _ (own2.lt j hj).2)
                        have hnew := World.news_of_block (Blk.new W2 49 ([.int .u32 pp, .int .i64 ff, .int .i64 ll, .int .u32 hh, .int .u32 jj, .int .u32 bb, .int .u32 tt] : List Value).toArray)
                        have sW := O2.below.size
                        obtain ⟨g4, cap4, w4, hrun, own4, hgrow4, _, hlt4⟩ := run_append_lies (P := Try.prog) _ 30 30 w.heap.size 49 ip (.agg zBkA) 7 40 Try.underlying30 hp0 hp1 hp2 hp3 rfl (by decide) _ _ _ own3 ⟨W2.heap.size, 0, none⟩ 1 1 [.int .u32 pp, .int .i64 ff, .int .i64 ll, .int .u32 hh, .int .u32 jj, .int .u32 bb, .int .u32 tt] rfl hnew (by simp [Value.oneCell']) (by omega) (by rw [maxLen_eq]; omega) (by omega) (by simp; omega) _ rfl
                        have far : ∀ k, k < wr.heap.size → k ≠ gi → (Value.slice av m cv).ownBlock ≠ some k → w4.heap[k]? = wr.heap[k]? := fun k h1 h2 h3 => (hgrow4.block k (by simp; omega) (fun e => h3 e.symm)).trans ((Below.heap_alloc _ _ _ (by omega)).trans (O2.keep k h1 h2))
                        have B4 : Below w.heap.size wr w4 := ((O2.down (by omega) (by omega)).alloc (by omega) _).grown hgrow4 (by simp; omega) (fun j hj => (own3.lt j hj).1)
                        have I4 : InZ w4 gi tl := I2.at_ ((hgrow4.block gi (by have := I2.lt; simp; omega) (fun e => no_i e.symm)).trans (Below.heap_alloc _ _ _ I2.lt))
                        refine MovesTo.append_ rfl rfl rfl hrun ?_
                        refine ⟨⟨(fun e => by cases e), (fun e => by cases e), (fun e => by cases e), fun _ => ⟨_, _, rfl⟩⟩, ⟨hC.ph.next (by decide) 2 5 rfl hL hp ⟨g4, cap4, upF_same _ _ _, own4, I4, B4, far gn hgnl nin no_n, far w.heap.size hg1l ni1 no_1, far (w.heap.size + 1) hg2l ni2 no_2⟩, fun e => ?_⟩⟩
                        rw [updL_ne _ (by decide)] at e ⊢
                        exact hC.anc e
                      · intro K' hK'; dsimp only at hK'; rw [y5]; go_big_quiet_op; go_big_quiet_on; (repeat (go_big_quiet_step (fail))); refine wpQuiet_nil ?_
                        refine ⟨_, _, _, _, _, _, rfl, .inl ⟨rfl, ?_, ?_⟩⟩
                        · intro LL W hL hA hC
                          have hp : ∀ m', 0 < 3 → [3, 4, 5, 7][3 - 1]? = some m' → LL m' = true := fun m' _ h => by
                            simp at h; subst h; exact hA 5 (by kernel_rfl)
                          obtain ⟨g4, cap4, hg10, own4, I4, B4, hn4, h14, h24⟩ : ∃ g4 cap, G 5 = .slice (some ⟨g4, 0, none⟩) (m + 1) cap ∧ W.ownsRow w.heap.size 49 7 (.slice (some ⟨g4, 0, none⟩) (m + 1) cap) (m + 1) (rowG BkR.cells out ++ ([.int .u32 pp, .int .i64 ff, .int .i64 ll, .int .u32 hh, .int .u32 jj, .int .u32 bb, .int .u32 tt] : List Value)) ∧ InZ W gi tl ∧ Below w.heap.size wr W ∧ W.heap[gn]? = wr.heap[gn]? ∧ W.heap[w.heap.size]? = wr.heap[w.heap.size]? ∧ W.heap[w.heap.size + 1]? = wr.heap[w.heap.size + 1]? := hC.ph.at 3 7 rfl hL hp
                          have hg10' := hg10
                          rw [y5] at hg10'
                          injection hg10' with f1 f2 f3
                          injection f1 with f1
                          injection f1 with f1
                          subst f1 f3
                          have kn : Blk W gn 32 _ := hn4.trans Kn
                          have cn := kn.cell
                          have fn := kn.frozen
                          simp at cn
                          have kn5 := kn.set_ 6 (.slice (some ⟨gr, 0, none⟩) (m + 1) gc)
                          simp at kn5
                          have nr : gr ≠ gn := fun e => own_ne_blk own4 kn (by decide) (by rw [e]; rfl)
                          have hk5 : ∀ k, k ≠ gn → (W.setCell ⟨gn, 6, none⟩ (.slice (some ⟨gr, 0, none⟩) (m + 1) gc)).heap[k]? = W.heap[k]? := fun k hk => Below.heap_setCell _ ⟨gn, 6, none⟩ _ k hk
                          have own5 := own_at own4 (w' := W.setCell ⟨gn, 6, none⟩ (.slice (some ⟨gr, 0, none⟩) (m + 1) gc)) (fun j hj => hk5 j (by
                            simp only [Value.ownBlock, Option.some.injEq] at hj
                            omega))
                          have I5 := I4.at_ (hk5 gi (Ne.symm nin))
                          have B5 : Below w.heap.size wr (W.setCell ⟨gn, 6, none⟩ (.slice (some ⟨gr, 0, none⟩) (m + 1) gc)) := B4.setCell (p := ⟨gn, 6, none⟩) (by show w.heap.size ≤ gn; omega) _
                          refine ⟨?_⟩; go_simp; simp only [movesToUpon]
                          refine ⟨⟨(fun e => by cases e), (fun e => by cases e), (fun e => by cases e), (fun e => by cases e)⟩, ⟨hC.ph.next (by decide) 3 7 rfl hL hp ⟨gr, gc, by rw [upF_ne _ _ (by decide)]; exact y5, own5, I5, B5, kn5, (hk5 _ nn1).trans h14, (hk5 _ nn2).trans h24⟩, fun e => ?_⟩⟩
                          rw [updL_ne _ (by decide)]
                          exact hA 1 (by kernel_rfl)
                        · intro K' hK'; dsimp only at hK'; go_big_quiet_op; go_big_quiet_on; (repeat (go_big_quiet_step (fail))); refine wpQuiet_nil ?_
                          intro LL w9 hL hC
                          obtain ⟨g4, cap4, hg10, own4, I4, B4, kn4, h14, h24⟩ : ∃ g4 cap, G 5 = .slice (some ⟨g4, 0, none⟩) (m + 1) cap ∧ w9.ownsRow w.heap.size 49 7 (.slice (some ⟨g4, 0, none⟩) (m + 1) cap) (m + 1) (rowG BkR.cells out ++ ([.int .u32 pp, .int .i64 ff, .int .i64 ll, .int .u32 hh, .int .u32 jj, .int .u32 bb, .int .u32 tt] : List Value)) ∧ InZ w9 gi tl ∧ Below w.heap.size wr w9 ∧ Blk w9 gn 32 #[.int .u32 s, .bool true, .int .i64 c, .int .u32 t, .int .u32 p, .int .u32 b, .slice (some ⟨g4, 0, none⟩) (m + 1) cap] ∧ w9.heap[w.heap.size]? = wr.heap[w.heap.size]? ∧ w9.heap[w.heap.size + 1]? = wr.heap[w.heap.size + 1]? :=
                            hC.ph.all (fun y hy => hL y (by
                              simp at hy
                              rcases hy with rfl | rfl | rfl | rfl <;> decide)) (fun k G W h => by
                              unfold StB at h
                              split at h
                              all_goals first | exact h.elim | simp)
                          have K19 : Blk w9 w.heap.size 25 _ := h14.trans K1
                          have K29 : Blk w9 (w.heap.size + 1) 32 _ := h24.trans K2
                          have BE := B.trans B4
                          clear hC hL hG g1 y3 y4 y5 hne
                          go_wp2_with fail
                          go_roundw
                          case rel => exact ⟨m + 1, _, _, by omega, by go_num, by rw [HTL.out]; exact I4, kn4, by rw [← hrow2.out]; exact own4, K19, K29, BE⟩
                          case measure => simp only [intOf]; omega
            · obtain rfl : k = n := by omega
              have hall : l.take k = l := by have := HLN.out; rw [← this]; exact List.take_length
              have hnil : l.drop k = [] := by have := HLN.out; rw [← this]; exact List.drop_length
              rw [hall] at own
              rw [hnil] at I
              have I0 : InZ wr gi [] := I
              have HE := Lib.hid (penZ_End gi wr I0)
              obtain ⟨a9, c9, e9, S9⟩ := SliceOf.of_rowG BkR.cells_len zBk own HLN.out
              injection e9 with e9 e8 e7
              subst e9 e7
              have SB : BkAt wr av k cv l := ⟨HLN.out, S9⟩
              have HC := Lib.hid (rep_Check s true c t p b av k cv l true HZ.out wr SB (by omega))
              have c3 := Kn.cell
              simp at c3
              clear hall hnil I S9 hlt
              go_wp2_with fail
              refine HE.out.mono ?_
              rintro e w' ⟨rfl, rfl⟩
              go_wp2_with fail
              refine HC.out.mono ?_
              rintro e wc ⟨rfl, hbc⟩
              have Knc := Kn.below hbc Kn.lt
              have K2c := K2.below hbc K2.lt
              have SBc := SB.below hbc
              have Bc := below_then B hbc (Nat.le_refl _)
              have ownc := own_lasts own hbc
              have no2 := own_ne_blk ownc K2c (by decide)
              clear hbc c3 HE HC
              have c3 := Knc.cell
              have c2 := K2c.cell
              have f2 := K2c.frozen
              simp at c3 c2
              obtain ⟨wS, eS, KS, BS, hkS⟩ := seven_set_ K2c (.int .u32 s) (.bool true) (.int .i64 c) (.int .u32 t) (.int .u32 p) (.int .u32 b) (.slice av k cv) w.heap.size (by omega)
              have cS := KS.cell
              simp at cS
              have ownS := own_at ownc (w' := wS) (fun j hj => hkS j (fun e => no2 (by rw [hj, e])))
              obtain ⟨a9, c9, e9, S9⟩ := SliceOf.of_rowG BkR.cells_len zBk ownS HLN.out
              injection e9 with e9 e8 e7
              subst e9 e7
              have SS : BkAt wS av k cv l := ⟨HLN.out, S9⟩
              have BE := Bc.trans BS
              go_wp2_with fail
              refine bodyPost_ret (v := .tuple #[.agg #[.int .u32 s, .bool true, .int .i64 c, .int .u32 t, .int .u32 p, .int .u32 b, .slice av k cv], .int .i64 0]) ?_ rfl ⟨av, cv, rfl, SS, BE⟩
              simp [results, Try.results9, go_sem, cS]
set_option maxRecDepth 8000 in
set_option maxHeartbeats 16000000 in
theorem rep_Of_false (s : Int) (c t p b : Int) (l : List BkR) (sb : ByteArray) (hsb : bytesI sb = bodyR s false c t p b l) (hz : mayR false c t p b l = true) (hs : U32 s) (ht : U32 t) (hp : U32 p) (hb : U32 b) (hl : ∀ x ∈ l, x.Ok) (n : Nat) (hln : l.length = n) (w : World) :
    Calls Try.prog 9 #[.agg #[.int .i64 (n : Int), .int .i64 201, .string sb]] w fun e w' => ∃ la cp, e = .returned (.tuple #[.agg #[.int .u32 s, .bool false, .int .i64 c, .int .u32 t, .int .u32 p, .int .u32 b, .slice la n cp], .int .i64 0]) ∧ BkAt w' la n cp l ∧ Below w.heap.size w w' := by
  have hms : (0 ≤ c ∧ c ≤ 1099511627776) ∧ n ≤ 31 := by
    have h := hz
    unfold mayR mayS at h
    simp at h
    omega
  obtain ⟨hc, hn⟩ := hms
  obtain ⟨K1, K2, B2⟩ := two_newS w #[.int .i64 (n : Int), .int .i64 201, .string sb] #[.int .u32 0, .bool false, .int .i64 0, .int .u32 0, .int .u32 0, .int .u32 0, .slice none 0 0] 25 32
  obtain ⟨r, hr⟩ : ∃ r, (if false then encS c t p b else []) ++ l.flatMap bytB = r := ⟨_, rfl⟩
  have hbr : bodyR s false c t p b l = beI s 4 ++ r := by unfold bodyR headR; rw [List.append_assoc, hr]
  rw [hbr] at hsb
  have hrl : r.length ≤ 2000 := by
    rw [← hr, List.length_append, flat_len bytB 24 bytB_len]
    have : (if false then encS c t p b else []).length ≤ 20 := by simp [encS, be4All_len]
    omega
  have HOF := Lib.hid (fun W => penZ_Of sb _ hsb W)
  have HLN := Lib.hid hln
  have HOK := Lib.hid hl
  have HZ := Lib.hid hz
  have HR := Lib.hid hr
  have HU := Lib.hid (And.intro hs (And.intro ht (And.intro hp hb)))
  have R1 := Lib.hid (fun W gi (I : InZ W gi (beI s 4 ++ r)) => penZ_U32 gi s r W I hs.1 hs.2 (by omega))
  clear hln hl hz hs ht hp hb hsb hbr hr
  go_enter Try.func9, Try.ntmps9
  go_upto_region 1 with fail
  generalize (w.alloc (.cells #[.int .i64 (n : Int), .int .i64 201, .string sb] 25)).alloc (.cells #[.int .u32 0, .bool false, .int .i64 0, .int .u32 0, .int .u32 0, .int .u32 0, .slice none 0 0] 32) = w2 at *
  have c1 := K1.cell
  simp at c1
  go_wp2_with fail
  refine (HOF.out _).mono ?_
  rintro e w3 ⟨gi, rfl, hgi, I3, B3'⟩
  have K13 := K1.below B3' K1.lt
  have K23 := K2.below B3' K2.lt
  have B3 := below_then B2 B3' (Nat.le_refl _)
  have nig : w.heap.size + 1 < gi := by have := K2.lt; omega
  have n1g : w.heap.size ≠ gi := by omega
  have n2g : w.heap.size + 1 ≠ gi := by omega
  clear c1 K1 K2 B2 B3' HOF hgi
  go_upto_region 4 with fail
  have hne : Nonempty (UWF (C4 w3 gi r s false)) := ⟨⟨_, _, _, C4.start I3 (fun _ => undef)⟩⟩
  have E0 := fun (gw : UWF (C4 w3 gi r s false)) => (gw.holds.o.blk K13 n1g).cell
  simp at E0
  refine wp_region_free [(0, 1, some 1), (2, 4, some 6), (7, 0, some 7), (8, 0, none)] (C4 w3 gi r s false) (G4 s) (fun q => if q = 1 then .int .u32 s else .pointer (some ⟨0, 0, none⟩)) (by kernel_rfl) (by kernel_rfl) ?_ ?_ ?_ ?_
  · intro z hz LL G W hC
    simp [moversI] at hz
    exact hC.quiet (by omega) (by omega) (by omega)
  · exact C4.start I3 _
  · intro z
    exact ⟨fun e => by subst e; rfl, fun e => by subst e; exact ⟨0, rfl⟩⟩
  · intro G hG
    have y1 := (hG 1).c rfl
    obtain ⟨gn, y6⟩ := (hG 6).p rfl
    simp only [walkF, List.drop_zero, List.drop_succ_cons, List.take_succ_cons, List.take_zero, List.toList_toArray]; (repeat (go_big_quiet_step (fail))); refine wpQuiet_nil ?_
    refine ⟨_, _, _, _, _, _, rfl, .inl ⟨rfl, ?_, ?_⟩⟩
    · intro LL W hL hA hC
      have I := hC.i
      rw [hL] at I
      have I : InZ W gi (beI s 4 ++ r) := I
      refine ⟨?_⟩; go_simp; simp only [movesToUpon]
      refine (R1.out W _ I).mono ?_
      rintro e w' ⟨rfl, I1, O1⟩
      exact ⟨_, rfl, ⟨fun _ => rfl, (fun e => by cases e)⟩, hC.call I1 O1 _⟩
    · intro K' hK'; dsimp only at hK'; rw [y1]; go_big_quiet_op; go_big_quiet_on; (repeat (go_big_quiet_step (fail))); refine wpQuiet_nil ?_
      refine ⟨_, _, _, _, _, _, rfl, .inl ⟨rfl, ?_, ?_⟩⟩
      · intro LL W hL hA hC
        refine ⟨?_⟩; go_simp; simp only [movesToUpon]
        exact ⟨⟨(fun e => by cases e), fun _ => ⟨_, rfl⟩⟩, hC.made hL⟩
      · intro K' hK'; dsimp only at hK'; rw [y6]; go_big_quiet_op; go_big_quiet_on; (repeat (go_big_quiet_step (fail))); refine wpQuiet_nil ?_
        refine ⟨_, _, _, _, _, _, rfl, .inl ⟨rfl, ?_, ?_⟩⟩
        · intro LL W hL hA hC
          have h6 := hA 6 (by kernel_rfl)
          obtain ⟨x, hx, hlx, K⟩ := hC.a h6
          have hx' := hx
          rw [y6] at hx'
          injection hx' with hx'
          injection hx' with hx'
          injection hx' with hx'
          subst hx'
          rw [hL] at K
          have K : Blk W gn 32 #[.int .u32 0, .bool false, .int .i64 0, .int .u32 0, .int .u32 0, .int .u32 0, .slice none 0 0] := K
          obtain ⟨_, _, I9⟩ := hC.i
          have nx : gn ≠ gi := Blk.ne_ K I9.blk (by decide)
          have cn := K.cell
          have fn := K.frozen
          simp at cn
          obtain ⟨w9, e9, K9, B9, hk9⟩ := seven_set_ K (.int .u32 s) (.bool false) (.int .i64 0) (.int .u32 0) (.int .u32 0) (.int .u32 0) (.slice none 0 0) 0 (Nat.zero_le _)
          refine ⟨?_⟩; go_simp; simp only [movesToUpon]
          try rw [e9]
          exact ⟨⟨(fun e => by cases e), (fun e => by cases e)⟩, hC.stored h6 y6 K9 hk9 B9 hlx nx _⟩
        · intro K' hK'; dsimp only at hK'; go_big_quiet_op; go_big_quiet_on; (repeat (go_big_quiet_step (fail))); refine wpQuiet_nil ?_
          intro LL w9 hL hC
          have hI := hC.i
          rw [hL 1 (by decide)] at hI
          have I4 : InZ w9 gi r := hI
          obtain ⟨x, hx, hlx, K⟩ := hC.a (hL 6 (by decide))
          rw [y6] at hx
          injection hx with hx
          injection hx with hx
          injection hx with hx
          subst hx
          rw [hL 7 (by decide)] at K
          have Kn : Blk w9 gn 32 #[.int .u32 s, .bool false, .int .i64 0, .int .u32 0, .int .u32 0, .int .u32 0, .slice none 0 0] := K
          have O4 := hC.o
          have B9 : Below w.heap.size w w9 := B3.trans (O4.down B3.size (by omega))
          have K19 := O4.blk K13 n1g
          have K29 := O4.blk K23 n2g
          have l23 := K23.lt
          have n1n : gn ≠ w.heap.size := by omega
          have n2n : gn ≠ w.heap.size + 1 := by omega
          have ngi : gn ≠ gi := by obtain ⟨_, _, I9⟩ := I4; exact Blk.ne_ Kn I9.blk (by decide)
          have lgn : w.heap.size ≤ gn := by omega
          clear hI hC hL hG y1 y6 hne E0 O4 hlx K K13 K23 B3 I3 R1 l23
          have cn := Kn.cell
          simp at cn
          have hz0 : c = 0 ∧ t = 0 ∧ p = 0 ∧ b = 0 := by
            have h := HZ.out
            unfold mayR mayS at h
            simp at h
            omega
          obtain ⟨rfl, rfl, rfl, rfl⟩ := hz0
          have hr2 : l.flatMap bytB = r := by have h := HR.out; simpa using h
          rw [← hr2] at I4
          obtain ⟨wb, hwb⟩ : ∃ wb, wb = w9 := ⟨_, rfl⟩
          subst hwb
          have I6 := I4
          have Kb := Kn
          have K1b := K19
          have K2b := K29
          have BB := B9
          go_upto_region 7 with fail
          clear hr2 I4 Kn K19 K29 B9 cn
          have c1 := K1b.cell
          simp at c1
          have nn0 : (0 : Int) ≤ (n : Int) := by omega
          have nn1 : (n : Int) ≤ 31 := by omega
          have m1 : (if (32 : Int) < (n : Int) then (32 : Int) else (n : Int)) = (n : Int) := by split <;> omega
          have m2 : (if (0 : Int) < (n : Int) then (n : Int) else 0) = (n : Int) := by split <;> omega
          have m3 : (if 32 < n then (32 : Int) else (n : Int)) = (n : Int) := by split <;> omega
          have m4 : (if 0 < n then (n : Int) else 0) = (n : Int) := by split <;> omega
          have m5 : ¬ (32 : Int) < (n : Int) := by omega
          go_wp2_with fail
          clear c1 m1 m2 m3 m4 m5
          go_loopw [34] (fun x wr => ∃ (k : Nat) (av : Option Addr) (cv : Nat), k ≤ n ∧ x = .int .i64 k ∧ InZ wr gi ((l.drop k).flatMap bytB) ∧ Blk wr gn 32 #[.int .u32 s, .bool false, .int .i64 0, .int .u32 0, .int .u32 0, .int .u32 0, .slice av k cv] ∧ wr.ownsRow w.heap.size 49 7 (.slice av k cv) k (rowG BkR.cells (l.take k)) ∧ Blk wr w.heap.size 25 #[.int .i64 (n : Int), .int .i64 201, .string sb] ∧ Blk wr (w.heap.size + 1) 32 #[.int .u32 0, .bool false, .int .i64 0, .int .u32 0, .int .u32 0, .int .u32 0, .slice none 0 0] ∧ Below w.heap.size w wr) (fun x _ => n - (intOf x).toNat)
          case atStart => exact ⟨0, none, 0, by omega, rfl, by simpa using I6, Kb, ⟨rfl, .inl ⟨rfl, rfl⟩⟩, K1b, K2b, BB⟩
          case round =>
            clear I6 Kb K1b K2b BB
            obtain ⟨k, av, cv, hk, rfl, I, Kn, own, K1, K2, B⟩ := hrel
            by_cases hlt : k < n
            · obtain ⟨ip, hp0, hp1, hp2, hp3⟩ := info_bk
              have hkl : k < l.length := by have := HLN.out; omega
              obtain ⟨x, hx⟩ : ∃ x, l[k]? = some x := ⟨_, List.getElem?_eq_getElem hkl⟩
              have hox := HOK.out x (List.mem_of_getElem? hx)
              have hmx : BkR.may x = true := by
                have h := HZ.out
                unfold mayR at h
                simp only [Bool.and_eq_true, List.all_eq_true] at h
                exact h.2.2 x (List.mem_of_getElem? hx)
              have hdr : l.drop k = x :: l.drop (k + 1) := by
                have h2 := (List.getElem?_eq_some_iff.1 hx).2
                rw [List.drop_eq_getElem_cons hkl, h2]
              have hrow2 : Hid (rowG BkR.cells (l.take k) ++ x.cells = rowG BkR.cells (l.take (k + 1))) := Lib.hid (by rw [List.take_add_one, hx, rowG_append]; simp [rowG])
              have htl2 : ((l.drop (k + 1)).flatMap bytB).length ≤ 2000 := by rw [flat_len bytB 24 bytB_len, List.length_drop]; have := HLN.out; omega
              rw [hdr, List.flatMap_cons] at I
              obtain ⟨tl, htl⟩ : ∃ tl, (l.drop (k + 1)).flatMap bytB = tl := ⟨_, rfl⟩
              rw [htl] at I htl2
              have HTL := Lib.hid htl
              obtain ⟨pp, ff, ll, hh, jj, bb, tt⟩ := x
              obtain ⟨tl0, htl0⟩ : ∃ tl0, bytB ⟨pp, ff, ll, hh, jj, bb, tt⟩ ++ tl = tl0 := ⟨_, rfl⟩
              have HV0 := Lib.hid (fun W (I : InZ W gi tl0) => rep_block gi pp ff ll hh jj bb tt tl W (by rw [htl0]; exact I) hox hmx (by omega))
              rw [htl0] at I
              clear htl hdr hx hkl htl0 hox hmx
              obtain ⟨out, hout⟩ : ∃ out, l.take k = out := ⟨_, rfl⟩
              rw [hout] at own hrow2
              clear hout
              generalize k = m at *
              have p2 : (m : Int) < (n : Int) := by omega
              have p0 : (0 : Int) ≤ (m : Int) := by omega
              have sB := B.size
              have hgil := I.lt
              have hgnl := Kn.lt
              have hg1l := K1.lt
              have hg2l := K2.lt
              have nin : gn ≠ gi := ngi
              have ni2 : w.heap.size + 1 ≠ gi := n2g
              have ni1 : w.heap.size ≠ gi := n1g
              have nn2 : w.heap.size + 1 ≠ gn := Ne.symm n2n
              have nn1 : w.heap.size ≠ gn := Ne.symm n1n
              have no_i : (Value.slice av m cv).ownBlock ≠ some gi := by obtain ⟨s9, _, I9⟩ := I; exact own_ne_blk own I9.blk (by decide)
              have no_n := own_ne_blk own Kn (by decide)
              have no_1 := own_ne_blk own K1 (by decide)
              have no_2 := own_ne_blk own K2 (by decide)
              go_upto_region 9 with fail
              have hne : Nonempty (UWF (CB wr w.heap.size gi gn w.heap.size (w.heap.size + 1) m tl s false 0 0 0 0 (rowG BkR.cells out) pp ff ll hh jj bb tt)) := ⟨⟨_, _, _, CB.start (fun _ => undef)⟩⟩
              refine wp_region_free [(0, 1, some 1), (2, 1, some 3), (4, 0, some 4), (5, 0, some 5), (6, 1, some 7), (8, 0, none)] (CB wr w.heap.size gi gn w.heap.size (w.heap.size + 1) m tl s false 0 0 0 0 (rowG BkR.cells out) pp ff ll hh jj bb tt) (GB m (.slice av m cv) pp ff ll hh jj bb tt) (fun y => if y = 1 then .slice av m cv else if y = 3 then .agg #[.int .u32 pp, .int .i64 ff, .int .i64 ll, .int .u32 hh, .int .u32 jj, .int .u32 bb, .int .u32 tt] else if y = 4 then .slice (some ⟨0, 0, none⟩) 1 1 else .slice (some ⟨0, 0, none⟩) (m + 1) 0) (by kernel_rfl) (by kernel_rfl) ?_ ?_ ?_ ?_
              · intro y hy LL G W hC
                simp [moversI] at hy
                exact hC.quiet (by omega) (by simp; omega)
              · exact CB.start _
              · intro y
                exact ⟨fun e => by subst e; rfl, fun e => by subst e; rfl, fun e => by subst e; exact ⟨_, rfl⟩, fun e => by subst e; exact ⟨_, _, rfl⟩⟩
              · intro G hG
                have g1 := (hG 1).a1 rfl
                have y3 := (hG 3).c0 rfl
                obtain ⟨gl, y4⟩ := (hG 4).lt rfl
                obtain ⟨gr, gc, y5⟩ := (hG 5).ap rfl
                simp only [walkF, List.drop_zero, List.drop_succ_cons, List.take_succ_cons, List.take_zero, List.toList_toArray]; (repeat (go_big_quiet_step (fail))); refine wpQuiet_nil ?_
                refine ⟨_, _, _, _, _, _, rfl, .inl ⟨rfl, ?_, ?_⟩⟩
                · intro LL W hL hA hC
                  obtain ⟨hkeep, hC'⟩ := hC.load hL nin hgnl (.slice av m cv)
                  have kn : Blk W gn 32 _ := hkeep.trans Kn
                  have cn := kn.cell
                  simp at cn
                  refine ⟨?_⟩; go_simp; simp only [movesToUpon]
                  exact ⟨⟨fun _ => rfl, (fun e => by cases e), (fun e => by cases e), (fun e => by cases e)⟩, hC'⟩
                · intro K' hK'; dsimp only at hK'; rw [g1]; go_big_quiet_op; go_big_quiet_on; (repeat (go_big_quiet_step (fail))); refine wpQuiet_nil ?_
                  refine ⟨_, _, _, _, _, _, rfl, .inl ⟨rfl, ?_, ?_⟩⟩
                  · intro LL W hL hA hC
                    have hst : W = wr.drew := hC.ph.at 0 3 rfl hL (fun m' h0 _ => absurd h0 (by omega))
                    subst hst
                    have I0 : InZ wr.drew gi tl0 := I.at_ rfl
                    refine ⟨?_⟩; go_simp; simp only [movesToUpon]
                    refine (HV0.out wr.drew I0).mono ?_
                    rintro e w' ⟨rfl, I1, O1⟩
                    refine ⟨_, rfl, ⟨(fun e => by cases e), fun _ => rfl, (fun e => by cases e), (fun e => by cases e)⟩, ⟨hC.ph.next (by decide) 0 3 rfl hL (fun m' h0 _ => absurd h0 (by omega)) ⟨I1, (OldBut.drew wr gi).trans O1⟩, fun e => ?_⟩⟩
                    rw [updL_ne _ (by decide)] at e ⊢
                    exact hC.anc e
                  · intro K' hK'; dsimp only at hK'; rw [y3]; go_big_quiet_op; go_big_quiet_on; (repeat (go_big_quiet_step (fail))); refine wpQuiet_nil ?_
                    refine ⟨_, _, _, _, _, _, rfl, .inl ⟨rfl, ?_, ?_⟩⟩
                    · intro LL W hL hA hC
                      have hp : ∀ m', 0 < 1 → [3, 4, 5, 7][1 - 1]? = some m' → LL m' = true := fun m' _ h => by
                        simp at h; subst h; exact hA 3 (by kernel_rfl)
                      obtain ⟨I2, O2⟩ : InZ W gi tl ∧ OldBut wr W gi := hC.ph.at 1 4 rfl hL hp
                      refine ⟨?_⟩; go_simp; simp only [movesToUpon]
                      refine ⟨⟨(fun e => by cases e), (fun e => by cases e), fun _ => ⟨_, rfl⟩, (fun e => by cases e)⟩, ⟨hC.ph.next (by decide) 1 4 rfl hL hp ⟨W, I2, O2, rfl, upF_same _ _ _⟩, fun e => ?_⟩⟩
                      rw [updL_ne _ (by decide)] at e ⊢
                      exact hC.anc e
                    · intro K' hK'; dsimp only at hK'; rw [y4]; go_big_quiet_op; go_big_quiet_on; (repeat (go_big_quiet_step (fail))); refine wpQuiet_nil ?_
                      refine ⟨_, _, _, _, _, _, rfl, .inl ⟨rfl, ?_, ?_⟩⟩
                      · intro LL W hL hA hC
                        have hp : ∀ m', 0 < 2 → [3, 4, 5, 7][2 - 1]? = some m' → LL m' = true := fun m' _ h => by
                          simp at h; subst h; exact hA 4 (by kernel_rfl)
                        obtain ⟨W2, I2, O2, rfl, hg9⟩ : ∃ W2, InZ W2 gi tl ∧ OldBut wr W2 gi ∧ W = W2.alloc (.cells ([.int .u32 pp, .int .i64 ff, .int .i64 ll, .int .u32 hh, .int .u32 jj, .int .u32 bb, .int .u32 tt] : List Value).toArray 49) ∧ G 4 = .slice (some ⟨W2.heap.size, 0, none⟩) 1 1 := hC.ph.at 2 5 rfl hL hp
                        rw [y4] at hg9
                        injection hg9 with f1 f2 f3
                        injection f1 with f1
                        injection f1 with f1
                        subst f1
                        have own2 := own_at own (w' := W2) (fun j hj => O2.keep j (own.lt j hj).2 (fun e => no_i (by rw [hj, e])))
                        have own3 := own_at own2 (w' := W2.alloc (.cells ([.int .u32 pp, .int .i64 ff, .int .i64 ll, .int .u32 hh, .int .u32 jj, .int .u32 bb, .int .u32 tt] : List Value).toArray 49)) (fun j hj => Below.heap_alloc _ _ _ (own2.lt j hj).2)
                        have hnew := World.news_of_block (Blk.new W2 49 ([.int .u32 pp, .int .i64 ff, .int .i64 ll, .int .u32 hh, .int .u32 jj, .int .u32 bb, .int .u32 tt] : List Value).toArray)
                        have sW := O2.below.size
                        obtain ⟨g4, cap4, w4, hrun, own4, hgrow4, _, hlt4⟩ := run_append_lies (P := Try.prog) _ 30 30 w.heap.size 49 ip (.agg zBkA) 7 40 Try.underlying30 hp0 hp1 hp2 hp3 rfl (by decide) _ _ _ own3 ⟨W2.heap.size, 0, none⟩ 1 1 [.int .u32 pp, .int .i64 ff, .int .i64 ll, .int .u32 hh, .int .u32 jj, .int .u32 bb, .int .u32 tt] rfl hnew (by simp [Value.oneCell']) (by omega) (by rw [maxLen_eq]; omega) (by omega) (by simp; omega) _ rfl
                        have far : ∀ k, k < wr.heap.size → k ≠ gi → (Value.slice av m cv).ownBlock ≠ some k → w4.heap[k]? = wr.heap[k]? := fun k h1 h2 h3 => (hgrow4.block k (by simp; omega) (fun e => h3 e.symm)).trans ((Below.heap_alloc _ _ _ (by omega)).trans (O2.keep k h1 h2))
                        have B4 : Below w.heap.size wr w4 := ((O2.down (by omega) (by omega)).alloc (by omega) _).grown hgrow4 (by simp; omega) (fun j hj => (own3.lt j hj).1)
                        have I4 : InZ w4 gi tl := I2.at_ ((hgrow4.block gi (by have := I2.lt; simp; omega) (fun e => no_i e.symm)).trans (Below.heap_alloc _ _ _ I2.lt))
                        refine MovesTo.append_ rfl rfl rfl hrun ?_
                        refine ⟨⟨(fun e => by cases e), (fun e => by cases e), (fun e => by cases e), fun _ => ⟨_, _, rfl⟩⟩, ⟨hC.ph.next (by decide) 2 5 rfl hL hp ⟨g4, cap4, upF_same _ _ _, own4, I4, B4, far gn hgnl nin no_n, far w.heap.size hg1l ni1 no_1, far (w.heap.size + 1) hg2l ni2 no_2⟩, fun e => ?_⟩⟩
                        rw [updL_ne _ (by decide)] at e ⊢
                        exact hC.anc e
                      · intro K' hK'; dsimp only at hK'; rw [y5]; go_big_quiet_op; go_big_quiet_on; (repeat (go_big_quiet_step (fail))); refine wpQuiet_nil ?_
                        refine ⟨_, _, _, _, _, _, rfl, .inl ⟨rfl, ?_, ?_⟩⟩
                        · intro LL W hL hA hC
                          have hp : ∀ m', 0 < 3 → [3, 4, 5, 7][3 - 1]? = some m' → LL m' = true := fun m' _ h => by
                            simp at h; subst h; exact hA 5 (by kernel_rfl)
                          obtain ⟨g4, cap4, hg10, own4, I4, B4, hn4, h14, h24⟩ : ∃ g4 cap, G 5 = .slice (some ⟨g4, 0, none⟩) (m + 1) cap ∧ W.ownsRow w.heap.size 49 7 (.slice (some ⟨g4, 0, none⟩) (m + 1) cap) (m + 1) (rowG BkR.cells out ++ ([.int .u32 pp, .int .i64 ff, .int .i64 ll, .int .u32 hh, .int .u32 jj, .int .u32 bb, .int .u32 tt] : List Value)) ∧ InZ W gi tl ∧ Below w.heap.size wr W ∧ W.heap[gn]? = wr.heap[gn]? ∧ W.heap[w.heap.size]? = wr.heap[w.heap.size]? ∧ W.heap[w.heap.size + 1]? = wr.heap[w.heap.size + 1]? := hC.ph.at 3 7 rfl hL hp
                          have hg10' := hg10
                          rw [y5] at hg10'
                          injection hg10' with f1 f2 f3
                          injection f1 with f1
                          injection f1 with f1
                          subst f1 f3
                          have kn : Blk W gn 32 _ := hn4.trans Kn
                          have cn := kn.cell
                          have fn := kn.frozen
                          simp at cn
                          have kn5 := kn.set_ 6 (.slice (some ⟨gr, 0, none⟩) (m + 1) gc)
                          simp at kn5
                          have nr : gr ≠ gn := fun e => own_ne_blk own4 kn (by decide) (by rw [e]; rfl)
                          have hk5 : ∀ k, k ≠ gn → (W.setCell ⟨gn, 6, none⟩ (.slice (some ⟨gr, 0, none⟩) (m + 1) gc)).heap[k]? = W.heap[k]? := fun k hk => Below.heap_setCell _ ⟨gn, 6, none⟩ _ k hk
                          have own5 := own_at own4 (w' := W.setCell ⟨gn, 6, none⟩ (.slice (some ⟨gr, 0, none⟩) (m + 1) gc)) (fun j hj => hk5 j (by
                            simp only [Value.ownBlock, Option.some.injEq] at hj
                            omega))
                          have I5 := I4.at_ (hk5 gi (Ne.symm nin))
                          have B5 : Below w.heap.size wr (W.setCell ⟨gn, 6, none⟩ (.slice (some ⟨gr, 0, none⟩) (m + 1) gc)) := B4.setCell (p := ⟨gn, 6, none⟩) (by show w.heap.size ≤ gn; omega) _
                          refine ⟨?_⟩; go_simp; simp only [movesToUpon]
                          refine ⟨⟨(fun e => by cases e), (fun e => by cases e), (fun e => by cases e), (fun e => by cases e)⟩, ⟨hC.ph.next (by decide) 3 7 rfl hL hp ⟨gr, gc, by rw [upF_ne _ _ (by decide)]; exact y5, own5, I5, B5, kn5, (hk5 _ nn1).trans h14, (hk5 _ nn2).trans h24⟩, fun e => ?_⟩⟩
                          rw [updL_ne _ (by decide)]
                          exact hA 1 (by kernel_rfl)
                        · intro K' hK'; dsimp only at hK'; go_big_quiet_op; go_big_quiet_on; (repeat (go_big_quiet_step (fail))); refine wpQuiet_nil ?_
                          intro LL w9 hL hC
                          obtain ⟨g4, cap4, hg10, own4, I4, B4, kn4, h14, h24⟩ : ∃ g4 cap, G 5 = .slice (some ⟨g4, 0, none⟩) (m + 1) cap ∧ w9.ownsRow w.heap.size 49 7 (.slice (some ⟨g4, 0, none⟩) (m + 1) cap) (m + 1) (rowG BkR.cells out ++ ([.int .u32 pp, .int .i64 ff, .int .i64 ll, .int .u32 hh, .int .u32 jj, .int .u32 bb, .int .u32 tt] : List Value)) ∧ InZ w9 gi tl ∧ Below w.heap.size wr w9 ∧ Blk w9 gn 32 #[.int .u32 s, .bool false, .int .i64 0, .int .u32 0, .int .u32 0, .int .u32 0, .slice (some ⟨g4, 0, none⟩) (m + 1) cap] ∧ w9.heap[w.heap.size]? = wr.heap[w.heap.size]? ∧ w9.heap[w.heap.size + 1]? = wr.heap[w.heap.size + 1]? :=
                            hC.ph.all (fun y hy => hL y (by
                              simp at hy
                              rcases hy with rfl | rfl | rfl | rfl <;> decide)) (fun k G W h => by
                              unfold StB at h
                              split at h
                              all_goals first | exact h.elim | simp)
                          have K19 : Blk w9 w.heap.size 25 _ := h14.trans K1
                          have K29 : Blk w9 (w.heap.size + 1) 32 _ := h24.trans K2
                          have BE := B.trans B4
                          clear hC hL hG g1 y3 y4 y5 hne
                          go_wp2_with fail
                          go_roundw
                          case rel => exact ⟨m + 1, _, _, by omega, by go_num, by rw [HTL.out]; exact I4, kn4, by rw [← hrow2.out]; exact own4, K19, K29, BE⟩
                          case measure => simp only [intOf]; omega
            · obtain rfl : k = n := by omega
              have hall : l.take k = l := by have := HLN.out; rw [← this]; exact List.take_length
              have hnil : l.drop k = [] := by have := HLN.out; rw [← this]; exact List.drop_length
              rw [hall] at own
              rw [hnil] at I
              have I0 : InZ wr gi [] := I
              have HE := Lib.hid (penZ_End gi wr I0)
              obtain ⟨a9, c9, e9, S9⟩ := SliceOf.of_rowG BkR.cells_len zBk own HLN.out
              injection e9 with e9 e8 e7
              subst e9 e7
              have SB : BkAt wr av k cv l := ⟨HLN.out, S9⟩
              have HC := Lib.hid (rep_Check s false 0 0 0 0 av k cv l true HZ.out wr SB (by omega))
              have c3 := Kn.cell
              simp at c3
              clear hall hnil I S9 hlt
              go_wp2_with fail
              refine HE.out.mono ?_
              rintro e w' ⟨rfl, rfl⟩
              go_wp2_with fail
              refine HC.out.mono ?_
              rintro e wc ⟨rfl, hbc⟩
              have Knc := Kn.below hbc Kn.lt
              have K2c := K2.below hbc K2.lt
              have SBc := SB.below hbc
              have Bc := below_then B hbc (Nat.le_refl _)
              have ownc := own_lasts own hbc
              have no2 := own_ne_blk ownc K2c (by decide)
              clear hbc c3 HE HC
              have c3 := Knc.cell
              have c2 := K2c.cell
              have f2 := K2c.frozen
              simp at c3 c2
              obtain ⟨wS, eS, KS, BS, hkS⟩ := seven_set_ K2c (.int .u32 s) (.bool false) (.int .i64 0) (.int .u32 0) (.int .u32 0) (.int .u32 0) (.slice av k cv) w.heap.size (by omega)
              have cS := KS.cell
              simp at cS
              have ownS := own_at ownc (w' := wS) (fun j hj => hkS j (fun e => no2 (by rw [hj, e])))
              obtain ⟨a9, c9, e9, S9⟩ := SliceOf.of_rowG BkR.cells_len zBk ownS HLN.out
              injection e9 with e9 e8 e7
              subst e9 e7
              have SS : BkAt wS av k cv l := ⟨HLN.out, S9⟩
              have BE := Bc.trans BS
              go_wp2_with fail
              refine bodyPost_ret (v := .tuple #[.agg #[.int .u32 s, .bool false, .int .i64 0, .int .u32 0, .int .u32 0, .int .u32 0, .slice av k cv], .int .i64 0]) ?_ rfl ⟨av, cv, rfl, SS, BE⟩
              simp [results, Try.results9, go_sem, cS]
end Go.Proofs.Ytolgdcchnmbmnaa
