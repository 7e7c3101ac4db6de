/- Package history: Again. No condition but that the history stands, by rising numbers. -/
import Derived.Test.YtonamlgipoannaaHist5
namespace Go.Proofs.Ytonamlgipoannaa
open Go.RowKit BigFrame
attribute [local go_sem ↓] Go.wp_at_zero Go.wp_at_succ

theorem rowR_set (l : List HR) (p j : Nat) (r r' : HR) (u : Value) (h : l[p]? = some r) (hj : j < 4) (hu : r.cells.set j u = r'.cells) : (rowR l).set (p * 4 + j) u = rowR (l.set p r') := by
  have hp := (List.getElem?_eq_some_iff.1 h)
  have e : l = l.take p ++ (r :: l.drop (p + 1)) := by
    rw [← hp.2]
    exact (List.take_append_drop p l).symm.trans (by rw [List.drop_eq_getElem_cons hp.1])
  have hl : (l.take p).length = p := by have := hp.1; rw [List.length_take]; omega
  have e1 : rowR l = rowR (l.take p) ++ (r.cells ++ rowR (l.drop (p + 1))) := by
    conv => lhs; rw [e]
    rw [rowR_append]; rfl
  have e2 : l.set p r' = l.take p ++ (r' :: l.drop (p + 1)) := by rw [List.set_eq_take_append_cons_drop, if_pos hp.1]
  have e3 : rowR (l.set p r') = rowR (l.take p) ++ (r'.cells ++ rowR (l.drop (p + 1))) := by rw [e2, rowR_append]; rfl
  have hrl : (rowR (l.take p)).length = p * 4 := by rw [rowR_len, hl]
  rw [e1, e3, List.set_append_right _ _ (by omega), hrl, List.set_append_left _ _ (by simp [HR.cells]; omega)]
  have e4 : p * 4 + j - p * 4 = j := by omega
  rw [e4, hu]
theorem HV.setCellR {w : World} {g g' n vc p j : Nat} {a b c : Int} {l : List HR} {r r' : HR} {u : Value} (h : HV w g a b c l (.slice (some ⟨g', 0, none⟩) n vc)) (hn : l.length = n) (hp : l[p]? = some r) (hj : j < 4) (hu : r.cells.set j u = r'.cells) (o : Nat) (ho : o = p * 4 + j) :
    HV (w.setCell ⟨g', o, none⟩ u) g a b c (l.set p r') (.slice (some ⟨g', 0, none⟩) n vc) ∧ Moved w (w.setCell ⟨g', o, none⟩ u) g (.slice (some ⟨g', 0, none⟩) n vc) (.slice (some ⟨g', 0, none⟩) n vc) := by
  subst ho
  have gne : g ≠ g' := fun e => h.ne (by rw [e]; rfl)
  have own := h.own
  rw [hn] at own
  have st := (World.ownsRow.stored own (p * 4 + j) u).1
  rw [rowR_set l p j r r' u hp hj hu] at st
  refine ⟨⟨(Below.heap_setCell _ ⟨g', p * 4 + j, none⟩ _ g gne).trans h.blk, by rw [List.length_set, hn]; exact st, h.ne⟩, ⟨(Below.refl _ w).setCell (Nat.zero_le _) _, fun k _ _ h2 => Below.heap_setCell _ ⟨g', p * 4 + j, none⟩ _ k (fun e => h2 (by rw [e]; rfl)), fun k hk => .inl hk⟩⟩
theorem HV.setAgain {w : World} {g : Nat} {a b c c' : Int} {l : List HR} {v : Value} (h : HV w g a b c l v) : HV (w.setCell ⟨g, 2, none⟩ (.int .i64 c')) g a b c' l v ∧ Moved w (w.setCell ⟨g, 2, none⟩ (.int .i64 c')) g v v := by
  have k := h.blk.set_ 2 (.int .i64 c')
  simp at k
  exact ⟨⟨k, own_at h.own (fun j hj => Below.heap_setCell _ ⟨g, 2, none⟩ _ j (fun e => h.ne (by rw [hj, e]))), h.ne⟩, ⟨(Below.refl _ w).setCell (Nat.zero_le _) _, fun k _ h1 _ => Below.heap_setCell _ ⟨g, 2, none⟩ _ k h1, fun k hk => .inl hk⟩⟩
theorem HV.far {w w' : World} {g z : Nat} {a b c : Int} {l : List HR} {v : Value} (h : HV w g a b c l v) (hk : ∀ k, k ≠ z → w'.heap[k]? = w.heap[k]?) (hg : g ≠ z) (hv : v.ownBlock ≠ some z) : HV w' g a b c l v :=
  ⟨(hk g hg).trans h.blk, own_at h.own (fun j hj => hk j (fun e => hv (by rw [hj, e]))), h.ne⟩

set_option maxRecDepth 8000 in
set_option maxHeartbeats 4000000 in
theorem hist_AgainNo (g : Nat) (a b c : Int) (l : List HR) (v : Value) (s pa : Int) (w : World) (h : HV w g a b c l v) (hr : Rising l) (hl : l.length ≤ 100000) (hno : ∀ r, getR l s = some r → b ≤ r.tries) :
    Calls Try.prog 16 #[.pointer (some ⟨g, 0, none⟩), .int .i64 s, .int .i64 pa] w fun e w' => e = .returned (.tuple #[hrZero.val, .bool false]) ∧ Below w.heap.size w w' := by
  have B1 : Below w.heap.size w (w.alloc (.cells #[.int .i64 0, .int .i64 0, .int .i64 0, .string ⟨#[]⟩] 33)) := (Below.refl _ w).alloc (Nat.le_refl _) _
  have K1 := Blk.new w 33 #[.int .i64 0, .int .i64 0, .int .i64 0, .string ⟨#[]⟩]
  have HNO := Lib.hid hno
  clear hno
  go_enter Try.func16, Try.ntmps16
  go_upto_region 1 with fail
  generalize w.alloc (.cells #[.int .i64 0, .int .i64 0, .int .i64 0, .string ⟨#[]⟩] 33) = w1 at *
  have h1 := h.below B1
  have s1 := B1.size
  go_wp2_with fail
  refine (hist_at g a b c l v s w1 h1 hr hl).mono ?_
  rintro e w2 ⟨p, fd, rfl, hf, hp, B2⟩
  have h2 := h1.below B2
  have BB := below_then B1 B2 (Nat.le_refl _)
  have K2 := K1.below B2 K1.lt
  cases fd with
  | false =>
    have HP := Lib.hid hp
    clear h hf hp h1 K1
    go_upto_region 2 with fail
    refine wp_region_ext (by kernel_rfl) (by kernel_rfl) ?_; (repeat (go_big_quiet_step (fail))); refine wpQuiet_nil ?_; rintro _ ⟨gq, rfl⟩
    have BX := gq.below
    generalize gq.world = w3 at *
    have BB3 := below_then BB BX (Nat.le_refl _)
    have K3 := K2.below BX K2.lt
    obtain ⟨w5, e5, K5, B5, hk5⟩ := four_set K3 rfl (.int .i64 0) (.int .i64 0) (.int .i64 0) (.string ⟨#[]⟩) w.heap.size (Nat.le_refl _)
    have c2 := K3.cell
    have f2 := K3.frozen
    have c5 := K5.cell
    simp at c2 c5
    clear K2
    go_wp2_with fail
    refine bodyPost_ret (v := .tuple #[hrZero.val, .bool false]) ?_ rfl ⟨rfl, BB3.trans B5⟩
    simp [results, Try.results16, go_sem, c5, HR.val, hrZero]
    try rfl
  | true =>
    obtain ⟨r, hrp, hrs⟩ := foundR_some hf
    have hb := HNO.out r (getR_some hr hrp hrs)
    have hpl : p < l.length := (List.getElem?_eq_some_iff.1 hrp).1
    obtain ⟨va, vc, rfl, hc⟩ := own_rec h2.own
    obtain ⟨g', rfl, hg, hcell⟩ := hc (by omega)
    obtain ⟨e0, e1, e2, e3⟩ := hcell p r hrp
    have E1 := fun (gx : Ext w2) => gx.cell (h2.blk.cell 1) h2.blk.lt
    have E3 := fun (gx : Ext w2) => gx.cell (h2.blk.cell 3) h2.blk.lt
    have ER := fun (gx : Ext w2) => gx.cell e1 hg
    simp at E1 E3
    obtain ⟨n, hn⟩ : ∃ n, l.length = n := ⟨_, rfl⟩
    rw [hn] at hpl E3
    have p0 : (0 : Int) ≤ (p : Int) := by omega
    have p1 : (p : Int) < (n : Int) := by omega
    clear h hf hp h1 hc hcell hn hrp hrs K1 e0 e1 e2 e3
    go_upto_region 2 with fail
    refine wp_region_ext (by kernel_rfl) (by kernel_rfl) ?_; (repeat (go_big_quiet_step (fail))); refine wpQuiet_nil ?_; rintro _ ⟨gq, rfl⟩
    have BX := gq.below
    generalize gq.world = w3 at *
    have BB3 := below_then BB BX (Nat.le_refl _)
    have K3 := K2.below BX K2.lt
    obtain ⟨w5, e5, K5, B5, hk5⟩ := four_set K3 rfl (.int .i64 0) (.int .i64 0) (.int .i64 0) (.string ⟨#[]⟩) w.heap.size (Nat.le_refl _)
    have c2 := K3.cell
    have f2 := K3.frozen
    have c5 := K5.cell
    simp at c2 c5
    clear K2 E1 E3 ER
    go_wp2_with fail
    refine bodyPost_ret (v := .tuple #[hrZero.val, .bool false]) ?_ rfl ⟨rfl, BB3.trans B5⟩
    simp [results, Try.results16, go_sem, c5, HR.val, hrZero]
    try rfl
/-- A record sent once more. -/
def HR.again (r : HR) (pa : Int) : HR := ⟨r.seq, r.tries + 1, pa, r.data⟩
set_option maxRecDepth 8000 in
set_option maxHeartbeats 8000000 in
theorem hist_AgainYes (g : Nat) (a b c : Int) (l : List HR) (v : Value) (s pa : Int) (w : World) (h : HV w g a b c l v) (hr : Rising l) (hl : l.length ≤ 100000) (p : Nat) (r : HR) (hrp : l[p]? = some r) (hrs : r.seq = s) (hrt : r.tries < b) (hb : b ≤ 100) (ht : 0 ≤ r.tries) (c0 : 0 ≤ c) (c1 : c ≤ 1000000000000) :
    Calls Try.prog 16 #[.pointer (some ⟨g, 0, none⟩), .int .i64 s, .int .i64 pa] w fun e w' => e = .returned (.tuple #[(r.again pa).val, .bool true]) ∧ HV w' g a b (c + 1) (l.set p (r.again pa)) v ∧ Moved w w' g v v := by
  have B1 : Below w.heap.size w (w.alloc (.cells #[.int .i64 0, .int .i64 0, .int .i64 0, .string ⟨#[]⟩] 33)) := (Below.refl _ w).alloc (Nat.le_refl _) _
  have K1 := Blk.new w 33 #[.int .i64 0, .int .i64 0, .int .i64 0, .string ⟨#[]⟩]
  have HLT := h.blk.lt
  have hvl := fun k (e : v.ownBlock = some k) => (h.own.lt k e).2
  have HRP := Lib.hid hrp
  have HRS := Lib.hid hrs
  clear hrp hrs
  go_enter Try.func16, Try.ntmps16
  go_upto_region 1 with fail
  generalize w.alloc (.cells #[.int .i64 0, .int .i64 0, .int .i64 0, .string ⟨#[]⟩] 33) = w1 at *
  have h1 := h.below B1
  have s1 := B1.size
  go_wp2_with fail
  refine (hist_at g a b c l v s w1 h1 hr hl).mono ?_
  rintro e w2 ⟨p', fd, rfl, hf, hp, B2⟩
  have h2 := h1.below B2
  have BB := below_then B1 B2 (Nat.le_refl _)
  have K2 := K1.below B2 K1.lt
  obtain ⟨rfl, rfl⟩ : fd = true ∧ p' = p := by
    have hrp := HRP.out
    have hrs := HRS.out
    have e1 : p' = p := by
      rcases Nat.lt_trichotomy p p' with h3 | h3 | h3
      · have := hp.lo p r hrp h3; omega
      · exact h3.symm
      · have hpl : p' < l.length := by have := (List.getElem?_eq_some_iff.1 hrp).1; omega
        have h4 := hp.hi p' _ (List.getElem?_eq_getElem hpl) (Nat.le_refl _)
        have h5 := hr p' p _ r h3 (List.getElem?_eq_getElem hpl) hrp
        omega
    subst e1
    refine ⟨?_, rfl⟩
    rw [← hf]
    unfold foundR
    rw [hrp]
    simp [hrs]
  have hpl : p' < l.length := (List.getElem?_eq_some_iff.1 HRP.out).1
  obtain ⟨va, vc, rfl, hc⟩ := own_rec h2.own
  obtain ⟨g', rfl, hg, hcell⟩ := hc (by omega)
  obtain ⟨e0, e1, e2, e3⟩ := hcell p' r HRP.out
  have E1 := fun (gx : Ext w2) => gx.cell (h2.blk.cell 1) h2.blk.lt
  have E3 := fun (gx : Ext w2) => gx.cell (h2.blk.cell 3) h2.blk.lt
  have ER := fun (gx : Ext w2) => gx.cell e1 hg
  simp at E1 E3
  obtain ⟨n, hn⟩ : ∃ n, l.length = n := ⟨_, rfl⟩
  have HN := Lib.hid hn
  rw [hn] at hpl E3 h2 hvl
  have g'l : g' < w.heap.size := hvl g' rfl
  have p0 : (0 : Int) ≤ (p' : Int) := by omega
  have p1 : (p' : Int) < (n : Int) := by omega
  have p2 : ¬ b ≤ r.tries := by omega
  have wc : IntKind.i64.wrap (c + 1) = c + 1 := IntWalk.i64_in _ (by omega)
  have wt : IntKind.i64.wrap (r.tries + 1) = r.tries + 1 := IntWalk.i64_in _ (by omega)
  have gne : g' ≠ g := fun e => h2.ne (by rw [e]; rfl)
  clear h hf hp h1 hc hcell hn K1 e0 e1 e2 e3
  go_upto_region 2 with fail
  refine wp_region_ext (by kernel_rfl) (by kernel_rfl) ?_; (repeat (go_big_quiet_step (fail))); refine wpQuiet_nil ?_; rintro _ ⟨gq, rfl⟩
  have BX := gq.below
  generalize gq.world = w3 at *
  have BB3 := below_then BB BX (Nat.le_refl _)
  have K3 := K2.below BX K2.lt
  have h3 := h2.below BX
  clear K2 E1 E3 ER h2
  have c3 := h3.blk.cell
  have f3 := h3.blk.frozen
  simp at c3
  go_upto_region 5 with fail
  obtain ⟨h4, M4⟩ := h3.setAgain (c' := c + 1)
  have K4 : Blk (w3.setCell ⟨g, 2, none⟩ (.int .i64 (c + 1))) w.heap.size 33 _ := K3.far (p := ⟨g, 2, none⟩) (by simp; omega) _
  generalize w3.setCell ⟨g, 2, none⟩ (.int .i64 (c + 1)) = w4 at *
  clear c3 f3 h3 K3
  have c4 := h4.blk.cell
  have f4 := h4.blk.frozen
  simp at c4
  have own4 := h4.own
  rw [HN.out] at own4
  have r4 := World.ownsRow.cellAt own4 (p' * 4 + 1) (by omega)
  rw [rowR_get l p' r HRP.out 1 (by omega)] at r4
  have rf4 := fun j => World.ownsRow.frozenAt own4 j
  simp [HR.cells] at r4
  clear own4
  go_upto_region 6 with fail
  obtain ⟨h5, M5⟩ := h4.setCellR (p := p') (j := 1) (r := r) (r' := ⟨r.seq, r.tries + 1, r.path, r.data⟩) (u := .int .i64 (r.tries + 1)) HN.out HRP.out (by omega) rfl _ rfl
  have K5 : Blk (w4.setCell ⟨g', p' * 4 + 1, none⟩ (.int .i64 (r.tries + 1))) w.heap.size 33 _ := K4.far (p := ⟨g', p' * 4 + 1, none⟩) (by simp; omega) _
  generalize w4.setCell ⟨g', p' * 4 + 1, none⟩ (.int .i64 (r.tries + 1)) = w5 at *
  have M45 := M4.trans M5
  have HQ1 := Lib.hid (show (l.set p' ⟨r.seq, r.tries + 1, r.path, r.data⟩)[p']? = some ⟨r.seq, r.tries + 1, r.path, r.data⟩ by rw [List.getElem?_set_self (by rw [HN.out]; exact hpl)])
  clear c4 f4 h4 r4 rf4 K4 M4 M5
  have c5 := h5.blk.cell
  simp at c5
  have own5 := h5.own
  rw [List.length_set, HN.out] at own5
  have r5 := World.ownsRow.cellAt own5 (p' * 4 + 2) (by omega)
  rw [rowR_get _ p' _ HQ1.out 2 (by omega)] at r5
  have rf5 := fun j => World.ownsRow.frozenAt own5 j
  simp [HR.cells] at r5
  clear own5
  go_upto_region 7 with fail
  obtain ⟨h6, M6⟩ := h5.setCellR (p := p') (j := 2) (r' := r.again pa) (u := .int .i64 pa) (by rw [List.length_set]; exact HN.out) HQ1.out (by omega) rfl _ rfl
  rw [List.set_set] at h6
  have K6 : Blk (w5.setCell ⟨g', p' * 4 + 2, none⟩ (.int .i64 pa)) w.heap.size 33 _ := K5.far (p := ⟨g', p' * 4 + 2, none⟩) (by simp; omega) _
  generalize w5.setCell ⟨g', p' * 4 + 2, none⟩ (.int .i64 pa) = w6 at *
  have M46 := M45.trans M6
  have HQ2 := Lib.hid (show (l.set p' (r.again pa))[p']? = some (r.again pa) by rw [List.getElem?_set_self (by rw [HN.out]; exact hpl)])
  clear c5 h5 r5 rf5 K5 M45 M6
  have c6 := h6.blk.cell
  simp at c6
  have own6 := h6.own
  rw [List.length_set, HN.out] at own6
  have r6 := fun j (hj : j < 4) => (World.ownsRow.cellAt own6 (p' * 4 + j) (by omega)).trans (rowR_get _ p' _ HQ2.out j hj)
  have r60 := r6 0 (by omega)
  have r61 := r6 1 (by omega)
  have r62 := r6 2 (by omega)
  have r63 := r6 3 (by omega)
  simp [HR.cells, HR.again] at r60 r61 r62 r63
  obtain ⟨w7, e7, K7, B7, hk7⟩ := four_set K6 rfl (.int .i64 r.seq) (.int .i64 (r.tries + 1)) (.int .i64 pa) (.string r.data) w.heap.size (Nat.le_refl _)
  have d6 := K6.cell
  have f6 := K6.frozen
  have c7 := K7.cell
  simp at d6 c7
  clear own6 r6
  have h7 : HV w7 g a b (c + 1) (l.set p' (r.again pa)) (.slice (some ⟨g', 0, none⟩) n vc) := h6.far hk7 (by omega) (fun e => by have := hvl _ e; omega)
  have M7 : Moved w w7 g (.slice (some ⟨g', 0, none⟩) n vc) (.slice (some ⟨g', 0, none⟩) n vc) := by
    have h1 := (Moved.of_below (g := g) (v := .slice (some ⟨g', 0, none⟩) n vc) BB3).trans M46
    exact ⟨h1.below.trans (B7.mono (Nat.zero_le _)), fun k q1 q2 q3 => (B7.block k q1).trans (h1.keep k q1 q2 q3), h1.row⟩
  go_wp2_with fail
  refine bodyPost_ret (v := .tuple #[(r.again pa).val, .bool true]) ?_ rfl ⟨rfl, by rw [HN.out]; exact h7, by rw [HN.out]; exact M7⟩
  simp [results, Try.results16, go_sem, c7, HR.val, HR.again]
  try rfl
end Go.Proofs.Ytonamlgipoannaa
