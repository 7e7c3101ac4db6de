/- Package history: Put. No condition but that the history stands. -/
import Derived.Test.YtonamlgipoannaaHist4
namespace Go.Proofs.Ytonamlgipoannaa
open Go.RowKit BigFrame
attribute [local go_sem ↓] Go.wp_at_zero Go.wp_at_succ

/-- The last one's number is less, if there is one. -/
def lastOk (l : List HR) (s : Int) : Prop := ∀ r, l[l.length - 1]? = some r → 0 < l.length → r.seq < s
set_option maxRecDepth 8000 in
set_option maxHeartbeats 4000000 in
theorem hist_PutNo (g : Nat) (a b c : Int) (l : List HR) (v : Value) (s pa : Int) (data : ByteArray) (w : World) (h : HV w g a b c l v) (hl : l.length ≤ 100000) (r : HR) (hlast : l[l.length - 1]? = some r) (hs : s ≤ r.seq) :
    Calls Try.prog 15 #[.pointer (some ⟨g, 0, none⟩), .int .i64 s, .int .i64 pa, .string data] w fun e w' => e = .returned (.bool false) ∧ Below w.heap.size w w' := by
  have hp := (List.getElem?_eq_some_iff.1 hlast).1
  obtain ⟨va, vc, rfl, hc⟩ := own_rec h.own
  obtain ⟨g', rfl, hg, hcell⟩ := hc (by omega)
  obtain ⟨e0, -⟩ := hcell _ r hlast
  have ch := h.blk.cell
  simp at ch
  obtain ⟨n, hn⟩ : ∃ n, l.length = n := ⟨_, rfl⟩
  rw [hn] at hp ch e0 hl
  obtain ⟨q, hq⟩ : ∃ q, n - 1 = q := ⟨_, rfl⟩
  rw [hq] at e0 hp
  have wn : IntKind.i64.wrap ((n : Int) - 1) = (q : Int) := by rw [IntWalk.i64_in _ (by omega)]; omega
  have p0 : (0 : Int) ≤ (q : Int) := by omega
  have p1 : (q : Int) < (n : Int) := by omega
  have p2 : (0 : Int) < (n : Int) := by omega
  have p3 : 0 < n := by omega
  clear h hc hcell hn hq hlast
  go_enter Try.func15, Try.ntmps15
  go_wp2_with fail
  go_ret
  exact ⟨rfl, Below.refl _ _⟩
theorem HV.pushed {w6 w8 : World} {g g2 cap n1 : Nat} {a b c : Int} {l1 : List HR} {v2 : Value} {r : HR} {cs : Array Value} {t : TypeId} (H6 : HV w6 g a b c l1 v2) (hn : l1.length = n1) (own8 : w8.ownsRow 0 33 4 (.slice (some ⟨g2, 0, none⟩) (n1 + 1) cap) (n1 + 1) (rowR l1 ++ r.cells))
    (hgrow : (w6.alloc (.cells cs t)).grownBy w8 v2.ownBlock) (hat : v2.ownBlock = some g2 ∨ g2 = (w6.alloc (.cells cs t)).heap.size) :
    HV (w8.setCell ⟨g, 3, none⟩ (.slice (some ⟨g2, 0, none⟩) (n1 + 1) cap)) g a b c (l1 ++ [r]) (.slice (some ⟨g2, 0, none⟩) (n1 + 1) cap) ∧ Moved w6 (w8.setCell ⟨g, 3, none⟩ (.slice (some ⟨g2, 0, none⟩) (n1 + 1) cap)) g v2 (.slice (some ⟨g2, 0, none⟩) (n1 + 1) cap) := by
  have B : Below 0 w6 (w6.alloc (.cells cs t)) := (Below.refl _ w6).alloc (Nat.zero_le _) _
  have B' : Below w6.heap.size w6 (w6.alloc (.cells cs t)) := (Below.refl _ w6).alloc (Nat.le_refl _) _
  refine H6.store (B.grown hgrow (Nat.zero_le _) (fun j _ => Nat.zero_le _)) (fun k hk hne => (hgrow.block k (by simp; omega) (fun e => hne e.symm)).trans (B'.block k hk)) ?_ (fun k hk => ?_)
  · rw [rowR_append, List.length_append, hn]
    have e : rowR [r] = r.cells := by simp [rowR]
    rw [e]
    exact own8
  · injection hk with hk
    subst hk
    rcases hat with h | h
    · exact .inl h
    · right
      show w6.heap.size ≤ g2
      simp at h
      omega
/-- A row parted behind its first records. -/
theorem rowR_split (l : List HR) (k : Nat) : rowR l = rowR (l.take k) ++ rowR (l.drop k) := by rw [← rowR_append, List.take_append_drop]
set_option maxRecDepth 8000 in
set_option maxHeartbeats 4000000 in
theorem hist_PutYes (g : Nat) (a b c : Int) (l l1 : List HR) (v : Value) (s pa : Int) (data : ByteArray) (w : World) (h : HV w g a b c l v) (ha : 1 ≤ a) (hla : (l.length : Int) ≤ a) (hl : l.length ≤ 100000) (hlast : lastOk l s) (hl1 : (if (l.length : Int) = a then l.drop 1 else l) = l1) :
    Calls Try.prog 15 #[.pointer (some ⟨g, 0, none⟩), .int .i64 s, .int .i64 pa, .string data] w fun e w' => e = .returned (.bool true) ∧ ∃ v', HV w' g a b c (l1 ++ [⟨s, 0, pa, data⟩]) v' ∧ Moved w w' g v v' := by
  obtain ⟨i0, hi0, hz0, hz1, hz2⟩ := info_rec
  have H0 := h
  obtain ⟨va, vc, rfl, hc⟩ := own_rec h.own
  have ch := h.blk.cell
  simp at ch
  obtain ⟨n, hn⟩ : ∃ n, l.length = n := ⟨_, rfl⟩
  have HN := Lib.hid hn
  rw [hn] at hla hl ch hl1 H0 ⊢
  have HL1 := Lib.hid hl1
  -- the last record's cell
  have hlc : n = 0 ∨ (0 < n ∧ ∃ (g' q : Nat) (r : HR), va = some ⟨g', 0, none⟩ ∧ g' < w.heap.size ∧ w.cell? ⟨g', q * 4, none⟩ = some (.int .i64 r.seq) ∧ q + 1 = n ∧ r.seq < s) := by
    rcases Nat.eq_zero_or_pos n with h0 | h0
    · exact .inl h0
    · right
      obtain ⟨g', e, hg, hcell⟩ := hc (by omega)
      have hq : n - 1 < l.length := by omega
      have hr : l[n - 1]? = some l[n - 1] := List.getElem?_eq_getElem hq
      exact ⟨h0, g', n - 1, l[n - 1], e, hg, (hcell _ _ hr).1, by omega, hlast _ (by rw [hn]; exact hr) (by omega)⟩
  clear h hc hn hl1 hlast
  have E0 := fun (gx : Ext w) => gx.cell (H0.blk.cell 0) H0.blk.lt
  have E3 := fun (gx : Ext w) => gx.cell (H0.blk.cell 3) H0.blk.lt
  simp at E0 E3
  by_cases hfull : (n : Int) = a
  · have hl1 : l.drop 1 = l1 := by have := HL1.out; rw [if_pos hfull] at this; exact this
    have HL1' := Lib.hid hl1
    obtain ⟨n1, hn1⟩ : ∃ n1, n - 1 = n1 := ⟨_, rfl⟩
    have hn1b : n1 ≤ 100000 := by omega
    rcases hlc with h0 | ⟨h0, g', q, r, rfl, hg', hcq, hqn, hrs⟩
    · omega
    have HD := Lib.hid (show ∀ W, Below w.heap.size w W → Calls Try.prog 41 #[.slice (some ⟨g', 0, none⟩) n vc, .int .i64 0, .int .i64 1] W fun e w' => e = .returned (.slice (some ⟨g', 0, none⟩) n1 vc) ∧ w'.ownsRow 0 33 4 (.slice (some ⟨g', 0, none⟩) n1 vc) n1 (rowR l1) ∧ (∀ k, k ≠ g' → w'.heap[k]? = W.heap[k]?) ∧ Below 0 W w' from fun W hb => by
      have ow := own_at H0.own (w' := W) (fun j hj => hb.block j (H0.own.lt j hj).2)
      rw [rowR_split l 1, HN.out, HL1'.out] at ow
      have := rec_Delete 0 g' n n1 1 vc (rowR (l.take 1)) (rowR l1) W ow (rowR_one _) (by rw [rowR_len, List.length_take, HN.out]; omega) (by rw [rowR_len, ← HL1'.out, List.length_drop, HN.out]; omega) (by omega) (by omega) (by omega)
      exact this)
    have HLN := Lib.hid (show l1.length = n1 by rw [← HL1'.out, List.length_drop, HN.out]; exact hn1)
    have wn : IntKind.i64.wrap ((n : Int) - 1) = (q : Int) := by rw [IntWalk.i64_in _ (by omega)]; omega
    have p0 : (0 : Int) ≤ (q : Int) := by omega
    have p1 : (q : Int) < (n : Int) := by omega
    have p2 : (0 : Int) < (n : Int) := by omega
    have p3 : 0 < n := by omega
    have p4 : ((n : Int) == a) = true := by simp [hfull]
    have p5 : ¬ s ≤ r.seq := by omega
    have gne : g' ≠ g := fun e => H0.ne (by rw [e]; rfl)
    have hgl := H0.blk.lt
    have HFU := Lib.hid hfull
    clear hl1 hn1 hfull
    go_enter Try.func15, Try.ntmps15
    go_wp2_with fail
    go_upto_region 4 with fail
    refine wp_region_ext (by kernel_rfl) (by kernel_rfl) ?_; (repeat (go_big_quiet_step (fail))); refine wpQuiet_nil ?_; rintro _ ⟨gq, rfl⟩
    have BX := gq.below
    generalize gq.world = w4 at *
    have H4 := H0.below BX
    have c4 := H4.blk.cell
    simp at c4
    clear E0 E3 hcq
    go_wp2_with fail
    refine (HD.out w4 BX).mono ?_
    rintro e w5 ⟨rfl, own5, hk5, B5⟩
    obtain ⟨H6, M6⟩ := H4.store (l2 := l1) (v2 := .slice (some ⟨g', 0, none⟩) n1 vc) B5 (fun k hk hne => hk5 k (fun e => hne (by rw [e]; rfl))) (by rw [HLN.out]; exact own5) (fun k hk => .inl hk)
    have k5 : Blk w5 g 95 _ := (hk5 g gne.symm).trans H4.blk
    have c5 := k5.cell
    have f5 := k5.frozen
    simp at c5
    clear c4
    go_upto_region 6 with fail
    generalize w5.setCell ⟨g, 3, none⟩ (.slice (some ⟨g', 0, none⟩) n1 vc) = w6 at *
    clear c5 f5 k5 own5 hk5 B5
    have MM : Moved w w6 g (.slice (some ⟨g', 0, none⟩) n vc) (.slice (some ⟨g', 0, none⟩) n1 vc) := (Moved.of_below BX).trans M6
    have own6 := H6.own
    rw [HLN.out] at own6
    have own7 := own_at own6 (w' := w6.alloc (.cells #[.int .i64 s, .int .i64 0, .int .i64 pa, .string data] 33)) (fun j hj => ((Below.refl _ w6).alloc (Nat.le_refl _) _).block j (own6.lt j hj).2)
    have kb := Blk.new w6 33 #[.int .i64 s, .int .i64 0, .int .i64 pa, .string data]
    have hnew := World.news_of_block kb
    have k7 := H6.blk.alloc (.cells #[.int .i64 s, .int .i64 0, .int .i64 pa, .string data] 33)
    have c6 := H6.blk.cell
    have n6 := H6.ne
    simp at c6
    go_wp2_with (at_builtin; refine wpList_append_lies _ rfl _ _ 93 rfl 0 33 i0 (.agg zRec) 4 40 Try.underlying93 hi0 hz0 hz1 hz2 rfl (by decide) _ _ _ rfl own7 ⟨w6.heap.size, 0, none⟩ 1 1 [.int .i64 s, .int .i64 0, .int .i64 pa, .string data] rfl rfl hnew (by simp [Value.oneCell']) (by omega) (by rw [maxLen_eq]; omega) (by omega) (Nat.zero_le _) _ rfl ?_; intro g2 cap w8 own8 hgrow hat hlt8; have k8 : Blk w8 g 95 _ := Eq.trans (hgrow.block g k7.lt (Ne.symm n6)) k7; have c8 := k8.cell; have f8 := k8.frozen; simp at c8)
    go_ret
    obtain ⟨P1, P2⟩ := H6.pushed (r := ⟨s, 0, pa, data⟩) HLN.out own8 hgrow hat
    exact ⟨rfl, _, P1, MM.trans P2⟩
  · have hl1 : l = l1 := by have := HL1.out; rw [if_neg hfull] at this; exact this
    have HLN := Lib.hid (show l1.length = n by rw [← hl1]; exact HN.out)
    have H0' : HV w g a b c l1 (.slice va n vc) := by rw [← hl1]; exact H0
    have p4 : ((n : Int) == a) = false := by simp [hfull]
    have hgl := H0.blk.lt
    clear hl1
    rcases hlc with h0 | ⟨h0, g', q, r, rfl, hg', hcq, hqn, hrs⟩
    · have p2 : ¬ (0 : Int) < (n : Int) := by omega
      have p3 : ¬ 0 < n := by omega
      have p5 : ¬ (n : Int) = a := hfull
      have HH0 := Lib.hid h0
      clear h0
      go_enter Try.func15, Try.ntmps15
      go_wp2_with fail
      go_upto_region 4 with fail
      refine wp_region_ext (by kernel_rfl) (by kernel_rfl) ?_; (repeat (go_big_quiet_step (fail))); refine wpQuiet_nil ?_; rintro _ ⟨gq, rfl⟩
      have BX := gq.below
      generalize gq.world = w6 at *
      have H6 := H0'.below BX
      clear E0 E3
      go_upto_region 6 with fail
      have own6 := H6.own
      rw [HLN.out] at own6
      have own7 := own_at own6 (w' := w6.alloc (.cells #[.int .i64 s, .int .i64 0, .int .i64 pa, .string data] 33)) (fun j hj => ((Below.refl _ w6).alloc (Nat.le_refl _) _).block j (own6.lt j hj).2)
      have kb := Blk.new w6 33 #[.int .i64 s, .int .i64 0, .int .i64 pa, .string data]
      have hnew := World.news_of_block kb
      have k7 := H6.blk.alloc (.cells #[.int .i64 s, .int .i64 0, .int .i64 pa, .string data] 33)
      have c6 := H6.blk.cell
      have n6 := H6.ne
      simp at c6
      go_wp2_with (at_builtin; refine wpList_append_lies _ rfl _ _ 93 rfl 0 33 i0 (.agg zRec) 4 40 Try.underlying93 hi0 hz0 hz1 hz2 rfl (by decide) _ _ _ rfl own7 ⟨w6.heap.size, 0, none⟩ 1 1 [.int .i64 s, .int .i64 0, .int .i64 pa, .string data] rfl rfl hnew (by simp [Value.oneCell']) (by omega) (by rw [maxLen_eq]; omega) (by omega) (Nat.zero_le _) _ rfl ?_; intro g2 cap w8 own8 hgrow hat hlt8; have k8 : Blk w8 g 95 _ := Eq.trans (hgrow.block g k7.lt (Ne.symm n6)) k7; have c8 := k8.cell; have f8 := k8.frozen; simp at c8)
      go_ret
      obtain ⟨P1, P2⟩ := H6.pushed (r := ⟨s, 0, pa, data⟩) HLN.out own8 hgrow hat
      exact ⟨rfl, _, P1, (Moved.of_below BX).trans P2⟩
    · have wn : IntKind.i64.wrap ((n : Int) - 1) = (q : Int) := by rw [IntWalk.i64_in _ (by omega)]; omega
      have p0 : (0 : Int) ≤ (q : Int) := by omega
      have p1 : (q : Int) < (n : Int) := by omega
      have p2 : (0 : Int) < (n : Int) := by omega
      have p3 : 0 < n := by omega
      have p5 : ¬ s ≤ r.seq := by omega
      go_enter Try.func15, Try.ntmps15
      go_wp2_with fail
      go_upto_region 4 with fail
      refine wp_region_ext (by kernel_rfl) (by kernel_rfl) ?_; (repeat (go_big_quiet_step (fail))); refine wpQuiet_nil ?_; rintro _ ⟨gq, rfl⟩
      have BX := gq.below
      generalize gq.world = w6 at *
      have H6 := H0'.below BX
      clear E0 E3 hcq
      go_upto_region 6 with fail
      have own6 := H6.own
      rw [HLN.out] at own6
      have own7 := own_at own6 (w' := w6.alloc (.cells #[.int .i64 s, .int .i64 0, .int .i64 pa, .string data] 33)) (fun j hj => ((Below.refl _ w6).alloc (Nat.le_refl _) _).block j (own6.lt j hj).2)
      have kb := Blk.new w6 33 #[.int .i64 s, .int .i64 0, .int .i64 pa, .string data]
      have hnew := World.news_of_block kb
      have k7 := H6.blk.alloc (.cells #[.int .i64 s, .int .i64 0, .int .i64 pa, .string data] 33)
      have c6 := H6.blk.cell
      have n6 := H6.ne
      simp at c6
      go_wp2_with (at_builtin; refine wpList_append_lies _ rfl _ _ 93 rfl 0 33 i0 (.agg zRec) 4 40 Try.underlying93 hi0 hz0 hz1 hz2 rfl (by decide) _ _ _ rfl own7 ⟨w6.heap.size, 0, none⟩ 1 1 [.int .i64 s, .int .i64 0, .int .i64 pa, .string data] rfl rfl hnew (by simp [Value.oneCell']) (by omega) (by rw [maxLen_eq]; omega) (by omega) (Nat.zero_le _) _ rfl ?_; intro g2 cap w8 own8 hgrow hat hlt8; have k8 : Blk w8 g 95 _ := Eq.trans (hgrow.block g k7.lt (Ne.symm n6)) k7; have c8 := k8.cell; have f8 := k8.frozen; simp at c8)
      go_ret
      obtain ⟨P1, P2⟩ := H6.pushed (r := ⟨s, 0, pa, data⟩) HLN.out own8 hgrow hat
      exact ⟨rfl, _, P1, (Moved.of_below BX).trans P2⟩
end Go.Proofs.Ytonamlgipoannaa
