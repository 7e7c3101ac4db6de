/- Queue.Push and Queue.Pop, with the row told: what they leave as it was. No condition but that the queue stands and the numbers' bounds. -/
import Derived.Test.YtomhnegfemdcdaaQueue5
namespace Go.Proofs.Ytomhnegfemdcdaa
open Go.RowKit BigFrame
attribute [local go_sem ↓] Go.wp_at_zero Go.wp_at_succ

/-- The queue at block g, its row told. -/
structure QV (W : World) (g : Nat) (most room : Int) (l : List ByteArray) (bytes : Int) (v : Value) : Prop where
  blk : Blk W g 76 #[.int .i64 most, .int .i64 room, v, .int .i64 bytes]
  own : W.ownsRow 0 49 1 v l.length (textCells l)
  ne : v.ownBlock ≠ some g
theorem QV.at {W : World} {g : Nat} {a b y : Int} {l : List ByteArray} {v : Value} (h : QV W g a b l y v) : QAt W 0 g a b l y := ⟨v, h.blk, h.own, h.ne, Nat.zero_le _⟩
theorem QV.below {w w' : World} {g : Nat} {a b y : Int} {l : List ByteArray} {v : Value} (h : QV w g a b l y v) (hb : Below w.heap.size w w') : QV w' g a b l y v :=
  ⟨h.blk.below hb h.blk.lt, own_at h.own (fun j hj => hb.block j (h.own.lt j hj).2), h.ne⟩
/-- Nothing is changed but block g and the row; the row is the old one or new. -/
structure Moved (w w' : World) (g : Nat) (v v' : Value) : Prop where
  below : Below 0 w w'
  keep : ∀ k, k < w.heap.size → k ≠ g → v.ownBlock ≠ some k → w'.heap[k]? = w.heap[k]?
  row : ∀ k, v'.ownBlock = some k → v.ownBlock = some k ∨ w.heap.size ≤ k
theorem Moved.of_below {w w' : World} {g : Nat} {v : Value} (h : Below w.heap.size w w') : Moved w w' g v v := ⟨h.mono (Nat.zero_le _), fun k hk _ _ => h.block k hk, fun _ h => .inl h⟩
theorem Moved.trans {w w1 w2 : World} {g : Nat} {v v1 v2 : Value} (h : Moved w w1 g v v1) (h2 : Moved w1 w2 g v1 v2) : Moved w w2 g v v2 := by
  have s1 := h.below.size
  refine ⟨h.below.trans h2.below, fun k hk h3 h4 => (h2.keep k (by omega) h3 (fun e => ?_)).trans (h.keep k hk h3 h4), fun k hk => ?_⟩
  · rcases h.row k e with h5 | h5
    · exact h4 h5
    · omega
  · rcases h2.row k hk with h5 | h5
    · exact h.row k h5
    · right; omega
theorem Moved.down {w w' : World} {g B : Nat} {v v' : Value} (h : Moved w w' g v v') (hB : B ≤ w.heap.size) (hg : B ≤ g) (hv : ∀ k, v.ownBlock = some k → B ≤ k) : Below B w w' :=
  ⟨h.below.os, h.below.tape, h.below.output, h.below.size, fun k hk => h.keep k (by omega) (by omega) (fun e => by have := hv k e; omega)⟩
theorem Moved.base {w w' : World} {g B : Nat} {v v' : Value} (h : Moved w w' g v v') (hB : B ≤ w.heap.size) (hv : ∀ k, v.ownBlock = some k → B ≤ k) : ∀ k, v'.ownBlock = some k → B ≤ k := fun k hk => by
  rcases h.row k hk with h5 | h5
  · exact hv k h5
  · omega

set_option maxHeartbeats 2000000 in
theorem queue_PushV (g : Nat) (a b y : Int) (l m : List ByteArray) (v : Value) (ad : Option Addr) (n c : Nat) (w : World) (h : QV w g a b l y v) (a0 : 0 ≤ a) (a1 : a ≤ 1073741824) (b0 : 0 ≤ b) (b1 : b ≤ 1073741824) (y0 : 0 ≤ y) (y1 : y ≤ 1073741824) (hl : l.length ≤ 100000) (hm : m.length = n) (n0 : 0 < n) (n1 : n ≤ 100000)
    (hS : SliceOf w ad n c 1 (fun i => [.string (m.getD i .empty)])) (hok : (n : Int) ≤ a - l.length ∧ sumQ m ≤ b - y) :
    Calls Try.prog 21 #[.pointer (some ⟨g, 0, none⟩), .slice ad n c] w fun e w' => e = .returned (.bool true) ∧ ∃ v', QV w' g a b (l ++ m) (y + sumQ m) v' ∧ Moved w w' g v v' := by
  obtain ⟨i0, hi0, hz0, hz1, hz2⟩ := info_parts (show (Try.prog.info? 49).map (fun i => (i.zero, i.size, i.bytes)) = some (some (.string ByteArray.empty), 1, 16) by kernel_rfl)
  have HZ := Lib.hid (fun W h => queue_sizes ad n c m hm (by omega) W h)
  obtain ⟨k, own, hne⟩ := h
  have hgw := k.lt
  obtain ⟨sb, so, rfl, hsb, hc⟩ := hS.at1 n0
  obtain ⟨s0, s1⟩ := sumQ_bd m
  rw [hm] at s1
  obtain ⟨s, hs⟩ : ∃ s, sumQ m = s := ⟨_, rfl⟩
  rw [hs] at s0 s1 hok HZ ⊢
  obtain ⟨o1, o2⟩ := hok
  have HS := Lib.hid hS
  have HM := Lib.hid hm
  have hlen : (textCells m).length = n * 1 := by unfold textCells; rw [List.length_map, hm, Nat.mul_one]
  have hnews : ∀ W : World, SliceOf W (some ⟨sb, so, none⟩) n c 1 (fun i => [.string (m.getD i .empty)]) → ∀ j u, (textCells m)[j]? = some u → W.cell? ((⟨sb, so, none⟩ : Addr).add j) = some u := by
    intro W hW j u hu
    obtain ⟨sb', so', he, hsb', hc'⟩ := hW.at1 n0
    injection he with he
    injection he with he1 he2
    subst he1 he2
    have hj : j < m.length := by
      rcases Nat.lt_or_ge j m.length with h | h
      · exact h
      · rw [List.getElem?_eq_none (by unfold textCells; rw [List.length_map]; exact h)] at hu; cases hu
    have hadd : (⟨sb, so, none⟩ : Addr).add j = ⟨sb, so + j, none⟩ := by unfold Addr.add; split <;> simp_all
    rw [hadd, hc' j (by omega)]
    unfold textCells at hu
    rw [List.getElem?_map, List.getElem?_eq_getElem hj] at hu
    simp at hu
    rw [← hu]
    simp [hj]
  have h1 : ∀ u ∈ textCells m, u.oneCell' = true := by
    intro u hu
    unfold textCells at hu
    obtain ⟨t, _, rfl⟩ := List.mem_map.1 hu
    rfl
  obtain ⟨va, vc, hv, S⟩ := SliceOf.of_own own (fun i => .string (l.getD i .empty)) (fun i hi => by unfold textCells; simp [hi])
  have hls := S.size_le
  subst hv
  obtain ⟨ln, hln⟩ : ∃ ln, l.length = ln := ⟨_, rfl⟩
  rw [hln] at own o1 hl hls k hne ⊢
  have HLN := Lib.hid hln
  have d1 : decide (a - (ln : Int) < (n : Int)) = false := by simp; omega
  have d2 : decide (b - y < s) = false := by simp; omega
  have wy : IntKind.i64.wrap (y + s) = y + s := IntWalk.i64_in _ (by omega)
  clear hS hm hs hc hln S
  go_enter Try.func21, Try.ntmps21
  go_wp2_with fail
  refine (HZ.out _ HS.out).mono ?_
  rintro e w' ⟨rfl, rfl⟩
  have E0 := fun (gx : Ext w) => gx.cell (k.cell 0) k.lt
  have E1 := fun (gx : Ext w) => gx.cell (k.cell 1) k.lt
  have E2 := fun (gx : Ext w) => gx.cell (k.cell 2) k.lt
  have E3 := fun (gx : Ext w) => gx.cell (k.cell 3) k.lt
  simp at E0 E1 E2 E3
  go_upto_region 2 with fail
  refine wp_region_ext (by kernel_rfl) (by kernel_rfl) ?_; (repeat (go_big_quiet_step (fail))); refine wpQuiet_nil ?_; rintro _ ⟨gq, rfl⟩
  clear E0 E1 E2 E3
  have k := k.below gq.below k.lt
  have own := own_at own (fun j hj => gq.below.block j (own.lt j hj).2)
  have hnews := hnews _ (HS.out.below gq.below)
  have Bq := gq.below
  generalize gq.world = w2 at *
  have sBq := Bq.size
  have ck := k.cell
  have fk := k.frozen
  simp at ck
  have hBw : 0 ≤ w2.heap.size := Nat.zero_le _
  go_wp2_with (at_builtin; refine wpList_append_lies _ rfl _ _ 50 rfl 0 49 i0 (.string ByteArray.empty) 1 16 Try.underlying50 hi0 hz0 hz1 hz2 rfl (by decide) _ _ _ rfl own ⟨sb, so, none⟩ n c (textCells m) rfl hlen hnews h1 (by omega) (by rw [maxLen_eq]; omega) (by omega) hBw _ rfl ?_; intro g2 cap w1 own1 hgrow hat hlt1; have k1 := Eq.trans (hgrow.block g k.lt (Ne.symm hne)) k; have k1 := (show Blk w1 g _ _ from k1); have ck1 := k1.cell; have fk1 := k1.frozen; simp at ck1; clear ck fk)
  all_goals
    go_ret
    have hg2 : g2 ≠ g := by
      intro he
      subst he
      rcases hat with h | h
      · exact hne h
      · have := k.lt; omega
    have k2 := (k1.set_ 2 (.slice (some ⟨g2, 0, none⟩) (ln + n) cap)).set_ 3 (.int .i64 (y + s))
    have own2 := own_at own1 (w' := (w1.setCell ⟨g, 2, none⟩ (.slice (some ⟨g2, 0, none⟩) (ln + n) cap)).setCell ⟨g, 3, none⟩ (.int .i64 (y + s))) (fun j hj => by
      have hj' : some g2 = some j := hj
      injection hj' with hj2
      subst hj2
      exact (Below.heap_setCell _ ⟨g, 3, none⟩ _ g2 hg2).trans (Below.heap_setCell _ ⟨g, 2, none⟩ _ g2 hg2))
    rw [← textCells_append] at own2
    refine ⟨rfl, _, ⟨k2, ?_, (by intro he; injection he with he2; exact hg2 he2)⟩, ?_⟩
    · rw [List.length_append, HLN.out, HM.out]
      exact own2
    · refine ⟨(((Bq.mono (Nat.zero_le _)).grown hgrow hBw (fun j hj => Nat.zero_le _)).setCell (Nat.zero_le _) _).setCell (Nat.zero_le _) _, fun z hz h1 h2 => ?_, fun z hz => ?_⟩
      · have e1 := Below.heap_setCell (w1.setCell ⟨g, 2, none⟩ (.slice (some ⟨g2, 0, none⟩) (ln + n) cap)) ⟨g, 3, none⟩ (.int .i64 (y + s)) z h1
        have e2 := Below.heap_setCell w1 ⟨g, 2, none⟩ (.slice (some ⟨g2, 0, none⟩) (ln + n) cap) z h1
        exact e1.trans (e2.trans ((hgrow.block z (by omega) (fun e => h2 e.symm)).trans (Bq.block z hz)))
      · injection hz with hz
        subst hz
        rcases hat with h | h
        · exact .inl h
        · right
          show w.heap.size ≤ g2
          omega
set_option maxHeartbeats 4000000 in
theorem queue_PopV (g : Nat) (a b y : Int) (x : ByteArray) (l : List ByteArray) (v : Value) (w : World) (h : QV w g a b (x :: l) y v) (hl : l.length ≤ 100000) (y0 : 0 ≤ y) (y1 : y ≤ 1073741824) (hy : sumQ [x] ≤ y) :
    Calls Try.prog 22 #[.pointer (some ⟨g, 0, none⟩)] w fun e w' => e = .returned (.tuple #[.string x, .bool true]) ∧ ∃ v', QV w' g a b l (y - sumQ [x]) v' ∧ Moved w w' g v v' := by
  have HF := Lib.hid (show Calls Try.prog 29 #[.pointer (some ⟨g, 0, none⟩)] w fun e w' => e = .returned (.tuple #[.string x, .bool true]) ∧ w = w' from queue_Front 0 g a b y (x :: l) w h.at)
  obtain ⟨k, own, hne⟩ := h
  have hgw := k.lt
  obtain ⟨n, hn⟩ : ∃ n, l.length = n := ⟨_, rfl⟩
  have hxn : (x :: l).length = n + 1 := by rw [List.length_cons, hn]
  rw [hxn] at own
  obtain ⟨g3, cap, rfl, hb3⟩ : ∃ g3 cap, v = .slice (some ⟨g3, 0, none⟩) (n + 1) cap ∧ 0 ≤ g3 := by
    rcases own.2 with ⟨_, h0⟩ | ⟨g', cap', cur, rfl, hb, _⟩
    · omega
    · exact ⟨g', cap', rfl, hb⟩
  have hg3 : g3 ≠ g := fun he => hne (by rw [he]; rfl)
  have hone : ∀ u ∈ textCells l, u.oneCell' = true := by
    intro u hu
    unfold textCells at hu
    obtain ⟨t, _, rfl⟩ := List.mem_map.1 hu
    rfl
  have HD := Lib.hid (text_Delete 0 g3 n cap (.string x) (textCells l) w own hone (by unfold textCells; rw [List.length_map, hn]))
  obtain ⟨m, hm⟩ : ∃ m, sumQ [x] = m := ⟨_, rfl⟩
  obtain ⟨m0, m1⟩ := sumQ_bd [x]
  have HZ := Lib.hid (fun (W : World) (gg : Nat) (t : TypeId) (hW : Blk W gg t #[.string x]) => queue_sizes (some ⟨gg, 0, none⟩) 1 1 [x] rfl (by omega) W (SliceOf.lit (n := 1) hW rfl (by decide) (fun i => .string ([x].getD i .empty)) (fun i hi => by
    obtain rfl : i = 0 := by omega
    rfl)))
  rw [hm] at m0 m1 hy HZ ⊢
  have HN := Lib.hid hn
  have ck := k.cell
  have fk := k.frozen
  simp at ck
  have wy : IntKind.i64.wrap (y - m) = y - m := IntWalk.i64_in _ (by omega)
  clear hm hn hxn hone
  go_enter Try.func22, Try.ntmps22
  go_wp2_with fail
  refine HF.out.mono ?_
  rintro e w' ⟨rfl, rfl⟩
  go_wp2_with fail
  refine HD.out.mono ?_
  rintro e w1 ⟨rfl, own1, hk1, hb1⟩
  have k1 : Blk w1 g 76 #[.int .i64 a, .int .i64 b, .slice (some ⟨g3, 0, none⟩) (n + 1) cap, .int .i64 y] := (hk1 g (Ne.symm hg3)).trans k
  have ck1 := k1.cell
  have fk1 := k1.frozen
  simp at ck1
  clear ck fk
  go_upto_region 4 with fail
  have k2 : Blk (w1.setCell ⟨g, 2, none⟩ (.slice (some ⟨g3, 0, none⟩) n cap)) g 76 #[.int .i64 a, .int .i64 b, .slice (some ⟨g3, 0, none⟩) n cap, .int .i64 y] := k1.set_ 2 _
  have own2 := own_at own1 (w' := w1.setCell ⟨g, 2, none⟩ (.slice (some ⟨g3, 0, none⟩) n cap)) (fun j hj => by
    have hj' : some g3 = some j := hj
    injection hj' with hj2
    subst hj2
    exact Below.heap_setCell _ ⟨g, 2, none⟩ _ g3 hg3)
  have hk2 : ∀ z, z ≠ g → z ≠ g3 → (w1.setCell ⟨g, 2, none⟩ (.slice (some ⟨g3, 0, none⟩) n cap)).heap[z]? = w.heap[z]? := fun z h1 h2 => (Below.heap_setCell _ ⟨g, 2, none⟩ _ z h1).trans (hk1 z h2)
  have hb2 := hb1.setCell (p := ⟨g, 2, none⟩) (Nat.zero_le _) (.slice (some ⟨g3, 0, none⟩) n cap)
  generalize w1.setCell ⟨g, 2, none⟩ (.slice (some ⟨g3, 0, none⟩) n cap) = w2 at *
  clear ck1 fk1 k1 own1 hk1 hb1
  have ck2 := k2.cell
  have fk2 := k2.frozen
  simp at ck2
  have cko := fun o => ((k2.alloc o).drew).cell
  have fko := fun o => ((k2.alloc o).drew).frozen
  simp at cko
  have HFIN := Lib.hid (fun (o : Obj) => (show ∃ v', QV ((w2.setCell ⟨g, 3, none⟩ (.int .i64 (y - m))).alloc o).drew g a b l (y - m) v' ∧ Moved w ((w2.setCell ⟨g, 3, none⟩ (.int .i64 (y - m))).alloc o).drew g (.slice (some ⟨g3, 0, none⟩) (n + 1) cap) v' by
    have hgl := k2.lt
    refine ⟨_, ⟨((k2.set_ 3 _).alloc o).drew, ?_, (by intro he; injection he with he2; exact hg3 he2)⟩, ((hb2.setCell (p := ⟨g, 3, none⟩) (Nat.zero_le _) _).alloc (Nat.zero_le _) o).drew, fun z hz h1 h2 => ?_, fun z hz => .inl hz⟩
    · rw [HN.out]
      refine own_at own2 (fun j hj => ?_)
      have hj' : some g3 = some j := hj
      injection hj' with hj2
      subst hj2
      exact (Below.heap_alloc (w2.setCell ⟨g, 3, none⟩ (.int .i64 (y - m))) o g3 (by simp; exact (own2.lt g3 rfl).2)).trans (Below.heap_setCell _ ⟨g, 3, none⟩ _ g3 hg3)
    · have hz3 : z ≠ g3 := fun e => h2 (by rw [e]; rfl)
      have hzl : z < w2.heap.size := Nat.lt_of_lt_of_le hz hb2.size
      exact (Below.heap_alloc (w2.setCell ⟨g, 3, none⟩ (.int .i64 (y - m))) o z (by simp; exact hzl)).trans ((Below.heap_setCell _ ⟨g, 3, none⟩ _ z h1).trans (hk2 z h1 hz3))))
  have hgl := k2.lt
  have g1 : ¬ (g = w2.heap.size) := by omega
  have g2 : ¬ (w2.heap.size = g) := by omega
  go_region_with (first | (go_at_call 36; refine (HZ.out _ _ 49 ?_).mono ?_; (focus (first | with_reducible exact Blk.new _ _ _ | with_reducible exact Blk.drew (Blk.new _ _ _))); rintro e w' ⟨rfl, rfl⟩))
  all_goals
    go_wp2_with fail
    refine bodyPost_ret (v := .tuple #[.string x, .bool true]) ?_ rfl ⟨rfl, ?_⟩
    · simp [results, Try.results22, go_sem]
    · exact HFIN.out _
end Go.Proofs.Ytomhnegfemdcdaa
