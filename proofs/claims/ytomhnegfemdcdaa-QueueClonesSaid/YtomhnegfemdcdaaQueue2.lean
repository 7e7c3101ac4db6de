/- Queue.Push, walked. No condition but that the queue stands and the numbers' bounds. -/
import Derived.Test.YtomhnegfemdcdaaQueue
import Derived.Test.YtomhnegfemdcdaaRegion
import Derived.Deep.DeepCutAuto
namespace Go.Proofs.Ytomhnegfemdcdaa
open Go.RowKit BigFrame
attribute [local go_sem ↓] Go.wp_at_zero Go.wp_at_succ

theorem own_at {w w' : World} {B e size n : Nat} {v : Value} {xs : List Value} (h : w.ownsRow B e size v n xs) (hk : ∀ j, v.ownBlock = some j → w'.heap[j]? = w.heap[j]?) : w'.ownsRow B e size v n xs := by
  refine ⟨h.1, ?_⟩
  rcases h.2 with hn | ⟨g, cap, cur, rfl, hb, hgg, rest⟩
  · exact .inl hn
  · exact .inr ⟨g, cap, cur, rfl, hb, (hk g rfl).trans hgg, rest⟩
theorem textCells_append (l m : List ByteArray) : textCells (l ++ m) = textCells l ++ textCells m := by unfold textCells; exact List.map_append
/-- A queue stands where nothing from block B on was touched, or its two blocks were not. -/
theorem QAt.below {w w' : World} {B g : Nat} {a b y : Int} {l : List ByteArray} (h : QAt w B g a b l y) (hb : Below w.heap.size w w') : QAt w' B g a b l y := by
  obtain ⟨v, k, own, hne, hB⟩ := h
  exact ⟨v, k.below hb k.lt, own_at own (fun j hj => hb.block j (own.lt j hj).2), hne, hB⟩
theorem QAt.lt {w : World} {B g : Nat} {a b y : Int} {l : List ByteArray} (h : QAt w B g a b l y) : g < w.heap.size := by
  obtain ⟨v, k, own, hne, hB⟩ := h
  exact k.lt

set_option maxHeartbeats 2000000 in
theorem queue_Push (B g : Nat) (a b y : Int) (l m : List ByteArray) (ad : Option Addr) (n c : Nat) (w : World) (h : QAt w B g a b l y) (a0 : 0 ≤ a) (a1 : a ≤ 1073741824) (b0 : 0 ≤ b) (b1 : b ≤ 1073741824) (y0 : 0 ≤ y) (y1 : y ≤ 1073741824) (hl : l.length ≤ 100000) (hm : m.length = n) (n0 : 0 < n) (n1 : n ≤ 100000)
    (hS : SliceOf w ad n c 1 (fun i => [.string (m.getD i .empty)])) (hok : (n : Int) ≤ a - l.length ∧ sumQ m ≤ b - y) :
    Calls Try.prog 21 #[.pointer (some ⟨g, 0, none⟩), .slice ad n c] w fun e w' => e = .returned (.bool true) ∧ QAt w' B g a b (l ++ m) (y + sumQ m) ∧ Below B w w' := by
  obtain ⟨i0, hi0, hz0, hz1, hz2⟩ := info_parts (show (Try.prog.info? 49).map (fun i => (i.zero, i.size, i.bytes)) = some (some (.string ByteArray.empty), 1, 16) by kernel_rfl)
  have HZ := Lib.hid (fun W h => queue_sizes ad n c m hm (by omega) W h)
  obtain ⟨v, k, own, hne, hB⟩ := h
  have hgw := k.lt
  obtain ⟨sb, so, rfl, hsb, hc⟩ := hS.at1 n0
  obtain ⟨s0, s1⟩ := sumQ_bd m
  rw [hm] at s1
  obtain ⟨s, hs⟩ : ∃ s, sumQ m = s := ⟨_, rfl⟩
  rw [hs] at s0 s1 hok HZ ⊢
  obtain ⟨o1, o2⟩ := hok
  have HS := Lib.hid hS
  have HM := Lib.hid hm
  have hlen : (textCells m).length = n * 1 := by unfold textCells; rw [List.length_map, hm, Nat.mul_one]
  have hnews : ∀ W : World, SliceOf W (some ⟨sb, so, none⟩) n c 1 (fun i => [.string (m.getD i .empty)]) → ∀ j u, (textCells m)[j]? = some u → W.cell? ((⟨sb, so, none⟩ : Addr).add j) = some u := by
    intro W hW j u hu
    obtain ⟨sb', so', he, hsb', hc'⟩ := hW.at1 n0
    injection he with he
    injection he with he1 he2
    subst he1 he2
    have hj : j < m.length := by
      rcases Nat.lt_or_ge j m.length with h | h
      · exact h
      · rw [List.getElem?_eq_none (by unfold textCells; rw [List.length_map]; exact h)] at hu; cases hu
    have hadd : (⟨sb, so, none⟩ : Addr).add j = ⟨sb, so + j, none⟩ := by unfold Addr.add; split <;> simp_all
    rw [hadd, hc' j (by omega)]
    unfold textCells at hu
    rw [List.getElem?_map, List.getElem?_eq_getElem hj] at hu
    simp at hu
    rw [← hu]
    simp [hj]
  have h1 : ∀ u ∈ textCells m, u.oneCell' = true := by
    intro u hu
    unfold textCells at hu
    obtain ⟨t, _, rfl⟩ := List.mem_map.1 hu
    rfl
  obtain ⟨va, vc, hv, S⟩ := SliceOf.of_own own (fun i => .string (l.getD i .empty)) (fun i hi => by unfold textCells; simp [hi])
  have hls := S.size_le
  subst hv
  obtain ⟨ln, hln⟩ : ∃ ln, l.length = ln := ⟨_, rfl⟩
  rw [hln] at own o1 hl hls k hne
  have HLN := Lib.hid hln
  have d1 : decide (a - (ln : Int) < (n : Int)) = false := by simp; omega
  have d2 : decide (b - y < s) = false := by simp; omega
  have wy : IntKind.i64.wrap (y + s) = y + s := IntWalk.i64_in _ (by omega)
  clear hS hm hs hc hln S
  go_enter Try.func21, Try.ntmps21
  go_wp2_with fail
  refine (HZ.out _ HS.out).mono ?_
  rintro e w' ⟨rfl, rfl⟩
  have E0 := fun (gx : Ext w) => gx.cell (k.cell 0) k.lt
  have E1 := fun (gx : Ext w) => gx.cell (k.cell 1) k.lt
  have E2 := fun (gx : Ext w) => gx.cell (k.cell 2) k.lt
  have E3 := fun (gx : Ext w) => gx.cell (k.cell 3) k.lt
  simp at E0 E1 E2 E3
  go_upto_region 2 with fail
  refine wp_region_ext (by kernel_rfl) (by kernel_rfl) ?_; (repeat (go_big_quiet_step (fail))); refine wpQuiet_nil ?_; rintro _ ⟨gq, rfl⟩
  clear E0 E1 E2 E3
  have k := k.below gq.below k.lt
  have own := own_at own (fun j hj => gq.below.block j (own.lt j hj).2)
  have hnews := hnews _ (HS.out.below gq.below)
  have Bq := gq.below
  generalize gq.world = w2 at *
  have ck := k.cell
  have fk := k.frozen
  simp at ck
  have hBw : B ≤ w2.heap.size := by have := k.lt; omega
  go_wp2_with (at_builtin; refine wpList_append_lies _ rfl _ _ 50 rfl B 49 i0 (.string ByteArray.empty) 1 16 Try.underlying50 hi0 hz0 hz1 hz2 rfl (by decide) _ _ _ rfl own ⟨sb, so, none⟩ n c (textCells m) rfl hlen hnews h1 (by omega) (by rw [maxLen_eq]; omega) (by omega) hBw _ rfl ?_; intro g2 cap w1 own1 hgrow hat hlt1; have k1 := Eq.trans (hgrow.block g k.lt (Ne.symm hne)) k; have k1 := (show Blk w1 g _ _ from k1); have ck1 := k1.cell; have fk1 := k1.frozen; simp at ck1; clear ck fk)
  all_goals
    go_ret
    have hg2 : g2 ≠ g := by
      intro he
      subst he
      rcases hat with h | h
      · exact hne h
      · have := k.lt; omega
    have k2 := (k1.set_ 2 (.slice (some ⟨g2, 0, none⟩) (ln + n) cap)).set_ 3 (.int .i64 (y + s))
    have own2 := own_at own1 (w' := (w1.setCell ⟨g, 2, none⟩ (.slice (some ⟨g2, 0, none⟩) (ln + n) cap)).setCell ⟨g, 3, none⟩ (.int .i64 (y + s))) (fun j hj => by
      have hj' : some g2 = some j := hj
      injection hj' with hj2
      subst hj2
      exact (Below.heap_setCell _ ⟨g, 3, none⟩ _ g2 hg2).trans (Below.heap_setCell _ ⟨g, 2, none⟩ _ g2 hg2))
    rw [← textCells_append] at own2
    refine ⟨rfl, ⟨_, k2, ?_, (by intro he; injection he with he2; exact hg2 he2), hB⟩, ?_⟩
    · rw [List.length_append, HLN.out, HM.out]
      exact own2
    · exact (((Bq.mono (by omega)).grown hgrow hBw (fun j hj => (own.lt j hj).1)).setCell hB _).setCell hB _
end Go.Proofs.Ytomhnegfemdcdaa
