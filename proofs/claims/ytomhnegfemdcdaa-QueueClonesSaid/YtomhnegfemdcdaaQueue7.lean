/- Push of any texts, refused or not; Clone. No condition but that the queue stands and the numbers' bounds. -/
import Derived.Test.YtomhnegfemdcdaaQueue6
import Derived.Test.YtomhnegfemdcdaaFree
namespace Go.Proofs.Ytomhnegfemdcdaa
open Go.RowKit BigFrame
attribute [local go_sem ↓] Go.wp_at_zero Go.wp_at_succ

set_option maxHeartbeats 2000000 in
theorem queue_PushA (g : Nat) (a b y : Int) (l m : List ByteArray) (v : Value) (ad : Option Addr) (n c : Nat) (w : World) (h : QV w g a b l y v) (a0 : 0 ≤ a) (a1 : a ≤ 1073741824) (b0 : 0 ≤ b) (b1 : b ≤ 1073741824) (y0 : 0 ≤ y) (y1 : y ≤ 1073741824) (hl : l.length ≤ 100000) (hm : m.length = n) (n1 : n ≤ 100000)
    (hS : SliceOf w ad n c 1 (fun i => [.string (m.getD i .empty)])) (hok : (n : Int) ≤ a - l.length ∧ sumQ m ≤ b - y) :
    Calls Try.prog 21 #[.pointer (some ⟨g, 0, none⟩), .slice ad n c] w fun e w' => e = .returned (.bool true) ∧ ∃ v', QV w' g a b (l ++ m) (y + sumQ m) v' ∧ Moved w w' g v v' := by
  obtain ⟨i0, hi0, hz0, hz1, hz2⟩ := info_parts (show (Try.prog.info? 49).map (fun i => (i.zero, i.size, i.bytes)) = some (some (.string ByteArray.empty), 1, 16) by kernel_rfl)
  have HZ := Lib.hid (fun W h => queue_sizes ad n c m hm (by omega) W h)
  obtain ⟨k, own, hne⟩ := h
  have hgw := k.lt
  obtain ⟨s0, s1⟩ := sumQ_bd m
  rw [hm] at s1
  obtain ⟨s, hs⟩ : ∃ s, sumQ m = s := ⟨_, rfl⟩
  rw [hs] at s0 s1 hok HZ ⊢
  obtain ⟨o1, o2⟩ := hok
  have HS := Lib.hid hS
  have HM := Lib.hid hm
  have hlen : (textCells m).length = n * 1 := by unfold textCells; rw [List.length_map, hm, Nat.mul_one]
  have hnews : ∀ W, SliceOf W ad n c 1 (fun i => [.string (m.getD i .empty)]) → 0 < n → ∃ a0, ad = some a0 ∧ ∀ j u, (textCells m)[j]? = some u → W.cell? (a0.add j) = some u := fun W hW => by
    have h1 := hW.news1
    have e := textCells_row m
    rw [hm] at e
    rw [← e] at h1
    exact h1
  have h1 := texts_one m
  have hnc := hS.size_le
  obtain ⟨va, vc, hv, S⟩ := SliceOf.of_own own (fun i => .string (l.getD i .empty)) (fun i hi => by unfold textCells; simp [hi])
  have hls := S.size_le
  subst hv
  obtain ⟨ln, hln⟩ : ∃ ln, l.length = ln := ⟨_, rfl⟩
  rw [hln] at own o1 hl hls k hne ⊢
  have HLN := Lib.hid hln
  have d1 : decide (a - (ln : Int) < (n : Int)) = false := by simp; omega
  have d2 : decide (b - y < s) = false := by simp; omega
  have wy : IntKind.i64.wrap (y + s) = y + s := IntWalk.i64_in _ (by omega)
  clear hS hm hs hln S
  go_enter Try.func21, Try.ntmps21
  go_wp2_with fail
  refine (HZ.out _ HS.out).mono ?_
  rintro e w' ⟨rfl, rfl⟩
  have E0 := fun (gx : Ext w) => gx.cell (k.cell 0) k.lt
  have E1 := fun (gx : Ext w) => gx.cell (k.cell 1) k.lt
  have E2 := fun (gx : Ext w) => gx.cell (k.cell 2) k.lt
  have E3 := fun (gx : Ext w) => gx.cell (k.cell 3) k.lt
  simp at E0 E1 E2 E3
  go_upto_region 2 with fail
  refine wp_region_ext (by kernel_rfl) (by kernel_rfl) ?_; (repeat (go_big_quiet_step (fail))); refine wpQuiet_nil ?_; rintro _ ⟨gq, rfl⟩
  clear E0 E1 E2 E3
  have k := k.below gq.below k.lt
  have own := own_at own (fun j hj => gq.below.block j (own.lt j hj).2)
  have hnews := hnews _ (HS.out.below gq.below)
  have Bq := gq.below
  generalize gq.world = w2 at *
  have sBq := Bq.size
  have ck := k.cell
  have fk := k.frozen
  simp at ck
  go_wp2_with (at_builtin; refine wpList_append_sl rfl _ _ 50 rfl 0 49 i0 (.string ByteArray.empty) 1 16 Try.underlying50 hi0 hz0 hz1 hz2 rfl (by decide) _ _ _ rfl own ad n c (textCells m) rfl hlen hnews h1 (by rw [maxLen_eq]; omega) (by omega) (Nat.zero_le _) ?_; intro v1 w1 own1 hgrow hat hsh; obtain ⟨sa, sc, rfl⟩ := hsh; have k1 := Eq.trans (hgrow.block g k.lt (Ne.symm hne)) k; have k1 := (show Blk w1 g _ _ from k1); have ck1 := k1.cell; have fk1 := k1.frozen; simp at ck1; clear ck fk)
  all_goals
    go_ret
    have hat' : (Value.slice sa (ln + n) sc).ownBlock = (Value.slice va ln vc).ownBlock ∨ (Value.slice sa (ln + n) sc).ownBlock = some w2.heap.size := hat
    have hgr : w2.grownBy w1 (Value.slice va ln vc).ownBlock := hgrow
    have hne2 : (Value.slice sa (ln + n) sc).ownBlock ≠ some g := fun e => by
      rcases hat' with h | h
      · exact hne (h ▸ e)
      · rw [h] at e
        injection e with e
        have := k.lt
        omega
    have k2 := (k1.set_ 2 (.slice sa (ln + n) sc)).set_ 3 (.int .i64 (y + s))
    have own2 := own_at own1 (w' := (w1.setCell ⟨g, 2, none⟩ (.slice sa (ln + n) sc)).setCell ⟨g, 3, none⟩ (.int .i64 (y + s))) (fun j hj => by
      have hj2 : j ≠ g := fun e => hne2 (by rw [← e]; exact hj)
      exact (Below.heap_setCell _ ⟨g, 3, none⟩ _ j hj2).trans (Below.heap_setCell _ ⟨g, 2, none⟩ _ j hj2))
    rw [← textCells_append] at own2
    refine ⟨rfl, _, ⟨k2, ?_, hne2⟩, ?_⟩
    · rw [List.length_append, HLN.out, HM.out]
      exact own2
    · refine ⟨(((Bq.mono (Nat.zero_le _)).grown hgr (Nat.zero_le _) (fun j hj => Nat.zero_le _)).setCell (Nat.zero_le _) _).setCell (Nat.zero_le _) _, fun z hz h1 h2 => ?_, fun z hz => ?_⟩
      · have e1 := Below.heap_setCell (w1.setCell ⟨g, 2, none⟩ (.slice sa (ln + n) sc)) ⟨g, 3, none⟩ (.int .i64 (y + s)) z h1
        have e2 := Below.heap_setCell w1 ⟨g, 2, none⟩ (.slice sa (ln + n) sc) z h1
        exact e1.trans (e2.trans ((hgr.block z (by omega) (fun e => h2 e.symm)).trans (Bq.block z hz)))
      · rcases hat' with h | h
        · exact .inl (h ▸ hz)
        · rw [h] at hz
          injection hz with hz
          right; omega
set_option maxHeartbeats 2000000 in
theorem queue_PushNoA (g : Nat) (a b y : Int) (l m : List ByteArray) (v : Value) (ad : Option Addr) (n c : Nat) (w : World) (h : QV w g a b l y v) (a0 : 0 ≤ a) (a1 : a ≤ 1073741824) (b0 : 0 ≤ b) (b1 : b ≤ 1073741824) (y0 : 0 ≤ y) (y1 : y ≤ 1073741824) (hl : l.length ≤ 100000) (hm : m.length = n) (n1 : n ≤ 100000)
    (hS : SliceOf w ad n c 1 (fun i => [.string (m.getD i .empty)])) (hno : a - l.length < (n : Int) ∨ b - y < sumQ m) :
    Calls Try.prog 21 #[.pointer (some ⟨g, 0, none⟩), .slice ad n c] w fun e w' => e = .returned (.bool false) ∧ Below w.heap.size w w' := by
  have HZ := Lib.hid (fun W h => queue_sizes ad n c m hm (by omega) W h)
  obtain ⟨k, own, hne⟩ := h
  obtain ⟨s0, s1⟩ := sumQ_bd m
  rw [hm] at s1
  obtain ⟨s, hs⟩ : ∃ s, sumQ m = s := ⟨_, rfl⟩
  rw [hs] at s0 s1 HZ hno
  have HS := Lib.hid hS
  have hnc := hS.size_le
  obtain ⟨va, vc, hv, S⟩ := SliceOf.of_own own (fun i => .string (l.getD i .empty)) (fun i hi => by unfold textCells; simp [hi])
  have hls := S.size_le
  subst hv
  obtain ⟨ln, hln⟩ : ∃ ln, l.length = ln := ⟨_, rfl⟩
  rw [hln] at own hl hls k hne hno
  have w1 : IntKind.i64.wrap (a - (ln : Int)) = a - ln := IntWalk.i64_in _ (by omega)
  have w2 : IntKind.i64.wrap (b - y) = b - y := IntWalk.i64_in _ (by omega)
  clear hS hm hs hln S
  have key : ∀ (q : Bool), (decide (a - (ln : Int) < (n : Int))) = q → (q = true ∨ (q = false ∧ decide (b - y < s) = true)) := by
    intro q hq
    cases q with
    | true => exact .inl rfl
    | false =>
      right
      refine ⟨rfl, ?_⟩
      simp at hq ⊢
      rcases hno with h | h <;> omega
  obtain ⟨q, hq⟩ : ∃ q, decide (a - (ln : Int) < (n : Int)) = q := ⟨_, rfl⟩
  have hqq := key q hq
  clear key hno
  rcases hqq with rfl | ⟨rfl, hq2⟩
  all_goals
    go_enter Try.func21, Try.ntmps21
    go_wp2_with fail
    refine (HZ.out _ HS.out).mono ?_
    rintro e w' ⟨rfl, rfl⟩
    have E0 := fun (gx : Ext w) => gx.cell (k.cell 0) k.lt
    have E1 := fun (gx : Ext w) => gx.cell (k.cell 1) k.lt
    have E2 := fun (gx : Ext w) => gx.cell (k.cell 2) k.lt
    have E3 := fun (gx : Ext w) => gx.cell (k.cell 3) k.lt
    simp at E0 E1 E2 E3
    go_upto_region 2 with fail
    refine wp_region_ext (by kernel_rfl) (by kernel_rfl) ?_; (repeat (go_big_quiet_step (fail))); refine wpQuiet_nil ?_; rintro _ ⟨gq, rfl⟩
    clear E0 E1 E2 E3
    go_wp2_with fail
    go_ret
    exact ⟨rfl, gq.below⟩
/-- A queue's row that the call owns, as a row of base 0. -/
theorem own_base {w : World} {B e n : Nat} {v : Value} {xs : List Value} (h : w.ownsRow B e 1 v n xs) : w.ownsRow 0 e 1 v n xs := by
  refine ⟨h.1, ?_⟩
  rcases h.2 with hn | ⟨g, cap, cur, rfl, hbg, hg, r⟩
  · exact .inl hn
  · exact .inr ⟨g, cap, cur, rfl, Nat.zero_le _, hg, r⟩
end Go.Proofs.Ytomhnegfemdcdaa
