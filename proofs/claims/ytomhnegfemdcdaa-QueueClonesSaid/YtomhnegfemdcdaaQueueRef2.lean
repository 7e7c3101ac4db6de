/- The reference's Push and Pop. No condition but the texts' sizes. -/
import Derived.Test.YtomhnegfemdcdaaQueueRef
namespace Go.Proofs.Ytomhnegfemdcdaa
open Go.RowKit BigFrame
attribute [local go_sem ↓] Go.wp_at_zero Go.wp_at_succ

/-- The document's queue, as a value, its row told. -/
structure RQ (W : World) (x : Value) (a b : Int) (l : List ByteArray) (sv : Value) : Prop where
  eq : x = .agg #[.int .i64 a, .int .i64 b, sv]
  own : W.ownsRow 0 9 1 sv l.length (textCells l)
theorem RQ.at_ {W W' : World} {x : Value} {a b : Int} {l : List ByteArray} {sv : Value} (h : RQ W x a b l sv) (hk : ∀ j, j < W.heap.size → sv.ownBlock = some j → W'.heap[j]? = W.heap[j]?) : RQ W' x a b l sv :=
  ⟨h.eq, own_at h.own (fun j hj => hk j (h.own.lt j hj).2 hj)⟩
theorem RQ.below {W W' : World} {x : Value} {a b : Int} {l : List ByteArray} {sv : Value} (h : RQ W x a b l sv) (hb : Below W.heap.size W W') : RQ W' x a b l sv := h.at_ (fun j hj _ => hb.block j hj)
theorem RQ.slice_ {W : World} {x : Value} {a b : Int} {l : List ByteArray} {sv : Value} (h : RQ W x a b l sv) : ∃ ra rc, sv = .slice ra l.length rc ∧ SliceOf W ra l.length rc 1 (fun i => [.string (l.getD i .empty)]) :=
  SliceOf.of_own h.own (fun i => .string (l.getD i .empty)) (fun i hi => by unfold textCells; simp [hi])
theorem getD_app (l m : List ByteArray) (i : Nat) : textCells (l ++ m) = textCells l ++ textCells m := textCells_append l m
theorem two_new (w : World) (A B : Array Value) (t u : TypeId) : Blk ((w.alloc (.cells A t)).alloc (.cells B u)) w.heap.size t A ∧ Blk ((w.alloc (.cells A t)).alloc (.cells B u)) (w.heap.size + 1) u B ∧ Below w.heap.size w ((w.alloc (.cells A t)).alloc (.cells B u)) :=
  ⟨(Blk.new w t A).alloc _, Blk.new1 w _ u B, ((Below.refl _ w).alloc (Nat.le_refl _) _).alloc (by simp) _⟩
set_option maxHeartbeats 4000000 in
theorem ref20_Push (x : Value) (a b : Int) (l m : List ByteArray) (sv : Value) (ma : Option Addr) (mc : Nat) (w : World) (R : RQ w x a b l sv) (SM : SliceOf w ma m.length mc 1 (fun i => [.string (m.getD i .empty)])) (hl : l.length ≤ 10000) (hm : m.length ≤ 10000) (hs : ∀ s ∈ l ++ m, s.size ≤ 1000000) (ok : Bool) (hok : decide ((l.length : Int) + m.length ≤ a ∧ sumQ (l ++ m) ≤ b) = ok) :
    Calls Try.prog 38 #[x, .slice ma m.length mc] w fun e w' => ∃ x', e = .returned (.tuple #[x', .bool ok]) ∧ ∃ sv', RQ w' x' a b (if ok then l ++ m else l) sv' ∧ (∀ k, sv'.ownBlock = some k → sv.ownBlock = some k ∨ w.heap.size ≤ k) ∧ Below w.heap.size w w' := by
  obtain ⟨i0, hi0, hz0, hz1, hz2⟩ := info_parts (show (Try.prog.info? 9).map (fun i => (i.zero, i.size, i.bytes)) = some (some (.string ByteArray.empty), 1, 16) by kernel_rfl)
  have R0 := R
  obtain ⟨ra, rc, rfl, SL⟩ := R.slice_
  obtain ⟨rfl, ownR⟩ := R
  obtain ⟨n, hn⟩ : ∃ n, l.length = n := ⟨_, rfl⟩
  obtain ⟨q, hq⟩ : ∃ q, m.length = q := ⟨_, rfl⟩
  have hcl := textCells_row l
  have hcm := textCells_row m
  have hnl := fun (W : World) (hb : Below w.heap.size w W) => (SL.below hb).news1
  have hnm := fun (W : World) (hb : Below w.heap.size w W) => (SM.below hb).news1
  rw [hn] at hcl hnl
  rw [hq] at hcm hnm
  rw [← hcl] at hnl
  rw [← hcm] at hnm
  have hll : (textCells l).length = n * 1 := by unfold textCells; simp [hn]
  have hlm : (textCells m).length = q * 1 := by unfold textCells; simp [hq]
  have hol := texts_one l
  have hom := texts_one m
  obtain ⟨z, hz⟩ : ∃ z, sumQ (l ++ m) = z := ⟨_, rfl⟩
  have HB := Lib.hid (fun (W : World) (aa : Option Addr) (cc : Nat) (hS : SliceOf W aa (n + q) cc 1 (fun i => [.string ((l ++ m).getD i .empty)])) => ref20_Bytes aa (n + q) cc (l ++ m) (by rw [List.length_append, hn, hq]) (by omega) hs W hS)
  rw [hz] at HB hok
  rw [hn, hq] at hok
  rw [hn] at hl ⊢
  rw [hq] at hm ⊢
  have HN := Lib.hid hn
  have HQ := Lib.hid hq
  have sl1 := SL.size_le
  have sm1 := SM.size_le
  obtain ⟨K2, K4, B1⟩ := two_new w #[.int .i64 a, .int .i64 b, .slice ra n rc] #[.int .i64 0, .int .i64 0, .slice none 0 0] 58 58
  have HR0 := Lib.hid R0
  clear hn hq hcl hcm SL SM hz hs R0 ownR
  go_enter Try.func38, Try.ntmps38
  go_upto_region 1 with fail
  generalize (w.alloc (.cells #[.int .i64 a, .int .i64 b, .slice ra n rc] 58)).alloc (.cells #[.int .i64 0, .int .i64 0, .slice none 0 0] 58) = w1 at *
  have own1 := own_lit w1 9 1
  have hs1 := K4.lt
  have B1a : Below w.heap.size w (w1.alloc (.cells #[] 9)) := B1.alloc B1.size _
  have hn1 := hnl _ B1a
  have c2 := (K2.alloc (.cells #[] 9)).cell
  simp at c2
  go_upto_region 2 with (first | (at_builtin; refine wpList_append_sl rfl _ _ 45 rfl w1.heap.size 9 i0 (.string ByteArray.empty) 1 16 Try.underlying45 hi0 hz0 hz1 hz2 rfl (by decide) _ _ _ rfl own1 ra n rc (textCells l) rfl hll hn1 hol (by rw [maxLen_eq]; omega) (by omega) (by simp) ?_; intro v2 w2 own2 hgrow2 hat2 hsh2; obtain ⟨s2, k2, rfl⟩ := hsh2; have hg2 := (show (w1.alloc (.cells #[] 9)).grownBy w2 (some w1.heap.size) from hgrow2); have B2 : Below w1.heap.size w1 w2 := (((Below.refl _ w1).alloc (Nat.le_refl _) _).grown hg2 (by simp) (fun j hj => by injection hj with hj; omega)); have hn2 := hnm w2 (below_then B1 B2 (Nat.le_refl _)); have hbw2 := B2.size; simp only [Nat.zero_add, List.nil_append] at own2; clear hgrow2 hat2 hg2 own1) | (at_builtin; refine wpList_append_sl rfl _ _ 45 rfl w1.heap.size 9 i0 (.string ByteArray.empty) 1 16 Try.underlying45 hi0 hz0 hz1 hz2 rfl (by decide) _ _ _ rfl own2 ma q mc (textCells m) rfl hlm hn2 hom (by rw [maxLen_eq]; omega) (by omega) hbw2 ?_; intro v3 w3 own3 hgrow3 hat3 hsh3; obtain ⟨s3, k3, rfl⟩ := hsh3; have hg3 := (show w2.grownBy w3 (Value.slice s2 n k2).ownBlock from hgrow3); have B3 : Below w1.heap.size w1 w3 := (B2.grown hg3 hbw2 (fun j hj => (own2.lt j hj).1)); clear hgrow3 hat3 hg3 own2))
  clear c2 hn1 hn2 hnl hnm B2 hbw2 B1a
  have hs3 := B3.size
  have K2 := K2.below B3 (by omega)
  have K4 := K4.below B3 hs1
  have B3w := below_then B1 B3 (Nat.le_refl _)
  rw [← textCells_append] at own3
  obtain ⟨_, _, e3, S3⟩ := SliceOf.of_own own3 (fun i => .string ((l ++ m).getD i .empty)) (fun i hi => by
    have : i < (l ++ m).length := by rw [List.length_append, HN.out, HQ.out]; exact hi
    rw [textCells_row, rowL_get _ _ _ this])
  injection e3 with e3 _ e3c
  subst e3 e3c
  have HBB := Lib.hid (fun (gx : Ext w3) => HB.out gx.world _ _ (S3.below gx.below))
  have E0 := fun (gx : Ext w3) => gx.cell (K2.cell 0) K2.lt
  have E1 := fun (gx : Ext w3) => gx.cell (K2.cell 1) K2.lt
  simp at E0 E1
  have hnq : ((n + q : Nat) : Int) = (n : Int) + q := by omega
  have fin : ∀ (W : World), Below w3.heap.size w3 W → Blk W w.heap.size 58 #[.int .i64 a, .int .i64 b, .slice ra n rc] ∧ Blk W (w.heap.size + 1) 58 #[.int .i64 0, .int .i64 0, .slice none 0 0] ∧ W.ownsRow w1.heap.size 9 1 (.slice s3 (n + q) k3) (n + q) (textCells (l ++ m)) ∧ Below w.heap.size w W := fun W hb =>
    ⟨K2.below hb K2.lt, K4.below hb K4.lt, own_at own3 (fun j hj => hb.block j (own3.lt j hj).2), below_then B3w hb (Nat.le_refl _)⟩
  have FIN := Lib.hid fin
  clear fin K2 K4 own3 S3 B3 B3w B1 HB
  by_cases h1 : a < (n : Int) + q
  · have hokf : ok = false := by rw [← hok]; simp; omega
    subst hokf
    have x1 : decide (a < ((n + q : Nat) : Int)) = true := by rw [hnq]; simp [h1]
    clear hok
    refine wp_region_ext (by kernel_rfl) (by kernel_rfl) ?_; (repeat (go_big_quiet_step (fail))); refine wpQuiet_nil ?_; rintro _ ⟨gq, rfl⟩
    obtain ⟨K2, K4, own3, Bw⟩ := FIN.out _ gq.below
    generalize gq.world = w4 at *
    clear E0 E1 HBB gq x1 h1
    have c2 := K2.cell
    have c4 := K4.cell
    have f4 := K4.frozen
    simp at c2 c4
    obtain ⟨w5, e5, K5, B5, hk5⟩ := three_set K4 rfl (.int .i64 a) (.int .i64 b) (.slice ra n rc) w.heap.size (by omega)
    have c5 := K5.cell
    simp at c5
    go_wp2_with fail
    refine bodyPost_ret (v := .tuple #[.agg #[.int .i64 a, .int .i64 b, .slice ra n rc], .bool false]) ?_ rfl ⟨_, rfl, .slice ra n rc, ?_, fun _ h => .inl h, Bw.trans B5⟩
    · simp [results, Try.results38, go_sem, c5]
    · have h0 := HR0.out.below (Bw.trans B5)
      rw [HN.out] at h0
      exact ⟨rfl, by have := h0.own; rw [HN.out] at this; simpa using (by rw [HN.out]; exact this : w5.ownsRow 0 9 1 (.slice ra n rc) l.length (textCells l))⟩
  · have x1 : decide (a < ((n + q : Nat) : Int)) = false := by rw [hnq]; simp; omega
    by_cases h2 : b < z
    · have hokf : ok = false := by rw [← hok]; simp; omega
      subst hokf
      have x2 : decide (b < z) = true := by simp [h2]
      clear hok
      refine wp_region_ext (by kernel_rfl) (by kernel_rfl) ?_; (repeat (go_big_quiet_step ((first | (go_at_call 44; with_reducible exact calls_ext_same _ (HBB.out _)))))); refine wpQuiet_nil ?_; rintro _ ⟨gq, rfl⟩
      obtain ⟨K2, K4, own3, Bw⟩ := FIN.out _ gq.below
      generalize gq.world = w4 at *
      clear E0 E1 HBB gq x1 h1 x2 h2
      have c2 := K2.cell
      have c4 := K4.cell
      have f4 := K4.frozen
      simp at c2 c4
      obtain ⟨w5, e5, K5, B5, hk5⟩ := three_set K4 rfl (.int .i64 a) (.int .i64 b) (.slice ra n rc) w.heap.size (by omega)
      have c5 := K5.cell
      simp at c5
      go_wp2_with fail
      refine bodyPost_ret (v := .tuple #[.agg #[.int .i64 a, .int .i64 b, .slice ra n rc], .bool false]) ?_ rfl ⟨_, rfl, .slice ra n rc, ?_, fun _ h => .inl h, Bw.trans B5⟩
      · simp [results, Try.results38, go_sem, c5]
      · have h0 := HR0.out.below (Bw.trans B5)
        rw [HN.out] at h0
        exact ⟨rfl, by have := h0.own; rw [HN.out] at this; simpa using (by rw [HN.out]; exact this : w5.ownsRow 0 9 1 (.slice ra n rc) l.length (textCells l))⟩
    · have hokf : ok = true := by rw [← hok]; simp; omega
      subst hokf
      have x2 : decide (b < z) = false := by simp; omega
      clear hok
      refine wp_region_ext (by kernel_rfl) (by kernel_rfl) ?_; (repeat (go_big_quiet_step ((first | (go_at_call 44; with_reducible exact calls_ext_same _ (HBB.out _)))))); refine wpQuiet_nil ?_; rintro _ ⟨gq, rfl⟩
      obtain ⟨K2, K4, own3, Bw⟩ := FIN.out _ gq.below
      generalize gq.world = w4 at *
      clear E0 E1 HBB gq x1 h1 x2 h2
      have c2 := K2.cell
      have f2 := K2.frozen
      simp at c2
      go_upto_region 5 with fail
      have K2' := K2.set_ 2 (.slice s3 (n + q) k3)
      simp at K2'
      have K4' := K4.far (p := ⟨w.heap.size, 2, none⟩) (by simp) (.slice s3 (n + q) k3)
      have o3 := own3.lt
      have hk6 : ∀ z, z ≠ w.heap.size → (w4.setCell ⟨w.heap.size, 2, none⟩ (.slice s3 (n + q) k3)).heap[z]? = w4.heap[z]? := fun z hz => Below.heap_setCell _ ⟨w.heap.size, 2, none⟩ _ z hz
      have B6 := Bw.setCell (p := ⟨w.heap.size, 2, none⟩) (Nat.le_refl _) (.slice s3 (n + q) k3)
      have own4 := own_at own3 (w' := w4.setCell ⟨w.heap.size, 2, none⟩ (.slice s3 (n + q) k3)) (fun j hj => hk6 j (by have := (o3 j hj).1; omega))
      generalize w4.setCell ⟨w.heap.size, 2, none⟩ (.slice s3 (n + q) k3) = w6 at *
      clear c2 f2 K2 K4
      have c2 := K2'.cell
      have c4 := K4'.cell
      have f4 := K4'.frozen
      simp at c2 c4
      obtain ⟨w5, e5, K5, B5, hk5⟩ := three_set K4' rfl (.int .i64 a) (.int .i64 b) (.slice s3 (n + q) k3) w.heap.size (by omega)
      have c5 := K5.cell
      simp at c5
      have own5 := own_at own4 (w' := w5) (fun j hj => hk5 j (by have := (own4.lt j hj).1; omega))
      clear hk6 o3
      go_wp2_with fail
      refine bodyPost_ret (v := .tuple #[.agg #[.int .i64 a, .int .i64 b, .slice s3 (n + q) k3], .bool true]) ?_ rfl ⟨_, rfl, .slice s3 (n + q) k3, ⟨rfl, ?_⟩, fun k hk => .inr ?_, B6.trans B5⟩
      · simp [results, Try.results38, go_sem, c5]
      · have := own_base own5
        show w5.ownsRow 0 9 1 (.slice s3 (n + q) k3) (l ++ m).length (textCells (l ++ m))
        rw [List.length_append, HN.out, HQ.out]
        exact this
      · have := (own5.lt k hk).1
        omega
end Go.Proofs.Ytomhnegfemdcdaa
