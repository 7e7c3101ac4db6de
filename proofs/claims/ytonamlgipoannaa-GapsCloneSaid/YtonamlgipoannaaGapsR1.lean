/- The document's gaps: rows, near, Clip, New, wait. No condition. -/
import Derived.Test.YtonamlgipoannaaGaps11
namespace Go.Proofs.Ytonamlgipoannaa
open Go.RowKit BigFrame
attribute [local go_sem ↓] Go.wp_at_zero Go.wp_at_succ

def WR.cells3 (r : WR) : List Value := [.int .i64 r.n, .int .i64 r.at_, .int .i64 r.t]
def rowT (l : List WR) : List Value := l.flatMap WR.cells3
theorem rowT_len (l : List WR) : (rowT l).length = l.length * 3 := by
  induction l with
  | nil => rfl
  | cons r l ih => unfold rowT at *; rw [List.flatMap_cons, List.length_append, ih, List.length_cons]; simp [WR.cells3]; omega
theorem rowT_append (l m : List WR) : rowT (l ++ m) = rowT l ++ rowT m := List.flatMap_append
theorem rowT_get (l : List WR) (i : Nat) (r : WR) (h : l[i]? = some r) (j : Nat) (hj : j < 3) : (rowT l)[i * 3 + j]? = r.cells3[j]? := by
  have hi := (List.getElem?_eq_some_iff.1 h).1
  have e : l = l.take i ++ (r :: l.drop (i + 1)) := by
    have h2 := (List.getElem?_eq_some_iff.1 h).2
    rw [← h2]
    exact (List.take_append_drop i l).symm.trans (by rw [List.drop_eq_getElem_cons hi])
  rw [e, rowT_append, List.getElem?_append_right (by rw [rowT_len, List.length_take]; omega), rowT_len, List.length_take]
  have e2 : i * 3 + j - min i l.length * 3 = j := by omega
  rw [e2]
  show (WR.cells3 r ++ _)[j]? = _
  rw [List.getElem?_append_left (by simp [WR.cells3]; omega)]
/-- A slice of the document's wanting ones that can be read. -/
structure RowT (W : World) (sa : Option Addr) (n sc : Nat) (l : List WR) : Prop where
  len : l.length = n
  cap : n ≤ sc
  most : sc ≤ 9223372036854775807
  cells : 0 < n → ∃ g off, sa = some ⟨g, off, none⟩ ∧ g < W.heap.size ∧ (∃ cs, Blk W g 125 cs) ∧ ∀ j u, (rowT l)[j]? = some u → W.cell? ⟨g, off + j, none⟩ = some u
theorem RowT.below {W W' : World} {sa : Option Addr} {n sc : Nat} {l : List WR} (h : RowT W sa n sc l) (hb : Below W.heap.size W W') : RowT W' sa n sc l :=
  ⟨h.len, h.cap, h.most, fun hn => by
    obtain ⟨g, off, e, hg, ⟨cs, K⟩, hc⟩ := h.cells hn
    exact ⟨g, off, e, Nat.lt_of_lt_of_le hg hb.size, ⟨cs, K.below hb hg⟩, fun j u hu => (hb.cell (p := ⟨g, off + j, none⟩) hg).trans (hc j u hu)⟩⟩
theorem RowT.at_ {W W' : World} {sa : Option Addr} {n sc : Nat} {l : List WR} (h : RowT W sa n sc l) (hs : W.heap.size ≤ W'.heap.size) (hk : ∀ g cs, Blk W g 125 cs → W'.heap[g]? = W.heap[g]?) : RowT W' sa n sc l :=
  ⟨h.len, h.cap, h.most, fun hn => by
    obtain ⟨g, off, e, hg, ⟨cs, K⟩, hc⟩ := h.cells hn
    exact ⟨g, off, e, Nat.lt_of_lt_of_le hg hs, ⟨cs, (hk g cs K).trans K⟩, fun j u hu => (World.cell?_of_block (hk g cs K)).trans (hc j u hu)⟩⟩
/-- The document's row stands when the gaps move: their blocks are of other types. -/
theorem RowT.moved {W W' : World} {sa : Option Addr} {n sc : Nat} {l l2 : List WR} {g : Nat} {a b c d : Int} {y : Bool} {e u : Int} {v v' : Value} (h : RowT W sa n sc l) (q : GV W g a b c d y e u l2 v) (M : Moved W W' g v v') : RowT W' sa n sc l :=
  h.at_ M.below.size (fun k _ K => M.keep k K.lt (Blk.ne_ K q.blk (by decide)) (own_ne_blk q.own K (by decide)))
theorem RowT.rec_ {W : World} {sa : Option Addr} {n sc : Nat} {l : List WR} (h : RowT W sa n sc l) (hn : 0 < n) :
    ∃ g off, sa = some ⟨g, off, none⟩ ∧ g < W.heap.size ∧ ∀ k r, l[k]? = some r → W.cell? ⟨g, off + k * 3, none⟩ = some (.int .i64 r.n) ∧ W.cell? ⟨g, off + k * 3 + 1, none⟩ = some (.int .i64 r.at_) ∧ W.cell? ⟨g, off + k * 3 + 2, none⟩ = some (.int .i64 r.t) := by
  obtain ⟨g, off, e, hg, -, hc⟩ := h.cells hn
  refine ⟨g, off, e, hg, fun k r hk => ?_⟩
  have key : ∀ j, j < 3 → ∀ u, r.cells3[j]? = some u → W.cell? ⟨g, off + k * 3 + j, none⟩ = some u := fun j hj u hu => by
    rw [Nat.add_assoc]
    exact hc _ u ((rowT_get l k r hk j hj).trans hu)
  exact ⟨key 0 (by omega) _ rfl, key 1 (by omega) _ rfl, key 2 (by omega) _ rfl⟩
theorem RowT.of_own {W : World} {B n sc : Nat} {sa : Option Addr} {l : List WR} (h : W.ownsRow B 125 3 (.slice sa n sc) n (rowT l)) : RowT W sa n sc l := by
  have hl : l.length = n := by have := h.1; rw [rowT_len] at this; omega
  rcases h.2 with ⟨e, h0⟩ | ⟨g, cap, cur, e, hb, hg, hn, hm, hs, hx⟩
  · injection e with e1 e2 e3
    subst e1 e3
    exact ⟨hl, by omega, by omega, fun hp => by omega⟩
  · injection e with e1 e2 e3
    subst e1 e3
    rw [maxLen_eq] at hm
    refine ⟨hl, hn, hm, fun hp => ⟨g, 0, rfl, (h.lt g rfl).2, ⟨cur, hg⟩, fun j u hu => ?_⟩⟩
    have hj : j < n * 3 := by
      have h1 := (List.getElem?_eq_some_iff.1 hu).1
      rw [rowT_len] at h1
      omega
    rw [Nat.zero_add, World.ownsRow.cellAt h j hj, hu]
/-- The document's gaps, as a value. -/
def gval (a b c d : Int) (y : Bool) (e u : Int) (sa : Option Addr) (n sc : Nat) : Value := .agg #[.int .i64 a, .int .i64 b, .int .i64 c, .int .i64 d, .slice sa n sc, .bool y, .int .i64 e, .int .i64 u]
def zWT : Array Value := #[.int .i64 0, .int .i64 0, .int .i64 0]
theorem info_wt : ∃ i, Try.prog.info? 125 = some i ∧ i.zero = some (.agg zWT) ∧ i.size = 3 ∧ i.bytes = 24 := by
  have h : (Try.prog.info? 125).map (fun i => (i.zero, i.size, i.bytes)) = some (some (.agg zWT), 3, 24) := by kernel_rfl
  obtain ⟨i, hi, he⟩ := Option.map_eq_some_iff.1 h
  simp only [Prod.mk.injEq] at he
  exact ⟨i, hi, he.1, he.2.1, he.2.2⟩
set_option maxHeartbeats 4000000 in
theorem eight_set {w : World} {g : Nat} {t : TypeId} {y0 y1 y2 y3 y4 y5 y6 y7 : Value} (h : Blk w g t #[y0, y1, y2, y3, y4, y5, y6, y7]) (x0 x1 x2 x3 x4 x5 x6 x7 : Value) (B : Nat) (hB : B ≤ g) :
    ∃ w2, (((((((w.setCell ⟨g, 0, none⟩ x0).setCell ⟨g, 1, none⟩ x1).setCell ⟨g, 2, none⟩ x2).setCell ⟨g, 3, none⟩ x3).setCell ⟨g, 4, none⟩ x4).setCell ⟨g, 5, none⟩ x5).setCell ⟨g, 6, none⟩ x6).setCell ⟨g, 7, none⟩ x7 = w2 ∧ Blk w2 g t #[x0, x1, x2, x3, x4, x5, x6, x7] ∧ Below B w w2 ∧ (∀ k, k ≠ g → w2.heap[k]? = w.heap[k]?) :=
  ⟨_, rfl, (((((((h.set_ 0 x0).set_ 1 x1).set_ 2 x2).set_ 3 x3).set_ 4 x4).set_ 5 x5).set_ 6 x6).set_ 7 x7, ((((((((Below.refl _ _).setCell hB _).setCell hB _).setCell hB _).setCell hB _).setCell hB _).setCell hB _).setCell hB _).setCell hB _, fun k hk => by rw [Below.heap_setCell _ _ _ _ hk, Below.heap_setCell _ _ _ _ hk, Below.heap_setCell _ _ _ _ hk, Below.heap_setCell _ _ _ _ hk, Below.heap_setCell _ _ _ _ hk, Below.heap_setCell _ _ _ _ hk, Below.heap_setCell _ _ _ _ hk, Below.heap_setCell _ _ _ _ hk]⟩
theorem ref22_near (n a b m : Int) (hab : a ≤ b) (hm : clipI n a b = m) (w : World) :
    Calls Try.prog 60 #[.int .i64 n, .int .i64 a, .int .i64 b] w fun e w' => e = .returned (.int .i64 m) ∧ w = w' := by
  have hc := clip_cases n a b m hab hm
  by_cases h1 : n < a
  · have HM := Lib.hid (show a = m by omega)
    clear hc hm
    go_enter Try.func60, Try.ntmps60
    go_wp2_with fail
    go_ret
    exact ⟨by rw [HM.out]; rfl, rfl⟩
  · by_cases h2 : b < n
    · have HM := Lib.hid (show b = m by omega)
      clear hc hm
      go_enter Try.func60, Try.ntmps60
      go_wp2_with fail
      go_ret
      exact ⟨by rw [HM.out]; rfl, rfl⟩
    · have HM := Lib.hid (show n = m by omega)
      clear hc hm
      go_enter Try.func60, Try.ntmps60
      go_wp2_with fail
      go_ret
      exact ⟨by rw [HM.out]; rfl, rfl⟩
set_option maxRecDepth 8000 in
set_option maxHeartbeats 4000000 in
theorem ref22_Clip (a b c d A B C D : Int) (hA : clipI a 1 1024 = A) (hB : clipI b 1 100 = B) (hC : clipI c 0 1048576 = C) (hD : clipI d 1 1048576 = D) (w : World) :
    Calls Try.prog 32 #[.agg #[.int .i64 a, .int .i64 b, .int .i64 c, .int .i64 d]] w fun e w' => e = .returned (.agg #[.int .i64 A, .int .i64 B, .int .i64 C, .int .i64 D]) ∧ Below w.heap.size w w' := by
  have H1 := Lib.hid (fun W => ref22_near a _ _ A (by decide) hA W)
  have H2 := Lib.hid (fun W => ref22_near b _ _ B (by decide) hB W)
  have H3 := Lib.hid (fun W => ref22_near c _ _ C (by decide) hC W)
  have H4 := Lib.hid (fun W => ref22_near d _ _ D (by decide) hD W)
  clear hA hB hC hD
  obtain ⟨k4, k5, B1⟩ := two_newW w #[.int .i64 a, .int .i64 b, .int .i64 c, .int .i64 d] #[.int .i64 0, .int .i64 0, .int .i64 0, .int .i64 0] 53 53
  go_enter Try.func32, Try.ntmps32
  go_upto_region 1 with fail
  generalize ((w.alloc (.cells #[.int .i64 a, .int .i64 b, .int .i64 c, .int .i64 d] 53)).alloc (.cells #[.int .i64 0, .int .i64 0, .int .i64 0, .int .i64 0] 53)) = w1 at *
  have E0 := fun (g : Ext w1) => g.cell (k4.cell 0) k4.lt
  have E1 := fun (g : Ext w1) => g.cell (k4.cell 1) k4.lt
  have E2 := fun (g : Ext w1) => g.cell (k4.cell 2) k4.lt
  have E3 := fun (g : Ext w1) => g.cell (k4.cell 3) k4.lt
  simp at E0 E1 E2 E3
  refine wp_region_ext_tail 12 (by kernel_rfl) (by kernel_rfl) ?_; simp only [List.take_succ_cons, List.take_zero, List.drop_succ_cons, List.drop_zero]; (repeat (go_big_quiet_step ((first | (go_at_call 60; with_reducible exact calls_ext_same _ (H1.out _)) | (go_at_call 60; with_reducible exact calls_ext_same _ (H2.out _)) | (go_at_call 60; with_reducible exact calls_ext_same _ (H3.out _)) | (go_at_call 60; with_reducible exact calls_ext_same _ (H4.out _)))))); refine wpQuiet_nil ?_; rintro _ ⟨gq, rfl⟩
  have p5 := k5.below gq.below k5.lt
  have B2 := B1.trans (gq.below.mono B1.size)
  generalize gq.world = w2 at p5 B2 ⊢
  clear E0 E1 E2 E3 k4 k5
  obtain ⟨w5, e5, K5, B5, hk5⟩ := four_set p5 rfl (.int .i64 A) (.int .i64 B) (.int .i64 C) (.int .i64 D) w.heap.size (by omega)
  have c2 := p5.cell
  have f2 := p5.frozen
  have c5 := K5.cell
  simp at c2 c5
  go_wp2_with fail
  refine bodyPost_ret (v := .agg #[.int .i64 A, .int .i64 B, .int .i64 C, .int .i64 D]) ?_ rfl ⟨rfl, B2.trans B5⟩
  simp [results, Try.results32, go_sem, c5]
  try rfl
set_option maxRecDepth 20000 in
set_option maxHeartbeats 4000000 in
theorem ref22_New (a b c d A B C D : Int) (hA : clipI a 1 1024 = A) (hB : clipI b 1 100 = B) (hC : clipI c 0 1048576 = C) (hD : clipI d 1 1048576 = D) (w : World) :
    Calls Try.prog 30 #[.agg #[.int .i64 a, .int .i64 b, .int .i64 c, .int .i64 d]] w fun e w' => e = .returned (gval A B C D false 0 0 none 0 0) ∧ Below w.heap.size w w' := by
  have HC := Lib.hid (fun W => ref22_Clip a b c d A B C D hA hB hC hD W)
  clear hA hB hC hD
  obtain ⟨k4, k5, B1⟩ := two_newW w #[.int .i64 a, .int .i64 b, .int .i64 c, .int .i64 d] #[.int .i64 0, .int .i64 0, .int .i64 0, .int .i64 0, .slice none 0 0, .bool false, .int .i64 0, .int .i64 0] 53 70
  go_enter Try.func30, Try.ntmps30
  go_upto_region 1 with fail
  generalize ((w.alloc (.cells #[.int .i64 a, .int .i64 b, .int .i64 c, .int .i64 d] 53)).alloc (.cells #[.int .i64 0, .int .i64 0, .int .i64 0, .int .i64 0, .slice none 0 0, .bool false, .int .i64 0, .int .i64 0] 70)) = w1 at *
  have c4 := k4.cell
  simp at c4
  go_wp2_with fail
  refine (HC.out w1).mono ?_
  rintro e w2 ⟨rfl, B2⟩
  have p5 := k5.below B2 k5.lt
  have BB := below_then B1 B2 (Nat.le_refl _)
  obtain ⟨w5, e5, K5, B5, -⟩ := eight_set p5 (.int .i64 A) (.int .i64 B) (.int .i64 C) (.int .i64 D) (.slice none 0 0) (.bool false) (.int .i64 0) (.int .i64 0) w.heap.size (by omega)
  have c2 := p5.cell
  have f2 := p5.frozen
  have c5 := K5.cell
  simp at c2 c5
  clear k4 k5 c4
  go_wp2_with fail
  refine bodyPost_ret (v := gval A B C D false 0 0 none 0 0) ?_ rfl ⟨rfl, BB.trans B5⟩
  simp [results, Try.results30, go_sem, c5, gval]
  try rfl
def waitN (d : Int) : Nat → Int
  | 0 => d
  | k + 1 => min (2 * waitN d k) 1048576
theorem waitN_bd (d : Int) (h0 : 0 ≤ d) (h1 : d ≤ 1048576) : ∀ k, 0 ≤ waitN d k ∧ waitN d k ≤ 1048576
  | 0 => ⟨h0, h1⟩
  | k + 1 => by
    have := waitN_bd d h0 h1 k
    unfold waitN
    omega
set_option maxHeartbeats 4000000 in
theorem ref22_wait (a b c d : Int) (T : Nat) (h0 : 0 ≤ d) (h1 : d ≤ 1048576) (hT : T ≤ 1000) (w : World) :
    Calls Try.prog 74 #[.agg #[.int .i64 a, .int .i64 b, .int .i64 c, .int .i64 d], .int .i64 ((T : Int) + 1)] w fun e w' => e = .returned (.int .i64 (waitN d T)) ∧ Below w.heap.size w w' := by
  have k4 := Blk.new w 53 #[.int .i64 a, .int .i64 b, .int .i64 c, .int .i64 d]
  have B1 : Below w.heap.size w (w.alloc (.cells #[.int .i64 a, .int .i64 b, .int .i64 c, .int .i64 d] 53)) := (Below.refl _ w).alloc (Nat.le_refl _) _
  have HWB := Lib.hid (waitN_bd d h0 h1)
  go_enter Try.func74, Try.ntmps74
  go_upto_region 1 with fail
  generalize w.alloc (.cells #[.int .i64 a, .int .i64 b, .int .i64 c, .int .i64 d] 53) = w1 at *
  have c4 := k4.cell
  simp at c4
  go_wp2_with fail
  go_loopw [5, 6] (fun x5 x6 wr => ∃ (k : Nat) (z : Int), k ≤ T ∧ x6 = .int .i64 ((k : Int) + 1) ∧ x5 = .int .i64 z ∧ Hid (waitN d k = z) ∧ w1 = wr) (fun _ x6 _ => T + 1 - (intOf x6).toNat)
  case atStart => exact ⟨0, d, by omega, rfl, rfl, Lib.hid rfl, rfl⟩
  case round =>
    obtain ⟨k, z, hk, rfl, rfl, HZ, rfl⟩ := hrel
    have hz := HWB.out k
    rw [HZ.out] at hz
    by_cases hlt : k < T
    · have p1 : (k : Int) + 1 < (T : Int) + 1 := by omega
      obtain ⟨z2, hz2⟩ : ∃ x, 2 * z = x := ⟨_, rfl⟩
      have wz : IntKind.i64.wrap (2 * z) = z2 := by rw [IntWalk.i64_in _ (by omega), hz2]
      obtain ⟨z3, hz3⟩ : ∃ x, (if 1048576 < z2 then 1048576 else z2) = x := ⟨_, rfl⟩
      have HZ3 := Lib.hid (show waitN d (k + 1) = z3 by
        unfold waitN
        rw [HZ.out, ← hz3, hz2]
        split <;> omega)
      have wk : IntKind.i64.wrap ((k : Int) + 1 + 1) = ((k + 1 : Nat) : Int) + 1 := by rw [IntWalk.i64_in _ (by omega)]; omega
      clear hz2
      go_wp2_with fail
      go_roundw
      case rel => exact ⟨k + 1, z3, by omega, by go_num, rfl, HZ3, by trivial⟩
      case measure => simp only [intOf]; omega
    · obtain rfl : k = T := by omega
      have p1 : ¬ (k : Int) + 1 < (k : Int) + 1 := by omega
      go_wp2_with fail
      go_ret
      exact ⟨by rw [HZ.out]; rfl, B1⟩
end Go.Proofs.Ytonamlgipoannaa
