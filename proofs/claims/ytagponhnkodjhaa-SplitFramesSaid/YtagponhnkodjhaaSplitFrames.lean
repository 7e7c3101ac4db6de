/- The statement SplitFrames, walked: it returns true. No condition but the frame's. -/
import Derived.Test.YtagponhnkodjhaaSplit11
import Derived.Test.YtagponhnkodjhaaFree
namespace Go.Proofs.Ytagponhnkodjhaa
open Go.RowKit Go.Maps Go.Shelf BigFrame
attribute [local go_sem ↓] Go.wp_at_zero Go.wp_at_succ

theorem SliceOf.at3 {w : World} {a : Option Addr} {len cap : Nat} {X Y Z : Nat → Value} (h : SliceOf w a len cap 3 (fun i => [X i, Y i, Z i])) (hp : 0 < len) :
    ∃ b off, a = some ⟨b, off, none⟩ ∧ b < w.heap.size ∧ ∀ i, i < len → w.cell? ⟨b, off + i * 3, none⟩ = some (X i) ∧ w.cell? ⟨b, off + i * 3 + 1, none⟩ = some (Y i) ∧ w.cell? ⟨b, off + i * 3 + 2, none⟩ = some (Z i) := by
  obtain ⟨b, off, ha, hb, hc⟩ := h.2.2 hp
  exact ⟨b, off, ha, hb, fun i hi => ⟨by have := hc i hi 0 _ rfl; simpa using this, hc i hi 1 _ rfl, hc i hi 2 _ rfl⟩⟩

theorem wf_u32 {n : Int} (h : (Lit.int .u32 n).wf = true) : 0 ≤ n ∧ n ≤ 4294967295 := by
  simp [Lit.wf, IntKind.min, IntKind.max, IntKind.signed, IntKind.bits] at h; omega
/-- A row of other cells than the block's lies elsewhere. -/
theorem slice_ne {w : World} {a : Option Addr} {n cp g : Nat} {t : TypeId} {cs : Array Value} {f : Nat → Value} (S : SliceOf w a n cp 1 (fun i => [f i])) (k : Blk w g t cs) (hn : 0 < n) (hf : ∀ j : Nat, cs[j]? ≠ some (f 0)) : ∃ b off, a = some ⟨b, off, none⟩ ∧ b ≠ g := by
  obtain ⟨b, off, rfl, hb, hc⟩ := S.at1 hn
  refine ⟨b, off, rfl, fun e => ?_⟩
  subst e
  have h0 := hc 0 hn
  rw [Nat.add_zero, k.cell off] at h0
  exact hf _ h0

structure GPut (n : Nat) (a0 r : Int) (q : Nat) (v : Value) : Prop where
  put : q = 12 → ∃ z0 zc0 z1 zc1, v = .tuple #[.agg #[.int .i64 a0, .int .i64 5, .slice z0 n zc0, .slice z1 n zc1], .int .i64 r]
  made : q = 16 → ∃ ga, v = .pointer (some ⟨ga, 0, none⟩)
/-- The worlds on the way through 'y, want := ref.Put(x, ..)'. -/
structure CPut (wr : World) (n : Nat) (a0 : Int) (h' : Nat → Bool) (d' : Nat → ByteArray) (r : Int) (L : Nat → Bool) (G : Nat → Value) (W : World) : Prop where
  below : Below wr.heap.size wr W
  put : L 12 = true → ∃ z0 zc0 z1 zc1, G 12 = .tuple #[.agg #[.int .i64 a0, .int .i64 5, .slice z0 n zc0, .slice z1 n zc1], .int .i64 r] ∧ RefV W (.agg #[.int .i64 a0, .int .i64 5, .slice z0 n zc0, .slice z1 n zc1]) a0 5 n h' d'
  late : L 17 = true → L 12 = true ∧ L 16 = true
  made : L 16 = true → ∃ ga, G 16 = .pointer (some ⟨ga, 0, none⟩) ∧ wr.heap.size ≤ ga ∧ (L 17 = false → Blk W ga 41 #[.int .i64 0, .int .i64 0, .slice none 0 0, .slice none 0 0]) ∧
    (L 17 = true → ∃ z0 zc0 z1 zc1, G 12 = .tuple #[.agg #[.int .i64 a0, .int .i64 5, .slice z0 n zc0, .slice z1 n zc1], .int .i64 r] ∧ Blk W ga 41 #[.int .i64 a0, .int .i64 5, .slice z0 n zc0, .slice z1 n zc1])
theorem CPut.quiet {wr : World} {n : Nat} {a0 : Int} {h' : Nat → Bool} {d' : Nat → ByteArray} {r : Int} {L : Nat → Bool} {G : Nat → Value} {W : World} (H : CPut wr n a0 h' d' r L G W) {q : Nat} (h1 : ¬ q = 12) (h2 : ¬ q = 16) (h3 : ¬ q = 17) : CPut wr n a0 h' d' r (upd L q) G W := by
  have e1 : upd L q 12 = L 12 := by unfold upd; rw [if_neg (fun e => h1 e.symm)]
  have e2 : upd L q 16 = L 16 := by unfold upd; rw [if_neg (fun e => h2 e.symm)]
  have e3 : upd L q 17 = L 17 := by unfold upd; rw [if_neg (fun e => h3 e.symm)]
  exact ⟨H.below, by rw [e1]; exact H.put, by rw [e1, e2, e3]; exact H.late, by rw [e2, e3]; exact H.made⟩
theorem CPut.start (wr : World) (n : Nat) (a0 : Int) (h' : Nat → Bool) (d' : Nat → ByteArray) (r : Int) (G : Nat → Value) : CPut wr n a0 h' d' r (fun _ => false) G wr.drew :=
  ⟨(Below.refl _ _).drew, (fun h => by cases h), (fun h => by cases h), (fun h => by cases h)⟩
theorem upd_at (L : Nat → Bool) (q : Nat) : upd L q q = true := by simp [upd]
theorem upd_ne (L : Nat → Bool) {q j : Nat} (h : j ≠ q) : upd L q j = L j := by simp [upd, h]
theorem CPut.step12 {wr : World} {n : Nat} {a0 : Int} {h' : Nat → Bool} {d' : Nat → ByteArray} {r : Int} {L : Nat → Bool} {G : Nat → Value} {W W' : World} (H : CPut wr n a0 h' d' r L G W) (hL : L 12 = false) {z0 : Option Addr} {zc0 : Nat} {z1 : Option Addr} {zc1 : Nat}
    (R : RefV W' (.agg #[.int .i64 a0, .int .i64 5, .slice z0 n zc0, .slice z1 n zc1]) a0 5 n h' d') (hb : Below W.heap.size W W') :
    CPut wr n a0 h' d' r (upd L 12) (upF G 12 (.tuple #[.agg #[.int .i64 a0, .int .i64 5, .slice z0 n zc0, .slice z1 n zc1], .int .i64 r])) W' := by
  have h17 : L 17 = false := by
    cases e : L 17 with
    | false => rfl
    | true => have := (H.late e).1; rw [hL] at this; cases this
  refine ⟨below_then H.below hb (Nat.le_refl _), fun _ => ⟨_, _, _, _, upF_same _ _ _, R⟩, fun h => ?_, fun h => ?_⟩
  · rw [upd_ne _ (by omega), h17] at h; cases h
  · rw [upd_ne _ (by omega)] at h
    obtain ⟨ga, g1, g2, g3, _⟩ := H.made h
    refine ⟨ga, by rw [upF_ne _ _ (by omega)]; exact g1, g2, fun _ => (g3 h17).below hb (g3 h17).lt, fun h => ?_⟩
    rw [upd_ne _ (by omega), h17] at h; cases h
theorem CPut.step16 {wr : World} {n : Nat} {a0 : Int} {h' : Nat → Bool} {d' : Nat → ByteArray} {r : Int} {L : Nat → Bool} {G : Nat → Value} {W : World} (H : CPut wr n a0 h' d' r L G W) (hL : L 16 = false) :
    CPut wr n a0 h' d' r (upd L 16) (upF G 16 (.pointer (some ⟨W.heap.size, 0, none⟩))) (W.alloc (.cells #[.int .i64 0, .int .i64 0, .slice none 0 0, .slice none 0 0] 41)) := by
  have h17 : L 17 = false := by
    cases e : L 17 with
    | false => rfl
    | true => have := (H.late e).2; rw [hL] at this; cases this
  refine ⟨H.below.alloc H.below.size _, fun h => ?_, fun h => ?_, fun _ => ⟨_, upF_same _ _ _, H.below.size, fun _ => Blk.new _ _ _, fun h => ?_⟩⟩
  · rw [upd_ne _ (by omega)] at h
    obtain ⟨z0, zc0, z1, zc1, g1, g2⟩ := H.put h
    exact ⟨z0, zc0, z1, zc1, by rw [upF_ne _ _ (by omega)]; exact g1, g2.below ((Below.refl _ _).alloc (Nat.le_refl _) _)⟩
  · rw [upd_ne _ (by omega), h17] at h; cases h
  · rw [upd_ne _ (by omega), h17] at h; cases h
theorem RefV.moved {w w' : World} {q n : Nat} {a0 : Int} {z0 : Option Addr} {zc0 : Nat} {z1 : Option Addr} {zc1 : Nat} {h : Nat → Bool} {d : Nat → ByteArray} {t : TypeId} {cs : Array Value} (R : RefV w (.agg #[.int .i64 a0, .int .i64 5, .slice z0 n zc0, .slice z1 n zc1]) a0 5 n h d) (hn : 0 < n) (k : Blk w q t cs) (hk : ∀ b, b ≠ q → w'.heap[b]? = w.heap[b]?)
    (h1 : ∀ (j : Nat) (x : Bool), cs[j]? ≠ some (.bool x)) (h2 : ∀ (j : Nat) (x : ByteArray), cs[j]? ≠ some (.string x)) : RefV w' (.agg #[.int .i64 a0, .int .i64 5, .slice z0 n zc0, .slice z1 n zc1]) a0 5 n h d := by
  obtain ⟨_, _, _, _, e, S1, S2⟩ := R
  injection e with e
  injection e with e
  simp only [List.cons.injEq, Value.slice.injEq, and_true, true_and] at e
  obtain ⟨⟨rfl, rfl⟩, rfl, rfl⟩ := e
  exact ⟨_, _, _, _, rfl, S1.moved hk (fun _ => slice_ne S1 k hn (fun j => h1 j _)), S2.moved hk (fun _ => slice_ne S2 k hn (fun j => h2 j _))⟩
theorem CPut.step17 {wr : World} {n : Nat} {a0 : Int} {h' : Nat → Bool} {d' : Nat → ByteArray} {r : Int} {L : Nat → Bool} {G : Nat → Value} {W : World} (H : CPut wr n a0 h' d' r L G W) (hn : 0 < n) (hL : L 17 = false) (h12 : L 12 = true) (h16 : L 16 = true) {z0 : Option Addr} {zc0 : Nat} {z1 : Option Addr} {zc1 ga : Nat}
    (g12 : G 12 = .tuple #[.agg #[.int .i64 a0, .int .i64 5, .slice z0 n zc0, .slice z1 n zc1], .int .i64 r]) (g16 : G 16 = .pointer (some ⟨ga, 0, none⟩)) :
    Blk W ga 41 #[.int .i64 0, .int .i64 0, .slice none 0 0, .slice none 0 0] ∧
    CPut wr n a0 h' d' r (upd L 17) (upF G 17 undef) ((((W.setCell ⟨ga, 0, none⟩ (.int .i64 a0)).setCell ⟨ga, 1, none⟩ (.int .i64 5)).setCell ⟨ga, 2, none⟩ (.slice z0 n zc0)).setCell ⟨ga, 3, none⟩ (.slice z1 n zc1)) := by
  obtain ⟨ga', e1, hga, k0, _⟩ := H.made h16
  rw [g16] at e1
  injection e1 with e1
  injection e1 with e1
  injection e1 with e1
  subst e1
  obtain ⟨z0', zc0', z1', zc1', e2, R⟩ := H.put h12
  rw [g12] at e2
  injection e2 with e2
  injection e2 with e2
  simp only [List.cons.injEq, Value.agg.injEq, Array.mk.injEq, Value.slice.injEq, and_true, true_and] at e2
  obtain ⟨⟨rfl, rfl⟩, rfl, rfl⟩ := e2
  have K := k0 hL
  obtain ⟨w2, e3, K2, B2, hk⟩ := four_set K rfl (.int .i64 a0) (.int .i64 5) (.slice z0 n zc0) (.slice z1 n zc1) wr.heap.size hga
  rw [e3]
  have R2 := R.moved hn K hk (fun j x => by match j with | 0 | 1 | 2 | 3 => simp | _ + 4 => simp) (fun j x => by match j with | 0 | 1 | 2 | 3 => simp | _ + 4 => simp)
  refine ⟨K, H.below.trans B2, fun _ => ⟨_, _, _, _, by rw [upF_ne _ _ (by omega)]; exact g12, R2⟩, fun _ => ⟨by rw [upd_ne _ (by omega)]; exact h12, by rw [upd_ne _ (by omega)]; exact h16⟩, fun _ => ⟨ga, by rw [upF_ne _ _ (by omega)]; exact g16, hga, fun h => ?_, fun _ => ⟨_, _, _, _, by rw [upF_ne _ _ (by omega)]; exact g12, K2⟩⟩⟩
  rw [upd_at] at h; cases h
theorem CPut.done {wr : World} {n : Nat} {a0 : Int} {h' : Nat → Bool} {d' : Nat → ByteArray} {r : Int} {L : Nat → Bool} {G : Nat → Value} {W : World} (H : CPut wr n a0 h' d' r L G W) (h12 : L 12 = true) (h16 : L 16 = true) (h17 : L 17 = true) {z0 : Option Addr} {zc0 : Nat} {z1 : Option Addr} {zc1 ga : Nat}
    (g12 : G 12 = .tuple #[.agg #[.int .i64 a0, .int .i64 5, .slice z0 n zc0, .slice z1 n zc1], .int .i64 r]) (g16 : G 16 = .pointer (some ⟨ga, 0, none⟩)) :
    Blk W ga 41 #[.int .i64 a0, .int .i64 5, .slice z0 n zc0, .slice z1 n zc1] ∧ RefV W (.agg #[.int .i64 a0, .int .i64 5, .slice z0 n zc0, .slice z1 n zc1]) a0 5 n h' d' ∧ wr.heap.size ≤ ga := by
  obtain ⟨ga', e1, hga, _, k0⟩ := H.made h16
  rw [g16] at e1
  injection e1 with e1
  injection e1 with e1
  injection e1 with e1
  subst e1
  obtain ⟨z0', zc0', z1', zc1', e2, R⟩ := H.put h12
  rw [g12] at e2
  injection e2 with e2
  injection e2 with e2
  simp only [List.cons.injEq, Value.agg.injEq, Array.mk.injEq, Value.slice.injEq, and_true, true_and] at e2
  obtain ⟨⟨rfl, rfl⟩, rfl, rfl⟩ := e2
  obtain ⟨z0', zc0', z1', zc1', e2, K⟩ := k0 h17
  rw [g12] at e2
  injection e2 with e2
  injection e2 with e2
  simp only [List.cons.injEq, Value.agg.injEq, Array.mk.injEq, Value.slice.injEq, and_true, true_and] at e2
  obtain ⟨⟨rfl, rfl⟩, rfl, rfl⟩ := e2
  exact ⟨K, R, hga⟩
/-- A row's block is no map. -/
theorem slice_ne_map {w : World} {a : Option Addr} {n cp m : Nat} {es : Array MapEntry} {cl : Nat} {f : Nat → Value} (S : SliceOf w a n cp 1 (fun i => [f i])) (k : w.heap[m]? = some (.map es cl)) (hn : 0 < n) : ∃ b off, a = some ⟨b, off, none⟩ ∧ b ≠ m := by
  obtain ⟨b, off, rfl, hb, hc⟩ := S.at1 hn
  refine ⟨b, off, rfl, fun e => ?_⟩
  subst e
  have h0 := hc 0 hn
  simp [World.cell?, k] at h0
theorem SliceOf.moved2 {w w' : World} {a : Option Addr} {len cap size q q' : Nat} {E : Nat → List Value} (h : SliceOf w a len cap size E) (hk : ∀ b, b < w.heap.size → b ≠ q → b ≠ q' → w'.heap[b]? = w.heap[b]?) (ha : 0 < len → ∃ b off, a = some ⟨b, off, none⟩ ∧ b ≠ q) (ha' : 0 < len → ∃ b off, a = some ⟨b, off, none⟩ ∧ b ≠ q') : SliceOf w' a len cap size E := by
  refine ⟨h.1, h.2.1, fun hp => ?_⟩
  obtain ⟨b, off, he, hlt, hc⟩ := h.2.2 hp
  obtain ⟨b1, off1, he1, hne1⟩ := ha hp
  obtain ⟨b2, off2, he2, hne2⟩ := ha' hp
  rw [he] at he1 he2
  injection he1 with he1
  injection he1 with e1 _
  injection he2 with he2
  injection he2 with e2 _
  subst e1 e2
  have hb : w'.heap[b]? = w.heap[b]? := hk b hlt hne1 hne2
  refine ⟨b, off, he, ?_, fun i hi j v hv => ?_⟩
  · rcases Nat.lt_or_ge b w'.heap.size with hl | hg
    · exact hl
    · rw [Array.getElem?_eq_none hg, Array.getElem?_eq_getElem hlt] at hb; cases hb
  · rw [← hc i hi j v hv]
    exact World.cell?_of_block hb
theorem RefV.moved2 {w w' : World} {g b n c : Nat} {time first a0 : Int} {z0 : Option Addr} {zc0 : Nat} {z1 : Option Addr} {zc1 : Nat} {h h2 : Nat → Bool} {d d2 : Nat → ByteArray} (R : RefV w (.agg #[.int .i64 a0, .int .i64 5, .slice z0 n zc0, .slice z1 n zc1]) a0 5 n h d) (hn : 0 < n) (F : FrameIs w g b time first c h2 d2) (hk : ∀ k, k < w.heap.size → k ≠ g → k ≠ b → w'.heap[k]? = w.heap[k]?) :
    RefV w' (.agg #[.int .i64 a0, .int .i64 5, .slice z0 n zc0, .slice z1 n zc1]) a0 5 n h d := by
  obtain ⟨_, _, D, ⟨kg, es, cl, km, _⟩, _⟩ := F
  obtain ⟨_, _, _, _, e, S1, S2⟩ := R
  injection e with e
  injection e with e
  simp only [List.cons.injEq, Value.slice.injEq, and_true, true_and] at e
  obtain ⟨⟨rfl, rfl⟩, rfl, rfl⟩ := e
  refine ⟨_, _, _, _, rfl, S1.moved2 hk (fun _ => slice_ne S1 kg hn (fun j => ?_)) (fun _ => slice_ne_map S1 km hn), S2.moved2 hk (fun _ => slice_ne S2 kg hn (fun j => ?_)) (fun _ => slice_ne_map S2 km hn)⟩
  all_goals
    match j with
    | 0 | 1 | 2 | 3 | 4 => simp
    | _ + 5 => simp
/-- The worlds on the way through 'f.Put(..) != want || !Is(f, x)'. -/
structure CTry (w7 : World) (g b n : Nat) (a0 : Int) (h h' : Nat → Bool) (d d' : Nat → ByteArray) (z0 : Option Addr) (zc0 : Nat) (z1 : Option Addr) (zc1 : Nat) (L : Nat → Bool) (_G : Nat → Value) (W : World) : Prop where
  below : Below b w7 W
  keep : ∀ k, k < w7.heap.size → k ≠ g → k ≠ b → W.heap[k]? = w7.heap[k]?
  fr0 : L 16 = false → FrameIs W g b a0 5 n h d
  fr1 : L 16 = true → FrameIs W g b a0 5 n h' d'
  ref : RefV W (.agg #[.int .i64 a0, .int .i64 5, .slice z0 n zc0, .slice z1 n zc1]) a0 5 n h' d'
structure GTry (r : Int) (q : Nat) (v : Value) : Prop where
  put : q = 16 → v = .int .i64 r
  is : q = 23 → v = .bool true
set_option maxRecDepth 8000 in
set_option maxHeartbeats 4000000 in
theorem SplitFrames_walk (a0 : Int) (a1 : Int) (a2a : Option Addr) (a2l a2c : Nat) (a2e0 : Nat → Int) (a2e1 : Nat → Int) (a2e2 : Nat → ByteArray) (w : World) (a0w : (Lit.int .u32 a0).wf = true) (a1w : (Lit.int .i64 a1).wf = true) (a2S : SliceOf w a2a a2l a2c 3 (fun i => [.int .i64 (a2e0 i), .int .i64 (a2e1 i), .string (a2e2 i)])) (a2F0 : ∀ i, i < a2l → (Lit.int .i64 (a2e0 i)).wf = true) (a2F1 : ∀ i, i < a2l → (Lit.int .i64 (a2e1 i)).wf = true) (a2F2 : ∀ i, i < a2l → (a2e2 i).size ≤ maxLen) :
    Calls Try.prog 6 #[.int .u32 a0, .int .i64 a1, .slice a2a a2l a2c] w fun e w' => e = .returned (.bool true) ∧ Below w.heap.size w w' := by
  have ht0 := wf_u32 a0w
  obtain ⟨n, hn⟩ : ∃ n : Nat, clipI a1 1 255 = (n : Int) := ⟨(clipI a1 1 255).toNat, by have := clip_bd a1 1 255 (by omega); omega⟩
  have hb := clip_bd a1 1 255 (by omega)
  rw [hn] at hb
  have n1 : 1 ≤ n := by omega
  have n2 : n ≤ 255 := by omega
  have wt : IntKind.i64.wrap a0 = a0 := IntWalk.i64_in _ (by omega)
  have hol := a2S.size_le
  have HN := Lib.hid hn
  have HW0 := Lib.hid a2F0
  have HW2 := Lib.hid a2F2
  clear a0w a1w hn hb a2F0 a2F1 a2F2
  go_enter Try.func6, Try.ntmps6
  go_wp2_with fail
  refine (law23_awake w).mono ?_
  rintro e w1 ⟨rfl, B1⟩
  go_wp2_with fail
  refine (frame_New a0 a1 5 n HN.out w1).mono ?_
  rintro e w2 ⟨rfl, hF, hb2⟩
  have B2 := below_then B1 hb2 (Nat.le_refl _)
  go_wp2_with fail
  refine (ref23_New a0 a1 5 n HN.out w2).mono ?_
  rintro e w3 ⟨v3, rfl, R3, hb3⟩
  have B3 := below_then hb2 hb3 (Nat.le_refl _)
  have B3w := below_then B2 hb3 (Nat.le_refl _)
  have F3 := hF.below hb3
  obtain ⟨xa0, xc0, xa1, xc1, rfl, X0, X1⟩ := R3
  have a2S3 := a2S.below B2
  clear hF B2
  go_upto_region 4 with fail
  have K4 := Blk.new w3 41 #[.int .i64 a0, .int .i64 5, .slice xa0 n xc0, .slice xa1 n xc1]
  have Bq : Below w3.heap.size w3 (w3.alloc (.cells #[.int .i64 a0, .int .i64 5, .slice xa0 n xc0, .slice xa1 n xc1] 41)) := (Below.refl _ _).alloc (Nat.le_refl _) _
  generalize w3.alloc (.cells #[.int .i64 a0, .int .i64 5, .slice xa0 n xc0, .slice xa1 n xc1] 41) = w4 at *
  have RA4 : RefAt w4 w3.heap.size a0 5 n (fun _ => false) (fun _ => ByteArray.empty) := ⟨_, _, _, _, K4, ⟨_, _, _, _, rfl, X0.below Bq, X1.below Bq⟩⟩
  have F4 := F3.below Bq
  have B4 := below_then B3 Bq (Nat.le_refl _)
  have hl3 := F3.lt
  have SL := a2S.below B1
  have hs1 := B1.size
  obtain ⟨gx, hgx⟩ : ∃ gx, w3.heap.size = gx := ⟨_, rfl⟩
  obtain ⟨b, hbb⟩ : ∃ b, w1.heap.size = b := ⟨_, rfl⟩
  obtain ⟨g, hgg⟩ : ∃ g, b + 1 = g := ⟨_, rfl⟩
  rw [hgx] at RA4 hl3 ⊢
  have SLb := Nat.le_of_eq hbb
  rw [hbb] at F4 B4 hl3 hs1 ⊢
  rw [hgg] at F4 hl3 ⊢
  clear K4 Bq X0 X1 F3 B3 a2S a2S3 hb3 hb2 HN
  go_wp2_with fail
  go_loopw [9] (fun x9 wr => ∃ (i : Nat) (h : Nat → Bool) (d : Nat → ByteArray), i ≤ 30 ∧ x9 = .int .i64 i ∧ FrameIs wr g b a0 5 n h d ∧ RefAt wr gx a0 5 n h d ∧ Below b w1 wr) (fun x9 _ => 30 - (intOf x9).toNat)
  case atStart => exact ⟨0, _, _, by omega, rfl, F4, RA4, B4⟩
  case round =>
    obtain ⟨i, h, d, hi, rfl, hF, hR, B⟩ := hrel
    clear F4 RA4 B4
    by_cases hlt : i < a2l ∧ i < 30
    · obtain ⟨hl1, hl2⟩ := hlt
      obtain ⟨eb, eoff, rfl, heb, hcell⟩ := SL.at3 (by omega)
      obtain ⟨e0, e1, e2⟩ := hcell i hl1
      obtain ⟨ix, hix⟩ : ∃ x, a2e0 i = x := ⟨_, rfl⟩
      obtain ⟨cx, hcx⟩ : ∃ x, a2e1 i = x := ⟨_, rfl⟩
      obtain ⟨sx, hsx⟩ : ∃ x, a2e2 i = x := ⟨_, rfl⟩
      have hwf := HW0.out i hl1
      have hsz := HW2.out i hl1
      rw [hix] at e0 hwf
      rw [hcx] at e1
      rw [hsx] at e2 hsz
      have d0 := (B.cell (p := ⟨eb, eoff + i * 3, none⟩) (by rw [← hbb]; exact heb)).trans e0
      have d1 := (B.cell (p := ⟨eb, eoff + i * 3 + 1, none⟩) (by rw [← hbb]; exact heb)).trans e1
      have d2 := (B.cell (p := ⟨eb, eoff + i * 3 + 2, none⟩) (by rw [← hbb]; exact heb)).trans e2
      obtain ⟨s, hs⟩ : ∃ s, cutB sx 20 = s := ⟨_, rfl⟩
      have hs6 : s.size ≤ 20 := by rw [← hs]; exact (cutB_size sx 20).1
      have HCUT := Lib.hid (fun W => law02_Cut sx s 20 hsz (by omega) hs W)
      obtain ⟨h', d', r, hp⟩ := putTo_total n h d ix cx s
      have HP := Lib.hid hp
      have HRP := Lib.hid (fun W v (K : RefV W v a0 5 n h d) => ref23_PutAny v a0 5 n h d ix cx s h' d' r hp W K n2 (by omega))
      have p0 : (0 : Int) ≤ (i : Int) := by omega
      have p1 : (i : Int) < (a2l : Int) := by omega
      have p2 : (i : Int) < 30 := by omega
      have wk : IntKind.i64.wrap ((i : Int) + 1) = ((i + 1 : Nat) : Int) := by rw [IntWalk.i64_in _ (by omega)]; omega
      have hebb : eb < b := by rw [← hbb]; exact heb
      clear hcell hix hcx hsx e0 e1 e2 hs hp hsz
      go_wp2_with fail
      refine (HCUT.out _).mono ?_
      rintro e w' ⟨rfl, rfl⟩
      go_upto_region 10 with fail
      obtain ⟨y0, yc0, y1, yc1, kx, Rx⟩ := hR
      have ckx := kx.cell
      simp at ckx
      have hwr := kx.lt
      have hBs := B.size
      have hCa : ∀ (L : Nat → Bool) (G : Nat → Value) (W : World), CPut wr n a0 h' d' r L G W → Below wr.heap.size wr W := fun L G W hC => hC.1
      refine wp_region_free [(0, 12, some 12), (13, 3, some 16), (17, 0, some 17), (18, 1, none)] (CPut wr n a0 h' d' r) (GPut n a0 r)
        (fun q => if q = 12 then .tuple #[.agg #[.int .i64 a0, .int .i64 5, .slice none n 0, .slice none n 0], .int .i64 r] else .pointer (some ⟨0, 0, none⟩)) (by kernel_rfl) (by kernel_rfl) ?_ ?_ ?_ ?_
      · intro q hq L G W hC
        simp [moversI] at hq
        exact hC.quiet hq.1 hq.2.1 hq.2.2
      · exact CPut.start _ _ _ _ _ _ _
      · intro q
        refine ⟨fun e => ?_, fun e => ?_⟩
        · subst e; exact ⟨none, 0, none, 0, rfl⟩
        · subst e; exact ⟨0, rfl⟩
      · have hne : Nonempty (UWF (CPut wr n a0 h' d' r)) := ⟨⟨_, fun _ => undef, _, CPut.start _ _ _ _ _ _ _⟩⟩
        intro G hG
        obtain ⟨z0, zc0, z1, zc1, g12⟩ := (hG 12).put rfl
        obtain ⟨ga, g16⟩ := (hG 16).made rfl
        have E8 := fun (gx' : UWF (CPut wr n a0 h' d' r)) (i : Nat) => (hCa _ _ _ gx'.holds).cell (p := ⟨gx, i, none⟩) hwr
        simp only [ckx] at E8
        have E80 := fun gx' => E8 gx' 0
        have E81 := fun gx' => E8 gx' 1
        have E82 := fun gx' => E8 gx' 2
        have E83 := fun gx' => E8 gx' 3
        simp at E80 E81 E82 E83
        clear E8
        have D0 := fun (gx' : UWF (CPut wr n a0 h' d' r)) => ((hCa _ _ _ gx'.holds).cell (p := ⟨eb, eoff + i * 3, none⟩) (show eb < wr.heap.size by omega)).trans d0
        have D1 := fun (gx' : UWF (CPut wr n a0 h' d' r)) => ((hCa _ _ _ gx'.holds).cell (p := ⟨eb, eoff + i * 3 + 1, none⟩) (show eb < wr.heap.size by omega)).trans d1
        simp only [walkF, List.drop_zero, List.drop_succ_cons, List.take_succ_cons, List.take_zero, List.toList_toArray]
        (repeat (go_big_quiet_step (fail)))
        refine wpQuiet_nil ?_
        refine ⟨_, _, _, _, _, _, rfl, .inl ⟨rfl, ?_, ?_⟩⟩
        · intro L W hL hA hC
          refine ⟨?_⟩
          go_simp
          simp only [movesToUpon]
          refine (HRP.out W _ (Rx.below hC.below)).mono ?_
          rintro e w5 ⟨v5, rfl, R5, hb5⟩
          have R5' := R5
          obtain ⟨q0, qc0, q1, qc1, rfl, _, _⟩ := R5'
          exact ⟨_, rfl, ⟨fun _ => ⟨_, _, _, _, rfl⟩, (fun e => by cases e)⟩, hC.step12 hL R5 hb5⟩
        · intro K' hK'
          dsimp only at hK'
          rw [g12]
          go_big_quiet_op
          go_big_quiet_on
          (repeat (go_big_quiet_step (fail)))
          refine wpQuiet_nil ?_
          refine ⟨_, _, _, _, _, _, rfl, .inl ⟨rfl, ?_, ?_⟩⟩
          · intro L W hL hA hC
            refine ⟨?_⟩
            go_simp
            simp only [movesToUpon]
            exact ⟨⟨(fun e => by cases e), fun _ => ⟨_, rfl⟩⟩, hC.step16 hL⟩
          · intro K' hK'
            dsimp only at hK'
            rw [g16]
            go_big_quiet_op
            go_big_quiet_on
            (repeat (go_big_quiet_step (fail)))
            refine wpQuiet_nil ?_
            refine ⟨_, _, _, _, _, _, rfl, .inl ⟨rfl, ?_, ?_⟩⟩
            · intro L W hL hA hC
              obtain ⟨K0, hC'⟩ := hC.step17 (by omega) hL (hA 12 (by kernel_rfl)) (hA 16 (by kernel_rfl)) g12 g16
              have ck0 := K0.cell
              have fk0 := K0.frozen
              simp at ck0
              refine ⟨?_⟩
              go_simp
              simp only [movesToUpon]
              exact ⟨⟨(fun e => by cases e), (fun e => by cases e)⟩, hC'⟩
            · intro K' hK'
              dsimp only at hK'
              go_big_quiet_op
              go_big_quiet_on
              (repeat (go_big_quiet_step (fail)))
              refine wpQuiet_nil ?_
              intro L W hL hC
              obtain ⟨KA, RA, hga⟩ := hC.done (hL 12 (by decide)) (hL 16 (by decide)) (hL 17 (by decide)) g12 g16
              have hbx := hC.below
              have hW := hbx.size
              clear hC hL E80 E81 E82 E83 D0 D1 hne hCa hG g12 g16
              have hFx := hF.below hbx
              go_wp2_with fail
              refine (frame_Clone g b a0 5 n h d W hFx).mono ?_
              rintro e w6 ⟨gc, bc, rfl, FC, hgc, hbc, hb6⟩
              have KA := KA.below hb6 KA.lt
              have RA := RA.below hb6
              have kx6 := (kx.below hbx kx.lt).below hb6 (by omega)
              have F6 := hFx.below hb6
              have B6 := below_then hbx hb6 (Nat.le_refl _)
              have cka := KA.cell
              have ckx6 := kx6.cell
              have fkx6 := kx6.frozen
              simp at cka ckx6
              clear ckx
              go_upto_region 13 with fail
              obtain ⟨w7, e7, K7, B67, hk7⟩ := four_set kx6 rfl (.int .i64 a0) (.int .i64 5) (.slice z0 n zc0) (.slice z1 n zc1) b (by omega)
              rw [e7]
              have hl6 := F6.lt
              have hc6 := FC.lt
              have s67 := B67.size
              have F7 := F6.kept (hk7 g (by omega)) (hk7 b (by omega))
              have FC7 := FC.kept (hk7 gc (by omega)) (hk7 bc (by omega))
              have R7 := RA.moved (by omega) kx6 hk7 (fun j x => by match j with | 0 | 1 | 2 | 3 => simp | _ + 4 => simp) (fun j x => by match j with | 0 | 1 | 2 | 3 => simp | _ + 4 => simp)
              have B7 : Below b wr w7 := (B6.mono (by omega)).trans B67
              have d0' := (B7.cell (p := ⟨eb, eoff + i * 3, none⟩) hebb).trans d0
              have d1' := (B7.cell (p := ⟨eb, eoff + i * 3 + 1, none⟩) hebb).trans d1
              have Bw7 := B.trans B7
              have hc7 := FC7.lt
              have hx7 := K7.lt
              have hcr := HP.out
              clear e7 B67 hk7 kx6 ckx6 fkx6 cka KA RA FC F6 hFx kx Rx hF d0 d1 d2 B6 hb6 hbx
              have hc0 : ∀ (L : Nat → Bool) (G : Nat → Value) (W : World), CTry w7 g b n a0 h h' d d' z0 zc0 z1 zc1 L G W → (∀ i, W.cell? ⟨gx, i, none⟩ = w7.cell? ⟨gx, i, none⟩) := fun L G W hC i => World.cell?_of_block (hC.keep gx (by omega) (by omega) (by omega))
              have hne : Nonempty (UWF (CTry w7 g b n a0 h h' d d' z0 zc0 z1 zc1)) := ⟨⟨fun _ => false, fun _ => undef, w7.drew, ⟨(Below.refl _ _).drew, fun _ _ _ _ => rfl, fun _ => F7, (fun e => by cases e), R7⟩⟩⟩
              refine wp_region_free [(0, 16, some 16), (17, 6, some 23), (24, 2, none)] (CTry w7 g b n a0 h h' d d' z0 zc0 z1 zc1) (GTry r) (fun q => if q = 16 then .int .i64 r else .bool true) (by kernel_rfl) (by kernel_rfl) ?_ ?_ ?_ ?_
              · intro q hq L G W hC
                simp [moversI] at hq
                have e1 : upd L q 16 = L 16 := upd_ne L (fun e => hq.1 e.symm)
                exact ⟨hC.below, hC.keep, by rw [e1]; exact hC.fr0, by rw [e1]; exact hC.fr1, hC.ref⟩
              · exact ⟨(Below.refl _ _).drew, fun _ _ _ _ => rfl, fun _ => F7, (fun e => by cases e), R7⟩
              · intro q
                exact ⟨fun e => by subst e; rfl, fun e => by subst e; rfl⟩
              · intro G hG
                have g16 := (hG 16).put rfl
                have g23 := (hG 23).is rfl
                have ck7 := K7.cell
                have E80 := fun (gw : UWF (CTry w7 g b n a0 h h' d d' z0 zc0 z1 zc1)) => (hc0 _ _ _ gw.holds 0).trans (ck7 0)
                have E81 := fun (gw : UWF (CTry w7 g b n a0 h h' d d' z0 zc0 z1 zc1)) => (hc0 _ _ _ gw.holds 1).trans (ck7 1)
                have E82 := fun (gw : UWF (CTry w7 g b n a0 h h' d d' z0 zc0 z1 zc1)) => (hc0 _ _ _ gw.holds 2).trans (ck7 2)
                have E83 := fun (gw : UWF (CTry w7 g b n a0 h h' d d' z0 zc0 z1 zc1)) => (hc0 _ _ _ gw.holds 3).trans (ck7 3)
                simp at E80 E81 E82 E83
                have D0 := fun (gw : UWF (CTry w7 g b n a0 h h' d d' z0 zc0 z1 zc1)) => (gw.holds.below.cell (p := ⟨eb, eoff + i * 3, none⟩) hebb).trans d0'
                have D1 := fun (gw : UWF (CTry w7 g b n a0 h h' d d' z0 zc0 z1 zc1)) => (gw.holds.below.cell (p := ⟨eb, eoff + i * 3 + 1, none⟩) hebb).trans d1'
                have jr : (r != r) = false := by simp
                simp only [walkF, List.drop_zero, List.drop_succ_cons, List.take_succ_cons, List.take_zero, List.toList_toArray]
                (repeat (go_big_quiet_step (fail)))
                refine wpQuiet_nil ?_
                refine ⟨_, _, _, _, _, _, rfl, .inl ⟨rfl, ?_, ?_⟩⟩
                · intro L W hL hA hC
                  refine ⟨?_⟩
                  go_simp
                  simp only [movesToUpon]
                  have F := hC.fr0 hL
                  have sW := hC.below.size
                  refine (frame_PutAny g b a0 5 n h d ix cx hwf s h' d' r hcr W F n2 (by omega)).mono ?_
                  rintro e w8 ⟨rfl, F8, hB8, hk8⟩
                  exact ⟨_, rfl, ⟨fun _ => rfl, (fun e => by cases e)⟩, ⟨hC.below.trans (hB8 b (by omega) (Nat.le_refl _) (by omega)), fun k hk1 hk2 hk3 => (hk8 k (by omega) hk2 hk3).trans (hC.keep k hk1 hk2 hk3), (fun e => by rw [upd_at] at e; cases e), fun _ => F8, hC.ref.moved2 (by omega) F hk8⟩⟩
                · intro K' hK'
                  dsimp only at hK'
                  rw [g16]
                  go_big_quiet_op
                  go_big_quiet_on
                  (repeat (go_big_quiet_step (fail)))
                  refine wpQuiet_nil ?_
                  refine ⟨_, _, _, _, _, _, rfl, .inl ⟨rfl, ?_, ?_⟩⟩
                  · intro L W hL hA hC
                    refine ⟨?_⟩
                    go_simp
                    simp only [movesToUpon]
                    have h16 := hA 16 (by kernel_rfl)
                    refine (law23_Is g b _ a0 5 n h' d' W (hC.fr1 h16) hC.ref n1 n2 ht0.1 ht0.2).mono ?_
                    rintro e w8 ⟨rfl, hb8⟩
                    have sW := hC.below.size
                    exact ⟨_, rfl, ⟨(fun e => by cases e), fun _ => rfl⟩, ⟨below_then hC.below hb8 (by omega), fun k hk1 hk2 hk3 => (hb8.block k (by omega)).trans (hC.keep k hk1 hk2 hk3), (fun e => by rw [upd_ne L (by omega), h16] at e; cases e), fun _ => (hC.fr1 h16).below hb8, hC.ref.below hb8⟩⟩
                  · intro K' hK'
                    dsimp only at hK'
                    rw [g23]
                    go_big_quiet_op
                    go_big_quiet_on
                    (repeat (go_big_quiet_step (fail)))
                    refine wpQuiet_nil ?_
                    intro L W8 hL hC
                    have F8 := hC.fr1 (hL 16 (by decide))
                    have R8 := hC.ref
                    have K8 : Blk W8 gx 41 _ := (hC.keep gx (by omega) (by omega) (by omega)).trans K7
                    have FC8 := FC7.kept (hC.keep gc (by omega) (by omega) (by omega)) (hC.keep bc (by omega) (by omega) (by omega))
                    have B8 := Bw7.trans hC.below
                    clear hC hL E80 E81 E82 E83 D0 D1 hne hc0 g16 g23 ck7 K7 R7 F7 FC7 d0' d1' Bw7 B7 hG
                    obtain ⟨c0, hc0⟩ : ∃ c0, cntH n h = c0 := ⟨_, rfl⟩
                    obtain ⟨c1, hc1⟩ : ∃ c1, cntH n h' = c1 := ⟨_, rfl⟩
                    have hcc := putTo_cnt hcr
                    have AH1 := frame_Have g b a0 5 n h' d' W8 F8
                    have AH2 := frame_Have gc bc a0 5 n h d W8 FC8
                    have hle := cntH_le n h'
                    have hle2 := cntH_le n h
                    rw [hc0, hc1] at hcc
                    rw [hc1] at AH1 hle
                    rw [hc0] at AH2 hle2
                    have RR : RefAt W8 gx a0 5 n h' d' := ⟨_, _, _, _, K8, R8⟩
                    have hd0 : ((c0 : Int) != (c0 : Int)) = false := by simp
                    have A1 := Lib.hid AH1
                    have A2 := Lib.hid AH2
                    have X1 := Lib.hid F8
                    have X2 := Lib.hid RR
                    clear hc0 hc1 AH1 AH2 F8 RR FC8 K8 R8 hcr HP HRP
                    rcases hcc with ⟨q1, q2⟩ | ⟨q1, q2⟩
                    · have wc : IntKind.i64.wrap ((c1 : Int) - 1) = (c0 : Int) := by rw [IntWalk.i64_in _ (by omega)]; omega
                      clear q2
                      go_wp2_with (first | (go_at_call 19; ((with_reducible refine (A2.out).mono ?_); rintro e w' ⟨rfl, rfl⟩)) | (go_at_call 19; ((with_reducible refine (A1.out).mono ?_); rintro e w' ⟨rfl, rfl⟩)))
                      go_roundw
                      case rel => exact ⟨i + 1, h', d', by omega, by go_num, X1.out, X2.out, B8⟩
                      case measure => simp only [intOf]; omega
                    · subst q2
                      go_wp2_with (first | (go_at_call 19; ((with_reducible refine (A2.out).mono ?_); rintro e w' ⟨rfl, rfl⟩)) | (go_at_call 19; ((with_reducible refine (A1.out).mono ?_); rintro e w' ⟨rfl, rfl⟩)))
                      go_roundw
                      case rel => exact ⟨i + 1, h', d', by omega, by go_num, X1.out, X2.out, B8⟩
                      case measure => simp only [intOf]; omega
    · clear hR hF
      have Bf : Below w.heap.size w wr := B1.trans (B.mono hs1)
      by_cases h1 : i < a2l
      · have j1 : (i : Int) < (a2l : Int) := by omega
        have j2 : ¬ (i : Int) < 30 := by omega
        go_wp2_with fail
        go_ret
        exact ⟨rfl, Bf⟩
      · have j1 : ¬ (i : Int) < (a2l : Int) := by omega
        go_wp2_with fail
        go_ret
        exact ⟨rfl, Bf⟩
end Go.Proofs.Ytagponhnkodjhaa
