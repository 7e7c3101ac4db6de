/- The statement CordellePaced, walked: it returns true. No condition but the frame's. -/
import Derived.Test.YtomhnegfemdcdaaPaced
import Derived.Test.YtomhnegfemdcdaaQueueV
import Derived.Test.YtomhnegfemdcdaaQueueOrder
import Derived.Test.YtomhnegfemdcdaaFree
namespace Go.Proofs.Ytomhnegfemdcdaa
open Go.RowKit BigFrame
attribute [local go_sem ↓] Go.wp_at_zero Go.wp_at_succ
attribute [local go_sem] i64_and63

set_option maxHeartbeats 1000000 in
theorem queue_NewV (n m a b : Int) (ha : clipI n 1 1073741824 = a) (hb : clipI m 1 1073741824 = b) (w : World) :
    Calls Try.prog 20 #[.int .i64 n, .int .i64 m] w fun e w' => e = .returned (.pointer (some ⟨w.heap.size, 0, none⟩)) ∧ QV w' w.heap.size a b [] 0 (.slice none 0 0) ∧ Below w.heap.size w w' := by
  have HA := Lib.hid ha
  have HB := Lib.hid hb
  clear ha hb
  go_enter Try.func20, Try.ntmps20
  go_wp2_with (first | (go_at_call 35; ((with_reducible refine (queue_clip _ a HA.out _).mono ?_); rintro e w' ⟨rfl, rfl⟩)) | (go_at_call 35; ((with_reducible refine (queue_clip _ b HB.out _).mono ?_); rintro e w' ⟨rfl, rfl⟩)))
  go_ret
  exact ⟨rfl, ⟨Blk.new _ _ _, ⟨rfl, .inl ⟨rfl, rfl⟩⟩, (by intro h; cases h)⟩, (Below.refl _ _).alloc (Nat.le_refl _) _⟩

/-- The worlds on the way through the early Take. -/
structure CEarly (wr : World) (L : Nat → Bool) (G : Nat → Value) (W : World) : Prop where
  below : Below wr.heap.size wr W
  made : L 9 = true → ∃ ga, G 9 = .pointer (some ⟨ga, 0, none⟩) ∧ wr.heap.size ≤ ga ∧ (L 10 = false → Blk W ga 25 #[.int .i64 0, .int .i64 0, .int .i64 0, .int .i64 0])
structure GEarly (n : Int) (x : P4) (q : Nat) (v : Value) : Prop where
  size : q = 4 → v = .int .i64 n
  take : q = 5 → v = .tuple #[.agg #[.int .i64 x.r, .int .i64 x.b, .int .i64 x.t, .int .i64 x.l], .bool false]
  made : q = 9 → ∃ ga, v = .pointer (some ⟨ga, 0, none⟩)
theorem upd_at (L : Nat → Bool) (q : Nat) : upd L q q = true := by simp [upd]
theorem upd_ne (L : Nat → Bool) {q j : Nat} (h : j ≠ q) : upd L q j = L j := by simp [upd, h]
theorem CEarly.on {wr : World} {L : Nat → Bool} {G : Nat → Value} {W W' : World} (H : CEarly wr L G W) (hb : Below W.heap.size W W') {q : Nat} (h9 : q ≠ 9) (h10 : q ≠ 10) (v : Value) : CEarly wr (upd L q) (upF G q v) W' := by
  refine ⟨below_then H.below hb (Nat.le_refl _), fun h => ?_⟩
  rw [upd_ne L (Ne.symm h9)] at h
  rw [upd_ne L (Ne.symm h10), upF_ne G v (Ne.symm h9)]
  obtain ⟨ga, g1, g2, g3⟩ := H.made h
  exact ⟨ga, g1, g2, fun h => (g3 h).below hb (g3 h).lt⟩
/-- The worlds on the way through the Take that counts. -/
structure CTake (wr : World) (gp : Nat) (p x : P4) (L : Nat → Bool) (_G : Nat → Value) (W : World) : Prop where
  size : wr.heap.size ≤ W.heap.size
  below : Below 0 wr W
  keep : ∀ k, k < wr.heap.size → k ≠ gp → W.heap[k]? = wr.heap[k]?
  late : L 8 = true → L 0 = true
  blk0 : L 8 = false → Blk W gp 25 #[.int .i64 p.r, .int .i64 p.b, .int .i64 p.t, .int .i64 p.l]
  blk1 : L 8 = true → Blk W gp 25 #[.int .i64 x.r, .int .i64 x.b, .int .i64 x.t, .int .i64 x.l]
structure GTake (n : Int) (p x : P4) (q : Nat) (v : Value) : Prop where
  load : q = 0 → v = .agg #[.int .i64 p.r, .int .i64 p.b, .int .i64 p.t, .int .i64 p.l]
  size : q = 3 → v = .int .i64 n
  take : q = 4 → v = .tuple #[.agg #[.int .i64 x.r, .int .i64 x.b, .int .i64 x.t, .int .i64 x.l], .bool true]
theorem CTake.on {wr : World} {gp : Nat} {p x : P4} {L : Nat → Bool} {G G' : Nat → Value} {W W' : World} (H : CTake wr gp p x L G W) (hb : Below W.heap.size W W') {q : Nat} (h0 : q = 0 ∨ L 8 = false ∨ q ≠ 8) (h8 : q ≠ 8) : CTake wr gp p x (upd L q) G' W' := by
  have s1 := H.size
  have s2 := hb.size
  refine ⟨by omega, H.below.trans (hb.mono (Nat.zero_le _)), fun k h1 h2 => (hb.block k (by omega)).trans (H.keep k h1 h2), fun h => ?_, fun h => ?_, fun h => ?_⟩
  · rw [upd_ne L (Ne.symm h8)] at h
    by_cases e : 0 = q
    · rw [← e, upd_at]
    · rw [upd_ne L e]; exact H.late h
  · rw [upd_ne L (Ne.symm h8)] at h
    exact (H.blk0 h).below hb (H.blk0 h).lt
  · rw [upd_ne L (Ne.symm h8)] at h
    exact (H.blk1 h).below hb (H.blk1 h).lt
theorem L8_of {wr : World} {gp : Nat} {p x : P4} {L : Nat → Bool} {G : Nat → Value} {W : World} (H : CTake wr gp p x L G W) (h : L 0 = false) : L 8 = false := by
  cases e : L 8 with
  | false => rfl
  | true => have := H.late e; rw [h] at this; cases this

theorem QV.kept {w w' : World} {g z : Nat} {a b y : Int} {l : List ByteArray} {v : Value} (h : QV w g a b l y v) (hk : ∀ i, i < w.heap.size → i ≠ z → w'.heap[i]? = w.heap[i]?) (hg : g ≠ z) (hv : v.ownBlock ≠ some z) : QV w' g a b l y v :=
  ⟨(hk g h.blk.lt hg).trans h.blk, own_at h.own (fun j hj => hk j (h.own.lt j hj).2 (fun e => hv (by rw [hj, e]))), h.ne⟩
set_option maxRecDepth 8000 in
set_option maxHeartbeats 8000000 in
theorem CordellePaced_walk (a0a : Option Addr) (a0l a0c : Nat) (a0e0 : Nat → ByteArray) (a1 : Int) (a2 : Int) (w : World) (a0S : SliceOf w a0a a0l a0c 1 (fun i => [.string (a0e0 i)])) (a0F0 : ∀ i, i < a0l → (a0e0 i).size ≤ maxLen) (a1w : (Lit.int .i64 a1).wf = true) (a2w : (Lit.int .i64 a2).wf = true) :
    Calls Try.prog 9 #[.slice a0a a0l a0c, .int .i64 a1, .int .i64 a2] w fun e w' => e = .returned (.bool true) ∧ Below w.heap.size w w' := by
  obtain ⟨i0, hi0, hz0, hz1, hz2⟩ := info_parts (show (Try.prog.info? 49).map (fun i => (i.zero, i.size, i.bytes)) = some (some (.string ByteArray.empty), 1, 16) by kernel_rfl)
  obtain ⟨z1, hz1'⟩ : ∃ z, a1 % 64 = z := ⟨_, rfl⟩
  obtain ⟨z2, hz2'⟩ : ∃ z, a2 % 64 = z := ⟨_, rfl⟩
  have r0 : 0 ≤ z1 ∧ z1 < 64 := by omega
  have r1 : 0 ≤ z2 ∧ z2 < 64 := by omega
  obtain ⟨r, hr⟩ : ∃ r, IntKind.i64.wrap (1 + z1) = r := ⟨_, rfl⟩
  obtain ⟨b, hb⟩ : ∃ b, IntKind.i64.wrap (40 + z2) = b := ⟨_, rfl⟩
  have hrr : 1 ≤ r ∧ r ≤ 64 := by rw [← hr, IntWalk.i64_in _ (by omega)]; omega
  have hbb : 40 ≤ b ∧ b ≤ 103 := by rw [← hb, IntWalk.i64_in _ (by omega)]; omega
  obtain ⟨rr1, rr2⟩ := hrr
  obtain ⟨bb1, bb2⟩ := hbb
  have HA := Lib.hid a0S
  have HAF := Lib.hid a0F0
  have hfit : fitP ⟨r, b, 1048576, 0⟩ = ⟨r, b, b, 0⟩ := by unfold fitP clipI; simp only [P4.mk.injEq]; omega
  have HFIT := Lib.hid hfit
  clear a1w a2w a0S a0F0 hfit r0 r1
  go_enter Try.func9, Try.ntmps9
  go_wp2_with fail
  refine (queue_NewV 50 1048576 50 1048576 (by decide) (by decide) w).mono ?_
  rintro e w1 ⟨rfl, q1, hb1⟩
  go_wp2_with fail
  refine (pace_New r b 0 _ HFIT.out w1).mono ?_
  rintro e w2 ⟨rfl, hb2⟩
  have q2 := q1.below hb2
  have B2 := below_then hb1 hb2 (Nat.le_refl _)
  go_upto_region 4 with fail
  have K3 := Blk.new w2 25 #[.int .i64 r, .int .i64 b, .int .i64 b, .int .i64 0]
  have q3 := q2.below ((Below.refl _ w2).alloc (Nat.le_refl _) (.cells #[.int .i64 r, .int .i64 b, .int .i64 b, .int .i64 0] 25))
  have B3 := B2.alloc B2.size (.cells #[.int .i64 r, .int .i64 b, .int .i64 b, .int .i64 0] 25)
  generalize w2.alloc (.cells #[.int .i64 r, .int .i64 b, .int .i64 b, .int .i64 0] 25) = w3 at *
  obtain ⟨gp, hgp⟩ : ∃ gp, w2.heap.size = gp := ⟨_, rfl⟩
  obtain ⟨g, hg⟩ : ∃ g, w.heap.size = g := ⟨_, rfl⟩
  have hggp : g < gp := by have := q2.blk.lt; omega
  rw [hgp] at K3 ⊢
  rw [hg] at q3 ⊢
  clear q1 q2 hb1 hb2 B2
  have c3 := K3.cell
  simp at c3
  have jb : (b != b) = false := by simp
  go_wp2_with fail
  refine (law02_Few a0a a0l a0c a0e0 30 40 w3 (HA.out.below B3) HAF.out (by omega) (by omega)).mono ?_
  rintro e w4 ⟨v4, rfl, own4, hb4⟩
  obtain ⟨N, hN⟩ : ∃ N, min a0l 30 = N := ⟨_, rfl⟩
  have hN30 : N ≤ 30 := by omega
  rw [hN] at own4
  obtain ⟨L, hL⟩ : ∃ L, (List.range N).map (fun i => cutB (a0e0 i) 40) = L := ⟨_, rfl⟩
  have hLl : L.length = N := by rw [← hL]; simp
  have hLs : ∀ s ∈ L, s.size ≤ 40 := fun s hs => by
    rw [← hL] at hs
    obtain ⟨i, _, rfl⟩ := List.mem_map.1 hs
    exact (cutB_size _ _).1
  have hcut : ∀ i, i < N → (cutCells a0e0 40 N)[i]? = some (.string (L.getD i .empty)) := fun i hi => by rw [cutCells_get _ _ _ _ hi, ← hL]; simp [List.getD_eq_getElem?_getD, hi]
  obtain ⟨aL, cL, rfl, hrow⟩ : ∃ aL cL, v4 = .slice aL N cL ∧ N ≤ cL ∧ (0 < N → ∃ lb, aL = some ⟨lb, 0, none⟩ ∧ w3.heap.size ≤ lb ∧ lb < w4.heap.size ∧ ∀ i, i < N → w4.cell? ⟨lb, i, none⟩ = some (.string (L.getD i .empty))) := by
    have own5 := own4
    rcases own4.2 with ⟨rfl, h0⟩ | ⟨g', cap', cur, rfl, hbb, hgx, hnx, _⟩
    · rw [h0]; exact ⟨_, _, rfl, by omega, fun h => absurd h (by omega)⟩
    · refine ⟨_, _, rfl, hnx, fun _ => ⟨g', rfl, hbb, (own5.lt g' rfl).2, fun i hi => ?_⟩⟩
      have := World.ownsRow.cellAt own5 i (by omega)
      rw [this]; exact hcut i hi
  obtain ⟨hcl, hrow⟩ := hrow
  have HROW := Lib.hid hrow
  have HLL := Lib.hid hLl
  have HLS := Lib.hid hLs
  have q4 := q3.below hb4
  have K4 := K3.below hb4 K3.lt
  have B4 := below_then B3 hb4 (Nat.le_refl _)
  have hs34 := hb4.size
  have hs3 := K3.lt
  clear q3 K3 c3 own4 hL hLl hLs hcut hrow hN HA HAF B3 hb4 HFIT
  go_wp2_with fail
  go_loopw [42] (fun x42 wr => ∃ (k : Nat) (v : Value), k ≤ N ∧ x42 = .int .i64 k ∧ QV wr g 50 1048576 (L.take k) (sumQ (L.take k)) v ∧ Moved w4 wr g (.slice none 0 0) v) (fun x42 _ => N - (intOf x42).toNat)
  case atStart => exact ⟨0, _, by omega, rfl, q4, Moved.of_below (Below.refl _ _)⟩
  case round =>
    obtain ⟨k, v, hk, rfl, q, M⟩ := hrel
    clear q4
    by_cases hlt : k < N
    · obtain ⟨lb, rfl, hlb0, hlb, hcell⟩ := HROW.out (by omega)
      have hd := (M.keep lb hlb (by omega) (by simp [Value.ownBlock]))
      have d0 : wr.cell? ⟨lb, k, none⟩ = some (.string (L.getD k .empty)) := (World.cell?_of_block hd).trans (hcell k hlt)
      obtain ⟨s, hs⟩ : ∃ s, L.getD k .empty = s := ⟨_, rfl⟩
      have hss : s.size ≤ 40 := by rw [← hs]; exact HLS.out _ (by rw [List.getD_eq_getElem?_getD, List.getElem?_eq_getElem (by rw [HLL.out]; exact hlt)]; simp)
      have htk : L.take (k + 1) = L.take k ++ [s] := by rw [← hs, List.take_add_one, List.getD_eq_getElem?_getD, List.getElem?_eq_getElem (by rw [HLL.out]; exact hlt)]; simp
      have hsm := sumQ_bd (L.take k)
      have hsl : sumQ (L.take k) ≤ 40 * 30 := by
        have h2 : ∀ (l : List ByteArray), (∀ s ∈ l, s.size ≤ 40) → sumQ l ≤ 40 * l.length := by
          intro l
          induction l with
          | nil => intro _; simp [sumQ]
          | cons s l ih =>
            intro h
            have h1 := h s (by simp)
            have h2 := ih (fun t ht => h t (by simp [ht]))
            rw [sumQ, List.length_cons]; omega
        have h3 := h2 (L.take k) (fun s hs => HLS.out s (List.take_subset _ _ hs))
        have h4 : (L.take k).length ≤ 30 := by rw [List.length_take, HLL.out]; omega
        omega
      have hlk : (L.take k).length = k := by rw [List.length_take, HLL.out]; omega
      have hs1 : sumQ [s] ≤ 40 ∧ 0 ≤ sumQ [s] := by simp [sumQ]; omega
      have q' := q.below ((Below.refl _ wr).alloc (Nat.le_refl _) (.cells #[.string s] 49))
      have HP := Lib.hid (queue_PushV g 50 1048576 (sumQ (L.take k)) (L.take k) [s] v _ 1 1 (wr.alloc (.cells #[.string s] 49)) q' (by omega) (by omega) (by omega) (by omega) hsm.1 (by omega) (by omega) rfl (by omega) (by omega) (SliceOf.lit (n := 1) (Blk.new _ _ _) rfl (by decide) (fun i => .string ([s].getD i .empty)) (fun i hi => by
        obtain rfl : i = 0 := by omega
        rfl)) ⟨by omega, by omega⟩)
      have M' := M.trans (Moved.of_below (v := v) ((Below.refl _ wr).alloc (Nat.le_refl _) (.cells #[.string s] 49)))
      have wk : IntKind.i64.wrap ((k : Int) + 1) = ((k + 1 : Nat) : Int) := by rw [IntWalk.i64_in _ (by omega)]; omega
      have i0' : (0 : Int) ≤ (k : Int) := by omega
      have i1' : (k : Int) < (N : Int) := by omega
      rw [hs] at d0
      have HTK := Lib.hid htk
      clear hs htk hsm hsl hlk hs1 q' hd hcell q
      go_wp2_with fail
      refine HP.out.mono ?_
      rintro e w6 ⟨rfl, v', q6, M6⟩
      clear HP
      go_wp2_with fail
      go_roundw
      case rel => exact ⟨k + 1, v', by omega, by go_num, by rw [HTK.out]; rw [sumQ_append]; exact q6, M'.trans M6⟩
      case measure => simp only [intOf]; omega
    · obtain rfl : k = N := by omega
      have j1 : ¬ (k : Int) < (k : Int) := by omega
      have hall : L.take k = L := by rw [← HLL.out]; exact List.take_length
      rw [hall] at q
      have hs4 := M.below.size
      have B5 : Below w.heap.size w wr := B4.trans ⟨M.below.os, M.below.tape, M.below.output, hs4, fun j hj => M.keep j (by omega) (by omega) (by simp [Value.ownBlock])⟩
      have K5 : Blk wr gp 25 _ := (M.keep gp (by have := K4.lt; omega) (by omega) (by simp [Value.ownBlock])).trans K4
      have hbase : ∀ j, v.ownBlock = some j → w4.heap.size ≤ j := fun j hj => by
        rcases M.row j hj with h | h
        · simp [Value.ownBlock] at h
        · exact h
      have hrow2 : 0 < k → ∃ lb, aL = some ⟨lb, 0, none⟩ ∧ w3.heap.size ≤ lb ∧ lb < w4.heap.size ∧ ∀ i, i < k → wr.cell? ⟨lb, i, none⟩ = some (.string (L.getD i .empty)) := fun h => by
        obtain ⟨lb, e1, e2, e3, e4⟩ := HROW.out h
        exact ⟨lb, e1, e2, e3, fun i hi => (World.cell?_of_block (M.keep lb e3 (by omega) (by simp [Value.ownBlock]))).trans (e4 i hi)⟩
      have HROW2 := Lib.hid hrow2
      have hl4 := K4.lt
      clear M K4 B4 hall hrow2 HROW
      obtain ⟨wl, hwl⟩ : ∃ wl, wl = wr := ⟨_, rfl⟩
      subst hwl
      go_wp2_with fail
      go_loopw [11, 12, 54] (fun x11 x12 x54 wy => ∃ (j : Nat) (u : Value) (t l all m : Int), j ≤ k ∧ x54 = .int .i64 j ∧ x11 = .int .i64 l ∧ x12 = .int .i64 all ∧ QV wy g 50 1048576 (L.drop j) (sumQ (L.drop j)) u ∧ (∀ i, u.ownBlock = some i → w4.heap.size ≤ i) ∧
        Blk wy gp 25 #[.int .i64 r, .int .i64 b, .int .i64 t, .int .i64 l] ∧ Below w.heap.size w wy ∧ (∀ q, q < w4.heap.size → q ≠ g → q ≠ gp → wy.heap[q]? = wl.heap[q]?) ∧ w4.heap.size ≤ wy.heap.size ∧ r * l = m ∧ 0 ≤ t ∧ t ≤ b ∧ 0 ≤ l ∧ l ≤ 40 * j ∧ 0 ≤ all ∧ all ≤ 40 * j ∧ all + t ≤ b + m) (fun _ _ x54 _ => k - (intOf x54).toNat)
      case atStart => exact ⟨0, v, b, 0, 0, 0, by omega, rfl, rfl, rfl, q, hbase, K5, B5, fun _ _ _ _ => rfl, hs4, by simp, by omega, by omega, by omega, by omega, by omega, by omega, by omega⟩
      case round =>
        obtain ⟨j, u, t, l, all, m, hj, rfl, rfl, rfl, q, hbu, Kp, Bw, hkq, hsz, hm, t0, t1, l0, l1, a0', a1', hinv⟩ := hrel
        clear K5 B5
        by_cases hlt : j < k
        · obtain ⟨lb, rfl, hlb0, hlb, hcell⟩ := HROW2.out (by omega)
          have d0 := (World.cell?_of_block (hkq lb hlb (by omega) (by omega))).trans (hcell j hlt)
          obtain ⟨s, hs⟩ : ∃ s, L.getD j .empty = s := ⟨_, rfl⟩
          have hss : s.size ≤ 40 := by rw [← hs]; exact HLS.out _ (by rw [List.getD_eq_getElem?_getD, List.getElem?_eq_getElem (by rw [HLL.out]; exact hlt)]; simp)
          have hdr := drop_cons L j (by rw [HLL.out]; exact hlt)
          rw [hs] at d0 hdr
          rw [hdr] at q
          obtain ⟨n, hn⟩ : ∃ n, s.size = n := ⟨_, rfl⟩
          rw [hn] at hss
          have HNN := Lib.hid hn
          obtain ⟨d, kk, qq, hkk, hd, hqq, hd0, hd1, hq0, hq1, ht2, htk, hearly⟩ := paced_step r b t l (n : Int) (by omega) (by omega) (by omega) (by omega) t0 t1 l0 (by omega) (by omega) (by omega)
          obtain ⟨t2, ht2'⟩ : ∃ t2, min b (t + qq) - (n : Int) = t2 := ⟨_, rfl⟩
          rw [ht2'] at ht2 htk
          have ht2a : t2 ≤ b := by omega
          have ht2b : t2 ≤ t + qq - n := by omega
          have HTK := Lib.hid htk
          have hm2 : r * (l + d) = m + qq := by rw [Int.mul_add, hm, Int.mul_comm r d, hqq]
          have HM2 := Lib.hid hm2
          have hdl : (L.drop (j + 1)).length = k - (j + 1) := by rw [List.length_drop, HLL.out]
          have HDL := Lib.hid hdl
          have hy : 0 ≤ sumQ (s :: L.drop (j + 1)) ∧ sumQ (s :: L.drop (j + 1)) ≤ 1073741824 ∧ sumQ [s] ≤ sumQ (s :: L.drop (j + 1)) := by
            have h1 := sumQ_bd (L.drop (j + 1))
            have h2 : ∀ (l : List ByteArray), (∀ s ∈ l, s.size ≤ 40) → sumQ l ≤ 40 * l.length := by
              intro l
              induction l with
              | nil => intro _; simp [sumQ]
              | cons s l ih =>
                intro h
                have h1 := h s (by simp)
                have h2 := ih (fun t ht => h t (by simp [ht]))
                rw [sumQ, List.length_cons]; omega
            have h3 := h2 (L.drop (j + 1)) (fun s hs => HLS.out s (List.drop_subset _ _ hs))
            simp only [sumQ]
            omega
          have HY := Lib.hid hy
          have hfit : FitP ⟨r, b, t, l⟩ := by unfold FitP; simp only; omega
          have HWN := Lib.hid (fun (gx : Ext wr) => pace_When ⟨r, b, t, l⟩ hfit (n : Int) kk d (by omega) (by simp only; omega) hkk hd hd0 (by simp only; omega) gx.world)
          have hsz1 : ∀ W : World, Calls Try.prog 31 #[.string s] W fun e w' => e = .returned (.int .i64 (n : Int)) ∧ W = w' := fun W => by rw [← HNN.out]; exact text_Size s W
          have HSZ := Lib.hid (fun (gx : Ext wr) => hsz1 gx.world)
          have HEA := Lib.hid hearly
          have HFR0 := (queue_Front 0 g 50 1048576 (sumQ (s :: L.drop (j + 1))) (s :: L.drop (j + 1)) wr q.at)
          simp only [List.headD_cons, List.isEmpty_cons, Bool.not_false] at HFR0
          have HFR := Lib.hid HFR0
          clear HFR0
          have HBM := Lib.hid (show r * l = m from hm)
          have i0' : (0 : Int) ≤ (j : Int) := by omega
          have i1' : (j : Int) < (k : Int) := by omega
          have wk : IntKind.i64.wrap ((j : Int) + 1) = ((j + 1 : Nat) : Int) := by rw [IntWalk.i64_in _ (by omega)]; omega
          have wa : IntKind.i64.wrap (all + (n : Int)) = all + n := IntWalk.i64_in _ (by omega)
          have hm3 : 0 ≤ m + qq ∧ m + qq ≤ 64 * 1240 := by
            rw [← hm2]
            have e1 : r * (l + d) ≤ 64 * 1240 := Int.mul_le_mul (by omega) (by omega) (by omega) (by omega)
            exact ⟨Int.mul_nonneg (by omega) (by omega), e1⟩
          have wm : IntKind.i64.wrap (r * (l + d)) = m + qq := by rw [hm2, IntWalk.i64_in _ (by omega)]
          have wb : IntKind.i64.wrap (b + (m + qq)) = b + (m + qq) := IntWalk.i64_in _ (by omega)
          have jc : ¬ b + (m + qq) < all + (n : Int) := by omega
          have E0 := fun (gx : Ext wr) => gx.cell (Kp.cell 0) Kp.lt
          have E1 := fun (gx : Ext wr) => gx.cell (Kp.cell 1) Kp.lt
          have E2 := fun (gx : Ext wr) => gx.cell (Kp.cell 2) Kp.lt
          have E3 := fun (gx : Ext wr) => gx.cell (Kp.cell 3) Kp.lt
          simp at E0 E1 E2 E3
          have hKl := Kp.lt
          clear hs hdr hn hkk hd hqq htk ht2' hearly hm hm2 hcell hsz1 hfit hdl hy
          go_wp2_with fail
          refine HFR.out.mono ?_
          rintro e w' ⟨rfl, rfl⟩
          go_upto_region 20 with fail
          refine wp_region_ext (by kernel_rfl) (by kernel_rfl) ?_; (repeat (go_big_quiet_step ((first | (go_at_call 31; with_reducible exact calls_ext_same _ (HSZ.out _)) | (go_at_call 30; with_reducible exact calls_ext _ (HWN.out _)))))); refine wpQuiet_nil ?_; rintro _ ⟨gq, rfl⟩
          obtain ⟨wx, hwx⟩ : ∃ wx, gq.world = wx := ⟨_, rfl⟩
          have hbq := gq.below
          rw [hwx] at hbq ⊢
          clear hwx gq HWN HSZ
          have jl : ¬ l + d < l := by omega
          have jm : ¬ (1048576 : Int) < l + d := by omega
          by_cases hdz : d = 0
          · have jg : ¬ l < l + d := by omega
            clear hdz
            have BX : Below wr.heap.size wr wx := hbq
            have qx := q.below BX
            have Kx := Kp.below BX Kp.lt
            have sx := BX.size
            clear q Kp E0 E1 E2 E3
            go_upto_region 29 with fail
            have hne : Nonempty (UWF (CTake wx gp ⟨r, b, t, l⟩ ⟨r, b, t2, l + d⟩)) := ⟨⟨fun _ => false, fun _ => undef, wx.drew, ⟨Nat.le_refl _, (Below.refl _ _).drew, fun _ _ _ => rfl, (fun e => by cases e), fun _ => Kx.drew, (fun e => by cases e)⟩⟩⟩
            refine wp_region_free [(0, 0, some 0), (1, 2, some 3), (4, 0, some 4), (5, 3, some 8), (9, 1, none)] (CTake wx gp ⟨r, b, t, l⟩ ⟨r, b, t2, l + d⟩) (GTake (n : Int) ⟨r, b, t, l⟩ ⟨r, b, t2, l + d⟩) (fun q => if q = 0 then .agg #[.int .i64 r, .int .i64 b, .int .i64 t, .int .i64 l] else if q = 3 then .int .i64 (n : Int) else .tuple #[.agg #[.int .i64 r, .int .i64 b, .int .i64 t2, .int .i64 (l + d)], .bool true]) (by kernel_rfl) (by kernel_rfl) ?_ ?_ ?_ ?_
            · intro z hz LL G W hC
              simp [moversI] at hz
              exact hC.on (G' := G) (Below.refl _ _) (.inr (.inr hz.2.2.2)) hz.2.2.2
            · exact ⟨Nat.le_refl _, (Below.refl _ _).drew, fun _ _ _ => rfl, (fun e => by cases e), fun _ => Kx.drew, (fun e => by cases e)⟩
            · intro z
              exact ⟨fun e => by subst e; rfl, fun e => by subst e; rfl, fun e => by subst e; rfl⟩
            · intro G hG
              have g0 := (hG 0).load rfl
              have g3 := (hG 3).size rfl
              have g4 := (hG 4).take rfl
              simp only [walkF, List.drop_zero, List.drop_succ_cons, List.take_succ_cons, List.take_zero, List.toList_toArray]; (repeat (go_big_quiet_step (fail))); refine wpQuiet_nil ?_
              refine ⟨_, _, _, _, _, _, rfl, .inl ⟨rfl, ?_, ?_⟩⟩
              · intro LL W hL hA hC
                have k0 := (hC.blk0 (L8_of hC hL)).cell
                simp at k0
                refine ⟨?_⟩; go_simp; simp only [movesToUpon]
                exact ⟨⟨fun _ => rfl, (fun e => by cases e), (fun e => by cases e)⟩, hC.on (Below.refl _ _) (.inl rfl) (by decide)⟩
              · intro K' hK'; dsimp only at hK'; rw [g0]; go_big_quiet_op; go_big_quiet_on; (repeat (go_big_quiet_step (fail))); refine wpQuiet_nil ?_
                refine ⟨_, _, _, _, _, _, rfl, .inl ⟨rfl, ?_, ?_⟩⟩
                · intro LL W hL hA hC
                  refine ⟨?_⟩; go_simp; simp only [movesToUpon]
                  refine (text_Size s W).mono ?_
                  rintro e w' ⟨rfl, rfl⟩
                  exact ⟨_, rfl, ⟨(fun e => by cases e), fun _ => by rw [HNN.out], (fun e => by cases e)⟩, hC.on (Below.refl _ _) (.inr (.inr (by decide))) (by decide)⟩
                · intro K' hK'; dsimp only at hK'; rw [g3]; go_big_quiet_op; go_big_quiet_on; (repeat (go_big_quiet_step (fail))); refine wpQuiet_nil ?_
                  refine ⟨_, _, _, _, _, _, rfl, .inl ⟨rfl, ?_, ?_⟩⟩
                  · intro LL W hL hA hC
                    refine ⟨?_⟩; go_simp; simp only [movesToUpon]
                    refine (pace_Take ⟨r, b, t, l⟩ ⟨r, b, t2, l + d⟩ true (l + d) (n : Int) HTK.out W).mono ?_
                    rintro e w' ⟨rfl, hb'⟩
                    exact ⟨_, rfl, ⟨(fun e => by cases e), (fun e => by cases e), fun _ => rfl⟩, hC.on hb' (.inr (.inr (by decide))) (by decide)⟩
                  · intro K' hK'; dsimp only at hK'; rw [g4]; go_big_quiet_op; go_big_quiet_on; (repeat (go_big_quiet_step (fail))); refine wpQuiet_nil ?_
                    refine ⟨_, _, _, _, _, _, rfl, .inl ⟨rfl, ?_, ?_⟩⟩
                    · intro LL W hL hA hC
                      have k0 := hC.blk0 hL
                      have ck0 := k0.cell
                      have fk0 := k0.frozen
                      simp at ck0
                      obtain ⟨wS, eS, KS, BS, hkS⟩ := four_set k0 rfl (.int .i64 r) (.int .i64 b) (.int .i64 t2) (.int .i64 (l + d)) 0 (Nat.zero_le _)
                      refine ⟨?_⟩; go_simp; simp only [movesToUpon]
                      exact ⟨⟨(fun e => by cases e), (fun e => by cases e), (fun e => by cases e)⟩, ⟨Nat.le_trans hC.size BS.size, hC.below.trans BS, fun k h1 h2 => (hkS k h2).trans (hC.keep k h1 h2), fun _ => by rw [upd_ne LL (by decide)]; exact hA 0 (by kernel_rfl), (fun e => by rw [upd_at] at e; cases e), fun _ => KS⟩⟩
                    · intro K' hK'; dsimp only at hK'; go_big_quiet_op; go_big_quiet_on; (repeat (go_big_quiet_step (fail))); refine wpQuiet_nil ?_
                      intro LL w9 hL hC
                      have K9 := hC.blk1 (hL 8 (by decide))
                      have sx9 := hC.size
                      have q9 := qx.kept hC.keep (by omega) (fun e => by have := hbu _ e; omega)
                      have B9 : Below 0 wx w9 := hC.below
                      have hk9 := hC.keep
                      clear hC hL hG g0 g3 g4 hne Kx qx
                      go_wp2_with fail
                      refine (queue_PopV g 50 1048576 (sumQ (s :: L.drop (j + 1))) s (L.drop (j + 1)) u w9 q9 (by rw [HDL.out]; omega) HY.out.1 HY.out.2.1 HY.out.2.2).mono ?_
                      rintro e w10 ⟨rfl, u', q10, M10⟩
                      have q11 : QV w10 g 50 1048576 (L.drop (j + 1)) (sumQ (L.drop (j + 1))) u' := by
                        have e1 : sumQ (s :: L.drop (j + 1)) - sumQ [s] = sumQ (L.drop (j + 1)) := by simp only [sumQ]; omega
                        rw [← e1]; exact q10
                      have s10 := M10.below.size
                      have K10 : Blk w10 gp 25 #[.int .i64 r, .int .i64 b, .int .i64 t2, .int .i64 (l + d)] := (M10.keep gp (by omega) (by omega) (fun e => by have := hbu _ e; omega)).trans K9
                      have hk10 : ∀ q, q < w4.heap.size → q ≠ g → q ≠ gp → w10.heap[q]? = wl.heap[q]? := fun q h1 h2 h3 => (M10.keep q (by omega) h2 (fun e => by have := hbu _ e; omega)).trans ((hk9 q (by omega) h3).trans ((BX.block q (by omega)).trans (hkq q h1 h2 h3)))
                      have hbu' : ∀ i, u'.ownBlock = some i → w4.heap.size ≤ i := fun i hi => by
                        rcases M10.row i hi with h | h
                        · exact hbu i h
                        · omega
                      have Bw10 : Below w.heap.size w w10 := Bw.trans ⟨(BX.os ▸ (B9.os ▸ M10.below.os)), (BX.tape ▸ (B9.tape ▸ M10.below.tape)), (BX.output ▸ (B9.output ▸ M10.below.output)), by omega, fun q hq => (M10.keep q (by omega) (by omega) (fun e => by have := hbu _ e; omega)).trans ((hk9 q (by omega) (by omega)).trans (BX.block q (by omega)))⟩
                      clear q9 q10 M10 K9 hk9 hkq
                      go_wp2_with fail
                      refine (text_Size s w10).mono ?_
                      rintro e w' ⟨rfl, rfl⟩
                      rw [HNN.out]
                      go_wp2_with fail
                      go_roundw
                      case rel => exact ⟨j + 1, u', t2, l + d, all + n, m + qq, by omega, by go_num, by go_num, by go_num, q11, hbu', K10, Bw10, hk10, by omega, HM2.out, by omega, by omega, by omega, by omega, by omega, by omega, by omega⟩
                      case measure => simp only [intOf]; omega
          · have hdp : 0 < d := by omega
            have jg : l < l + d := by omega
            clear hdz
            obtain ⟨xe, hxe⟩ := HEA.out hdp
            have HXE := Lib.hid hxe
            have wd : IntKind.i64.wrap (l + d - 1) = l + d - 1 := IntWalk.i64_in _ (by omega)
            clear hxe
            have BX0 : Below wr.heap.size wr wx := hbq
            have Kx0 := Kp.below BX0 Kp.lt
            go_upto_region 24 with fail
            have hne0 : Nonempty (UWF (CEarly wx)) := ⟨⟨fun _ => false, fun _ => undef, wx.drew, ⟨(Below.refl _ _).drew, (fun e => by cases e)⟩⟩⟩
            refine wp_region_free [(0, 4, some 4), (5, 0, some 5), (6, 3, some 9), (10, 0, some 10), (11, 1, none)] (CEarly wx) (GEarly (n : Int) xe) (fun q => if q = 4 then .int .i64 (n : Int) else if q = 5 then .tuple #[.agg #[.int .i64 xe.r, .int .i64 xe.b, .int .i64 xe.t, .int .i64 xe.l], .bool false] else .pointer (some ⟨0, 0, none⟩)) (by kernel_rfl) (by kernel_rfl) ?_ ?_ ?_ ?_
            · intro z hz LL G W hC
              simp [moversI] at hz
              refine ⟨hC.below, fun h => ?_⟩
              rw [upd_ne LL (Ne.symm hz.2.2.1)] at h
              rw [upd_ne LL (Ne.symm hz.2.2.2)]
              exact hC.made h
            · exact ⟨(Below.refl _ _).drew, (fun e => by cases e)⟩
            · intro z
              exact ⟨fun e => by subst e; rfl, fun e => by subst e; rfl, fun e => by subst e; exact ⟨0, rfl⟩⟩
            · intro G hG
              have g4 := (hG 4).size rfl
              have g5 := (hG 5).take rfl
              obtain ⟨ga, g9⟩ := (hG 9).made rfl
              have E0 := fun (gw : UWF (CEarly wx)) => (gw.holds.below.cell (p := ⟨gp, 0, none⟩) Kx0.lt).trans (Kx0.cell 0)
              have E1 := fun (gw : UWF (CEarly wx)) => (gw.holds.below.cell (p := ⟨gp, 1, none⟩) Kx0.lt).trans (Kx0.cell 1)
              have E2 := fun (gw : UWF (CEarly wx)) => (gw.holds.below.cell (p := ⟨gp, 2, none⟩) Kx0.lt).trans (Kx0.cell 2)
              have E3 := fun (gw : UWF (CEarly wx)) => (gw.holds.below.cell (p := ⟨gp, 3, none⟩) Kx0.lt).trans (Kx0.cell 3)
              simp at E0 E1 E2 E3
              simp only [walkF, List.drop_zero, List.drop_succ_cons, List.take_succ_cons, List.take_zero, List.toList_toArray]; (repeat (go_big_quiet_step (fail))); refine wpQuiet_nil ?_
              refine ⟨_, _, _, _, _, _, rfl, .inl ⟨rfl, ?_, ?_⟩⟩
              · intro LL W hL hA hC
                refine ⟨?_⟩; go_simp; simp only [movesToUpon]
                refine (text_Size s W).mono ?_
                rintro e w' ⟨rfl, rfl⟩
                exact ⟨_, rfl, ⟨fun _ => by rw [HNN.out], (fun e => by cases e), (fun e => by cases e)⟩, hC.on (Below.refl _ _) (by decide) (by decide) _⟩
              · intro K' hK'; dsimp only at hK'; rw [g4]; go_big_quiet_op; go_big_quiet_on; (repeat (go_big_quiet_step (fail))); refine wpQuiet_nil ?_
                refine ⟨_, _, _, _, _, _, rfl, .inl ⟨rfl, ?_, ?_⟩⟩
                · intro LL W hL hA hC
                  refine ⟨?_⟩; go_simp; simp only [movesToUpon]
                  refine (pace_Take ⟨r, b, t, l⟩ xe false (l + d - 1) (n : Int) HXE.out W).mono ?_
                  rintro e w' ⟨rfl, hb'⟩
                  exact ⟨_, rfl, ⟨(fun e => by cases e), fun _ => rfl, (fun e => by cases e)⟩, hC.on hb' (by decide) (by decide) _⟩
                · intro K' hK'; dsimp only at hK'; rw [g5]; go_big_quiet_op; go_big_quiet_on; (repeat (go_big_quiet_step (fail))); refine wpQuiet_nil ?_
                  refine ⟨_, _, _, _, _, _, rfl, .inl ⟨rfl, ?_, ?_⟩⟩
                  · intro LL W hL hA hC
                    refine ⟨?_⟩; go_simp; simp only [movesToUpon]
                    exact ⟨⟨(fun e => by cases e), (fun e => by cases e), fun _ => ⟨_, rfl⟩⟩, ⟨hC.below.alloc hC.below.size _, fun _ => ⟨_, upF_same _ _ _, hC.below.size, fun _ => Blk.new _ _ _⟩⟩⟩
                  · intro K' hK'; dsimp only at hK'; rw [g9]; go_big_quiet_op; go_big_quiet_on; (repeat (go_big_quiet_step (fail))); refine wpQuiet_nil ?_
                    refine ⟨_, _, _, _, _, _, rfl, .inl ⟨rfl, ?_, ?_⟩⟩
                    · intro LL W hL hA hC
                      obtain ⟨ga', h1, h2, h3⟩ := hC.made (hA 9 (by kernel_rfl))
                      rw [g9] at h1
                      injection h1 with h1
                      injection h1 with h1
                      injection h1 with h1
                      subst h1
                      have k0 := h3 hL
                      have ck0 := k0.cell
                      have fk0 := k0.frozen
                      simp at ck0
                      obtain ⟨wS, eS, KS, BS, hkS⟩ := four_set k0 rfl (.int .i64 xe.r) (.int .i64 xe.b) (.int .i64 xe.t) (.int .i64 xe.l) wx.heap.size h2
                      refine ⟨?_⟩; go_simp; simp only [movesToUpon]
                      exact ⟨⟨(fun e => by cases e), (fun e => by cases e), (fun e => by cases e)⟩, ⟨hC.below.trans BS, fun h => ⟨ga, by rw [upF_ne _ _ (by decide)]; exact g9, h2, (fun e => by rw [upd_at] at e; cases e)⟩⟩⟩
                    · intro K' hK'; dsimp only at hK'; go_big_quiet_op; go_big_quiet_on; (repeat (go_big_quiet_step (fail))); refine wpQuiet_nil ?_
                      intro LL w8 hL hC
                      have B8 := below_then BX0 hC.below (Nat.le_refl _)
                      clear hC hL hG g4 g5 g9 hne0 Kx0 E0 E1 E2 E3 hbq
                      obtain ⟨wx, rfl⟩ : ∃ wx, wx = w8 := ⟨_, rfl⟩
                      have BX : Below wr.heap.size wr wx := B8
                      have qx := q.below BX
                      have Kx := Kp.below BX Kp.lt
                      have sx := BX.size
                      clear q Kp E0 E1 E2 E3
                      go_upto_region 29 with fail
                      have hne : Nonempty (UWF (CTake wx gp ⟨r, b, t, l⟩ ⟨r, b, t2, l + d⟩)) := ⟨⟨fun _ => false, fun _ => undef, wx.drew, ⟨Nat.le_refl _, (Below.refl _ _).drew, fun _ _ _ => rfl, (fun e => by cases e), fun _ => Kx.drew, (fun e => by cases e)⟩⟩⟩
                      refine wp_region_free [(0, 0, some 0), (1, 2, some 3), (4, 0, some 4), (5, 3, some 8), (9, 1, none)] (CTake wx gp ⟨r, b, t, l⟩ ⟨r, b, t2, l + d⟩) (GTake (n : Int) ⟨r, b, t, l⟩ ⟨r, b, t2, l + d⟩) (fun q => if q = 0 then .agg #[.int .i64 r, .int .i64 b, .int .i64 t, .int .i64 l] else if q = 3 then .int .i64 (n : Int) else .tuple #[.agg #[.int .i64 r, .int .i64 b, .int .i64 t2, .int .i64 (l + d)], .bool true]) (by kernel_rfl) (by kernel_rfl) ?_ ?_ ?_ ?_
                      · intro z hz LL G W hC
                        simp [moversI] at hz
                        exact hC.on (G' := G) (Below.refl _ _) (.inr (.inr hz.2.2.2)) hz.2.2.2
                      · exact ⟨Nat.le_refl _, (Below.refl _ _).drew, fun _ _ _ => rfl, (fun e => by cases e), fun _ => Kx.drew, (fun e => by cases e)⟩
                      · intro z
                        exact ⟨fun e => by subst e; rfl, fun e => by subst e; rfl, fun e => by subst e; rfl⟩
                      · intro G hG
                        have g0 := (hG 0).load rfl
                        have g3 := (hG 3).size rfl
                        have g4 := (hG 4).take rfl
                        simp only [walkF, List.drop_zero, List.drop_succ_cons, List.take_succ_cons, List.take_zero, List.toList_toArray]; (repeat (go_big_quiet_step (fail))); refine wpQuiet_nil ?_
                        refine ⟨_, _, _, _, _, _, rfl, .inl ⟨rfl, ?_, ?_⟩⟩
                        · intro LL W hL hA hC
                          have k0 := (hC.blk0 (L8_of hC hL)).cell
                          simp at k0
                          refine ⟨?_⟩; go_simp; simp only [movesToUpon]
                          exact ⟨⟨fun _ => rfl, (fun e => by cases e), (fun e => by cases e)⟩, hC.on (Below.refl _ _) (.inl rfl) (by decide)⟩
                        · intro K' hK'; dsimp only at hK'; rw [g0]; go_big_quiet_op; go_big_quiet_on; (repeat (go_big_quiet_step (fail))); refine wpQuiet_nil ?_
                          refine ⟨_, _, _, _, _, _, rfl, .inl ⟨rfl, ?_, ?_⟩⟩
                          · intro LL W hL hA hC
                            refine ⟨?_⟩; go_simp; simp only [movesToUpon]
                            refine (text_Size s W).mono ?_
                            rintro e w' ⟨rfl, rfl⟩
                            exact ⟨_, rfl, ⟨(fun e => by cases e), fun _ => by rw [HNN.out], (fun e => by cases e)⟩, hC.on (Below.refl _ _) (.inr (.inr (by decide))) (by decide)⟩
                          · intro K' hK'; dsimp only at hK'; rw [g3]; go_big_quiet_op; go_big_quiet_on; (repeat (go_big_quiet_step (fail))); refine wpQuiet_nil ?_
                            refine ⟨_, _, _, _, _, _, rfl, .inl ⟨rfl, ?_, ?_⟩⟩
                            · intro LL W hL hA hC
                              refine ⟨?_⟩; go_simp; simp only [movesToUpon]
                              refine (pace_Take ⟨r, b, t, l⟩ ⟨r, b, t2, l + d⟩ true (l + d) (n : Int) HTK.out W).mono ?_
                              rintro e w' ⟨rfl, hb'⟩
                              exact ⟨_, rfl, ⟨(fun e => by cases e), (fun e => by cases e), fun _ => rfl⟩, hC.on hb' (.inr (.inr (by decide))) (by decide)⟩
                            · intro K' hK'; dsimp only at hK'; rw [g4]; go_big_quiet_op; go_big_quiet_on; (repeat (go_big_quiet_step (fail))); refine wpQuiet_nil ?_
                              refine ⟨_, _, _, _, _, _, rfl, .inl ⟨rfl, ?_, ?_⟩⟩
                              · intro LL W hL hA hC
                                have k0 := hC.blk0 hL
                                have ck0 := k0.cell
                                have fk0 := k0.frozen
                                simp at ck0
                                obtain ⟨wS, eS, KS, BS, hkS⟩ := four_set k0 rfl (.int .i64 r) (.int .i64 b) (.int .i64 t2) (.int .i64 (l + d)) 0 (Nat.zero_le _)
                                refine ⟨?_⟩; go_simp; simp only [movesToUpon]
                                exact ⟨⟨(fun e => by cases e), (fun e => by cases e), (fun e => by cases e)⟩, ⟨Nat.le_trans hC.size BS.size, hC.below.trans BS, fun k h1 h2 => (hkS k h2).trans (hC.keep k h1 h2), fun _ => by rw [upd_ne LL (by decide)]; exact hA 0 (by kernel_rfl), (fun e => by rw [upd_at] at e; cases e), fun _ => KS⟩⟩
                              · intro K' hK'; dsimp only at hK'; go_big_quiet_op; go_big_quiet_on; (repeat (go_big_quiet_step (fail))); refine wpQuiet_nil ?_
                                intro LL w9 hL hC
                                have K9 := hC.blk1 (hL 8 (by decide))
                                have sx9 := hC.size
                                have q9 := qx.kept hC.keep (by omega) (fun e => by have := hbu _ e; omega)
                                have B9 : Below 0 wx w9 := hC.below
                                have hk9 := hC.keep
                                clear hC hL hG g0 g3 g4 hne Kx qx
                                go_wp2_with fail
                                refine (queue_PopV g 50 1048576 (sumQ (s :: L.drop (j + 1))) s (L.drop (j + 1)) u w9 q9 (by rw [HDL.out]; omega) HY.out.1 HY.out.2.1 HY.out.2.2).mono ?_
                                rintro e w10 ⟨rfl, u', q10, M10⟩
                                have q11 : QV w10 g 50 1048576 (L.drop (j + 1)) (sumQ (L.drop (j + 1))) u' := by
                                  have e1 : sumQ (s :: L.drop (j + 1)) - sumQ [s] = sumQ (L.drop (j + 1)) := by simp only [sumQ]; omega
                                  rw [← e1]; exact q10
                                have s10 := M10.below.size
                                have K10 : Blk w10 gp 25 #[.int .i64 r, .int .i64 b, .int .i64 t2, .int .i64 (l + d)] := (M10.keep gp (by omega) (by omega) (fun e => by have := hbu _ e; omega)).trans K9
                                have hk10 : ∀ q, q < w4.heap.size → q ≠ g → q ≠ gp → w10.heap[q]? = wl.heap[q]? := fun q h1 h2 h3 => (M10.keep q (by omega) h2 (fun e => by have := hbu _ e; omega)).trans ((hk9 q (by omega) h3).trans ((BX.block q (by omega)).trans (hkq q h1 h2 h3)))
                                have hbu' : ∀ i, u'.ownBlock = some i → w4.heap.size ≤ i := fun i hi => by
                                  rcases M10.row i hi with h | h
                                  · exact hbu i h
                                  · omega
                                have Bw10 : Below w.heap.size w w10 := Bw.trans ⟨(BX.os ▸ (B9.os ▸ M10.below.os)), (BX.tape ▸ (B9.tape ▸ M10.below.tape)), (BX.output ▸ (B9.output ▸ M10.below.output)), by omega, fun q hq => (M10.keep q (by omega) (by omega) (fun e => by have := hbu _ e; omega)).trans ((hk9 q (by omega) (by omega)).trans (BX.block q (by omega)))⟩
                                clear q9 q10 M10 K9 hk9 hkq
                                go_wp2_with fail
                                refine (text_Size s w10).mono ?_
                                rintro e w' ⟨rfl, rfl⟩
                                rw [HNN.out]
                                go_wp2_with fail
                                go_roundw
                                case rel => exact ⟨j + 1, u', t2, l + d, all + n, m + qq, by omega, by go_num, by go_num, by go_num, q11, hbu', K10, Bw10, hk10, by omega, HM2.out, by omega, by omega, by omega, by omega, by omega, by omega, by omega⟩
                                case measure => simp only [intOf]; omega
        · obtain rfl : j = k := by omega
          have j1 : ¬ (j : Int) < (j : Int) := by omega
          have hall : L.drop j = [] := by rw [← HLL.out]; exact List.drop_length
          rw [hall] at q
          have HLN := Lib.hid (queue_Len 0 g 50 1048576 _ [] wr q.at)
          go_wp2_with fail
          refine HLN.out.mono ?_
          rintro e w' ⟨rfl, rfl⟩
          go_wp2_with fail
          go_ret
          exact ⟨rfl, Bw⟩
end Go.Proofs.Ytomhnegfemdcdaa
