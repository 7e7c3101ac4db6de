/- Package gaps: Came, a new greatest one. No condition but that the gaps stand. -/
import Derived.Test.YtonamlgipoannaaGaps9
namespace Go.Proofs.Ytonamlgipoannaa
open Go.RowKit BigFrame
attribute [local go_sem ↓] Go.wp_at_zero Go.wp_at_succ

/-- Those between. -/
def numsW (lo c d now : Int) (m : Nat) : List WR := (List.range m).map fun i : Nat => ⟨lo + (i : Int), now + c, 0, d⟩
theorem numsW_len (lo c d now : Int) (m : Nat) : (numsW lo c d now m).length = m := by simp [numsW]
theorem numsW_succ (lo c d now : Int) (m : Nat) : numsW lo c d now (m + 1) = numsW lo c d now m ++ [⟨lo + (m : Int), now + c, 0, d⟩] := by
  unfold numsW
  rw [List.range_succ, List.map_append]
  rfl
/-- While one is added. -/
def StApp (w0 : World) (g : Nat) (v : Value) (l2 : List WR) (m : Nat) (cs : Array Value) (a b c d : Int) (y : Bool) (e u : Int) (k : Nat) (G : Nat → Value) (W : World) : Prop :=
  match k with
  | 0 => W = w0.drew
  | 1 => W = w0.drew.alloc (.cells cs 112) ∧ G 19 = .slice (some ⟨w0.heap.size, 0, none⟩) 1 1
  | 2 => ∃ g4 cap, G 20 = .slice (some ⟨g4, 0, none⟩) (m + 1) cap ∧ W.ownsRow 0 112 4 (.slice (some ⟨g4, 0, none⟩) (m + 1) cap) (m + 1) (rowW l2) ∧ (∀ j, j < w0.heap.size → v.ownBlock ≠ some j → W.heap[j]? = w0.heap[j]?) ∧ Below 0 w0 W ∧ (v.ownBlock = some g4 ∨ w0.heap.size ≤ g4)
  | 3 => ∃ g4 cap, G 20 = .slice (some ⟨g4, 0, none⟩) (m + 1) cap ∧ GV W g a b c d y e u l2 (.slice (some ⟨g4, 0, none⟩) (m + 1) cap) ∧ Moved w0 W g v (.slice (some ⟨g4, 0, none⟩) (m + 1) cap)
  | _ => False
structure GApp (sv : Value) (m : Nat) (q : Nat) (v : Value) : Prop where
  a4 : q = 4 → v = sv
  a19 : q = 19 → ∃ g, v = .slice (some ⟨g, 0, none⟩) 1 1
  a20 : q = 20 → ∃ g cap, v = .slice (some ⟨g, 0, none⟩) (m + 1) cap
section
variable {w0 : World} {g : Nat} {v : Value} {l2 : List WR} {m : Nat} {cs : Array Value} {a b c d : Int} {y : Bool} {e u : Int}
theorem StApp.up {z : Nat} (hz : z ≠ 19) (hz2 : z ≠ 20) (k : Nat) (G : Nat → Value) (W : World) (x : Value) (h : StApp w0 g v l2 m cs a b c d y e u k G W) : StApp w0 g v l2 m cs a b c d y e u k (upF G z x) W := by
  unfold StApp at h ⊢
  rw [upF_ne _ _ (Ne.symm hz), upF_ne _ _ (Ne.symm hz2)]
  exact h
theorem StApp.old {k : Nat} {G : Nat → Value} {W : World} (h : StApp w0 g v l2 m cs a b c d y e u k G W) (hk : k ≤ 2) (hg : v.ownBlock ≠ some g) (hl : g < w0.heap.size) : W.heap[g]? = w0.heap[g]? := by
  match k, hk with
  | 0, _ => rw [show W = w0.drew from h]; rfl
  | 1, _ =>
    obtain ⟨rfl, _⟩ := h
    exact Below.heap_alloc w0.drew _ _ hl
  | 2, _ =>
    obtain ⟨_, _, _, _, h1, _⟩ := h
    exact h1 g hl hg
theorem StApp.top {k : Nat} {G : Nat → Value} {W : World} (h : StApp w0 g v l2 m cs a b c d y e u k G W) : k ≤ 3 := by
  unfold StApp at h
  split at h
  all_goals first | exact h.elim | omega
theorem StApp.cell {l : List WR} {k : Nat} {G : Nat → Value} {W : World} (h : StApp w0 g v l2 m cs a b c d y e u k G W) (hv : GV w0 g a b c d y e u l v) : W.cell? ⟨g, 2, none⟩ = some (.int .i64 c) ∧ W.cell? ⟨g, 3, none⟩ = some (.int .i64 d) := by
  rcases Nat.lt_or_ge k 3 with h1 | h1
  · have k1 : Blk W g 110 _ := (h.old (by omega) hv.ne hv.blk.lt).trans hv.blk
    have c1 := k1.cell 2
    have c2 := k1.cell 3
    simp at c1 c2
    exact ⟨c1, c2⟩
  · obtain rfl : k = 3 := by have := h.top; omega
    obtain ⟨_, _, _, h2, _⟩ := h
    have c1 := h2.blk.cell 2
    have c2 := h2.blk.cell 3
    simp at c1 c2
    exact ⟨c1, c2⟩
end
set_option maxRecDepth 20000 in
set_option maxHeartbeats 16000000 in
theorem gaps_CameC (g : Nat) (a b c d : Int) (e' u : Int) (l : List WR) (v : Value) (n now N T : Int) (hN : clipI n (-1099511627776) 1099511627776 = N) (hT : clipI now 0 1099511627776 = T) (w : World) (h : GV w g a b c d true e' u l v) (hla : (l.length : Int) ≤ a) (ha : a ≤ 1024) (hgt : e' < N) (he : -1099511627776 ≤ e') (hc0 : 0 ≤ c) (hc1 : c ≤ 1048576)
    (over skip lo : Int) (cnt k : Nat) (ho : over = max 0 ((l.length : Int) + (N - e' - 1) - a)) (hs : skip = max 0 (over - (l.length : Int))) (hlo : lo = e' + 1 + skip) (hcnt : (cnt : Int) = N - lo) (hk : (k : Int) = over - skip) (u1 u2 : Int) (hu1 : IntKind.i64.wrap (u + (k : Int)) = u1) (hu2 : IntKind.i64.wrap (u1 + skip) = u2) :
    Calls Try.prog 26 #[.pointer (some ⟨g, 0, none⟩), .int .i64 n, .int .i64 now] w fun e w' => e = .returned (.int .i64 over) ∧ ∃ v', GV w' g a b c d true N u2 ((l ++ numsW lo c d T cnt).drop k) v' ∧ Moved w w' g v v' := by
  obtain ⟨j0, hj0, hy0, hy1, hy2⟩ := info_want
  have HN := Lib.hid (fun W => gaps_number n N hN W)
  have HT := Lib.hid (fun W => gaps_tick now T hT W)
  have nb := clip_bd n (-1099511627776) 1099511627776 (by decide)
  have tb := clip_bd now 0 1099511627776 (by decide)
  rw [hN] at nb
  rw [hT] at tb
  obtain ⟨nb0, nb1⟩ := nb
  obtain ⟨tb0, tb1⟩ := tb
  obtain ⟨va, vc, rfl, -⟩ := own_want h.own
  obtain ⟨n0, hn0⟩ : ∃ n, l.length = n := ⟨_, rfl⟩
  have HN0 := Lib.hid hn0
  rw [hn0] at h hla ho hs
  rw [hn0]
  have H0 := h
  obtain ⟨fr, hfr⟩ : ∃ x, e' + 1 = x := ⟨_, rfl⟩
  obtain ⟨df, hdf⟩ : ∃ x, N - e' = x := ⟨_, rfl⟩
  obtain ⟨al, hal⟩ : ∃ x, df - 1 = x := ⟨_, rfl⟩
  obtain ⟨s1, hs1⟩ : ∃ x, (n0 : Int) + al = x := ⟨_, rfl⟩
  obtain ⟨s2, hs2⟩ : ∃ x, s1 - a = x := ⟨_, rfl⟩
  have m1 : (if 0 < s2 then s2 else 0) = over := by split <;> omega
  obtain ⟨s3, hs3⟩ : ∃ x, over - (n0 : Int) = x := ⟨_, rfl⟩
  have m2 : (if 0 < s3 then s3 else 0) = skip := by split <;> omega
  obtain ⟨tc, htc⟩ : ∃ x, T + c = x := ⟨_, rfl⟩
  have x1 : IntKind.i64.wrap (e' + 1) = fr := by rw [IntWalk.i64_in _ (by omega), hfr]
  have x2 : IntKind.i64.wrap (N - e') = df := by rw [IntWalk.i64_in _ (by omega), hdf]
  have x3 : IntKind.i64.wrap (df - 1) = al := by rw [IntWalk.i64_in _ (by omega), hal]
  have x4 : IntKind.i64.wrap ((n0 : Int) + al) = s1 := by rw [IntWalk.i64_in _ (by omega), hs1]
  have x5 : IntKind.i64.wrap (s1 - a) = s2 := by rw [IntWalk.i64_in _ (by omega), hs2]
  have x6 : IntKind.i64.wrap (over - (n0 : Int)) = s3 := by rw [IntWalk.i64_in _ (by omega), hs3]
  have x7 : IntKind.i64.wrap (fr + skip) = lo := by rw [IntWalk.i64_in _ (by omega)]; omega
  have x8 : IntKind.i64.wrap (over - skip) = (k : Int) := by rw [IntWalk.i64_in _ (by omega)]; omega
  have x9 : IntKind.i64.wrap (T + c) = tc := by rw [IntWalk.i64_in _ (by omega), htc]
  have hcb : (cnt : Int) ≤ 1024 := by omega
  have hlob : -1099511627776 ≤ lo := by omega
  have hkn : k ≤ n0 := by omega
  have hn0b : n0 ≤ 1024 := by omega
  have HLC := Lib.hid (show N = lo + (cnt : Int) by omega)
  have HTC := Lib.hid htc
  have hne' : ¬ N ≤ e' := by omega
  have c1 := h.blk.cell
  have f1 := h.blk.frozen
  simp at c1
  clear h hn0 hN hT hfr hdf hal hs1 hs2 hs3 htc ho hs hlo hcnt hk hgt
  go_enter Try.func26, Try.ntmps26
  go_upto_region 10 with (first | (go_at_call 52; ((with_reducible refine (HN.out _).mono ?_); rintro e w' ⟨rfl, rfl⟩)) | (go_at_call 50; ((with_reducible refine (HT.out _).mono ?_); rintro e w' ⟨rfl, rfl⟩)))
  have E6 := fun (gx : Ext w) => gx.cell (H0.blk.cell 6) H0.blk.lt
  simp at E6
  refine wp_region_ext (by kernel_rfl) (by kernel_rfl) ?_; (repeat (go_big_quiet_step (fail))); refine wpQuiet_nil ?_; rintro _ ⟨gq, rfl⟩
  have BX := gq.below
  have H2 := H0.below BX
  generalize gq.world = w2 at BX H2 ⊢
  obtain ⟨H3, M3⟩ := H2.put (y' := true) (e' := N) (u' := u) 6 (.int .i64 N) (by simp)
  have c2 := H2.blk.cell
  have f2 := H2.blk.frozen
  simp at c2
  have MM := (Moved.of_below (g := g) (v := .slice va n0 vc) BX).trans M3
  clear E6 c1 f1
  go_upto_region 12 with fail
  generalize w2.setCell ⟨g, 6, none⟩ (.int .i64 N) = w3 at *
  clear c2 f2 M3
  have E0 := fun (gx : Ext w3) => gx.cell (H3.blk.cell 0) H3.blk.lt
  have E4 := fun (gx : Ext w3) => gx.cell (H3.blk.cell 4) H3.blk.lt
  simp at E0 E4
  refine wp_region_ext (by kernel_rfl) (by kernel_rfl) ?_; (repeat (go_big_quiet_step (fail))); refine wpQuiet_nil ?_; rintro _ ⟨gq, rfl⟩
  have BY := gq.below
  have H4 := H3.below BY
  generalize gq.world = w4 at BY H4 ⊢
  have MM4 := MM.trans (Moved.of_below (g := g) (v := .slice va n0 vc) BY)
  have c4 := H4.blk.cell
  simp at c4
  clear E0 E4 MM H3 BX
  go_wp2_with fail
  go_loopw [13] (fun x13 wr => ∃ (i : Nat) (z : Int), i ≤ cnt ∧ x13 = .int .i64 z ∧ Hid (z = lo + (i : Int)) ∧ ∃ vr, GV wr g a b c d true N u (l ++ numsW lo c d T i) vr ∧ Moved w wr g (.slice va n0 vc) vr) (fun x13 _ => cnt - (intOf x13 - lo).toNat)
  case atStart => exact ⟨0, lo, by omega, rfl, Lib.hid (by omega), .slice va n0 vc, by rw [show numsW lo c d T 0 = [] from rfl, List.append_nil]; exact H4, MM4⟩
  case round =>
    obtain ⟨i, z, hi, rfl, HZ, vr, hv, Mv⟩ := hrel
    have hz1 := HZ.out
    have hz2 := HLC.out
    by_cases hlt : i < cnt
    · have q1 : z < N := by omega
      obtain ⟨z1, hz1'⟩ : ∃ x, z + 1 = x := ⟨_, rfl⟩
      have x13 : IntKind.i64.wrap (z + 1) = z1 := by rw [IntWalk.i64_in _ (by omega), hz1']
      have HZ1 := Lib.hid (show z1 = lo + ((i + 1 : Nat) : Int) by omega)
      have HME := Lib.hid (show cnt - (z1 - lo).toNat < cnt - (z - lo).toNat by omega)
      obtain ⟨lr, hlr⟩ : ∃ x, l ++ numsW lo c d T i = x := ⟨_, rfl⟩
      obtain ⟨l2, hl2⟩ : ∃ x, l ++ numsW lo c d T (i + 1) = x := ⟨_, rfl⟩
      have HL2 := Lib.hid hl2
      have HR2 := Lib.hid (show l2 = lr ++ [⟨z, tc, 0, d⟩] by rw [← hl2, ← hlr, numsW_succ, List.append_assoc, ← hz1, HTC.out])
      have hm : lr.length ≤ 2048 := by rw [← hlr, List.length_append, numsW_len, HN0.out]; omega
      rw [hlr] at hv
      obtain ⟨ra, rc, rfl, -⟩ := own_want hv.own
      obtain ⟨m, hmm⟩ : ∃ x, lr.length = x := ⟨_, rfl⟩
      have HM := Lib.hid hmm
      rw [hmm] at hv hm Mv
      have rne := hv.ne
      have rgl := hv.blk.lt
      clear hlr hl2 hmm hz1' hz1 hz2
      go_upto_region 17 with fail
      have hne : Nonempty (UWF (PhR [19, 20, 23] [4] 23 (StApp wr g (.slice ra m rc) l2 m #[.int .i64 z, .int .i64 tc, .int .i64 0, .int .i64 d] a b c d true N u))) := PhR.ne (G := fun _ => undef) (W := wr.drew) rfl
      have E2 := fun (gx : UWF (PhR [19, 20, 23] [4] 23 (StApp wr g (.slice ra m rc) l2 m #[.int .i64 z, .int .i64 tc, .int .i64 0, .int .i64 d] a b c d true N u))) => (show gx.world.cell? ⟨g, 2, none⟩ = some (.int .i64 c) from by
        obtain ⟨⟨k, _, h⟩, _⟩ := gx.holds
        exact (h.cell hv).1)
      have E3 := fun (gx : UWF (PhR [19, 20, 23] [4] 23 (StApp wr g (.slice ra m rc) l2 m #[.int .i64 z, .int .i64 tc, .int .i64 0, .int .i64 d] a b c d true N u))) => (show gx.world.cell? ⟨g, 3, none⟩ = some (.int .i64 d) from by
        obtain ⟨⟨k, _, h⟩, _⟩ := gx.holds
        exact (h.cell hv).2)
      refine wp_region_free [(0, 4, some 4), (5, 14, some 19), (20, 0, some 20), (21, 2, some 23), (24, 0, none)] (PhR [19, 20, 23] [4] 23 (StApp wr g (.slice ra m rc) l2 m #[.int .i64 z, .int .i64 tc, .int .i64 0, .int .i64 d] a b c d true N u)) (GApp (.slice ra m rc) m) (fun y => if y = 19 then .slice (some ⟨0, 0, none⟩) 1 1 else if y = 20 then .slice (some ⟨0, 0, none⟩) (m + 1) 0 else .slice ra m rc) (by kernel_rfl) (by kernel_rfl) ?_ ?_ ?_ ?_
      · intro q hq LL G W hC
        simp [moversI] at hq
        exact hC.quiet (by simp; omega) (by simp; omega) (by simp)
      · exact PhR.start rfl
      · intro q
        exact ⟨fun e => by subst e; rfl, fun e => by subst e; exact ⟨_, rfl⟩, fun e => by subst e; exact ⟨_, _, rfl⟩⟩
      · intro G hG
        have g4 := (hG 4).a4 rfl
        obtain ⟨gl, g19⟩ := (hG 19).a19 rfl
        obtain ⟨gr, gc, g20⟩ := (hG 20).a20 rfl
        simp only [walkF, List.drop_zero, List.drop_succ_cons, List.take_succ_cons, List.take_zero, List.toList_toArray]; (repeat (go_big_quiet_step (fail))); refine wpQuiet_nil ?_
        refine ⟨_, _, _, _, _, _, rfl, .inl ⟨rfl, ?_, ?_⟩⟩
        · intro LL W hL hA hC
          obtain ⟨⟨kk, hk1, hst⟩, hC'⟩ := hC.load 2 rfl (z := 4) (by simp) (by simp) hL (StApp.up (by decide) (by decide))
          have kn : Blk W g 110 _ := (hst.old hk1 rne rgl).trans hv.blk
          have cn := kn.cell
          simp at cn
          refine ⟨?_⟩; go_simp; simp only [movesToUpon]
          exact ⟨⟨fun _ => rfl, (fun e => by cases e), (fun e => by cases e)⟩, hC' _⟩
        · intro K' hK'; dsimp only at hK'; rw [g4]; go_big_quiet_op; go_big_quiet_on; (repeat (go_big_quiet_step (fail))); refine wpQuiet_nil ?_
          refine ⟨_, _, _, _, _, _, rfl, .inl ⟨rfl, ?_, ?_⟩⟩
          · intro LL W hL hA hC
            have hst : W = wr.drew := hC.ph.at 0 19 rfl hL (fun m' h0 _ => absurd h0 (by omega))
            subst hst
            refine ⟨?_⟩; go_simp; simp only [movesToUpon]
            exact ⟨⟨(fun e => by cases e), fun _ => ⟨_, rfl⟩, (fun e => by cases e)⟩, hC.next (by decide) 0 19 rfl hL (fun m' h0 _ => absurd h0 (by omega)) (by simp) (fun e => by cases e) ⟨rfl, upF_same _ _ _⟩⟩
          · intro K' hK'; dsimp only at hK'; rw [g19]; go_big_quiet_op; go_big_quiet_on; (repeat (go_big_quiet_step (fail))); refine wpQuiet_nil ?_
            refine ⟨_, _, _, _, _, _, rfl, .inl ⟨rfl, ?_, ?_⟩⟩
            · intro LL W hL hA hC
              have hp : ∀ m', 0 < 1 → [19, 20, 23][1 - 1]? = some m' → LL m' = true := fun m' _ h => by
                simp at h; subst h; exact hA 19 (by kernel_rfl)
              obtain ⟨rfl, hg19⟩ : W = wr.drew.alloc (.cells #[.int .i64 z, .int .i64 tc, .int .i64 0, .int .i64 d] 112) ∧ G 19 = .slice (some ⟨wr.heap.size, 0, none⟩) 1 1 := hC.ph.at 1 20 rfl hL hp
              rw [g19] at hg19
              injection hg19 with f1 f2 f3
              injection f1 with f1
              injection f1 with f1
              subst f1
              have own2 : wr.drew.ownsRow 0 112 4 (.slice ra m rc) m (rowW lr) := by have := hv.own; rw [HM.out] at this; exact this
              have own3 := own_at own2 (w' := wr.drew.alloc (.cells #[.int .i64 z, .int .i64 tc, .int .i64 0, .int .i64 d] 112)) (fun j hj => Below.heap_alloc wr.drew _ _ (own2.lt j hj).2)
              have hnew := World.news_of_block (Blk.new wr.drew 112 #[.int .i64 z, .int .i64 tc, .int .i64 0, .int .i64 d])
              obtain ⟨g5, cap5, w5, hrun, own5, hgrow5, hat5, hlt5⟩ := run_append_lies (P := Try.prog) _ 108 108 0 112 j0 (.agg zWant) 4 32 Try.underlying108 hj0 hy0 hy1 hy2 rfl (by decide) _ _ _ own3 ⟨wr.heap.size, 0, none⟩ 1 1 [.int .i64 z, .int .i64 tc, .int .i64 0, .int .i64 d] rfl hnew (by simp [Value.oneCell']) (by omega) (by rw [maxLen_eq]; omega) (by omega) (Nat.zero_le _) _ rfl
              have B5 : Below 0 wr w5 := (((Below.refl _ wr).drew).alloc (Nat.zero_le _) _).grown hgrow5 (Nat.zero_le _) (fun j _ => Nat.zero_le _)
              have far : ∀ j, j < wr.heap.size → (Value.slice ra m rc).ownBlock ≠ some j → w5.heap[j]? = wr.heap[j]? := fun j h1 h2 => (hgrow5.block j (by simp; omega) (fun e => h2 e.symm)).trans (Below.heap_alloc wr.drew _ _ h1)
              refine MovesTo.append_ rfl rfl rfl hrun ?_
              exact ⟨⟨(fun e => by cases e), (fun e => by cases e), fun _ => ⟨_, _, rfl⟩⟩, hC.next (by decide) 1 20 rfl hL hp (by simp) (fun e => by cases e) ⟨g5, cap5, upF_same _ _ _, by rw [HR2.out, rowW_append]; exact own5, far, B5, by
                rcases hat5 with h | h
                · exact .inl h
                · right; simp at h; omega⟩⟩
            · intro K' hK'; dsimp only at hK'; rw [g20]; go_big_quiet_op; go_big_quiet_on; (repeat (go_big_quiet_step (fail))); refine wpQuiet_nil ?_
              refine ⟨_, _, _, _, _, _, rfl, .inl ⟨rfl, ?_, ?_⟩⟩
              · intro LL W hL hA hC
                have hp : ∀ m', 0 < 2 → [19, 20, 23][2 - 1]? = some m' → LL m' = true := fun m' _ h => by
                  simp at h; subst h; exact hA 20 (by kernel_rfl)
                obtain ⟨g5, cap5, hg20, own5, far, B5, hat5⟩ : ∃ g4 cap, G 20 = .slice (some ⟨g4, 0, none⟩) (m + 1) cap ∧ W.ownsRow 0 112 4 (.slice (some ⟨g4, 0, none⟩) (m + 1) cap) (m + 1) (rowW l2) ∧ (∀ j, j < wr.heap.size → (Value.slice ra m rc).ownBlock ≠ some j → W.heap[j]? = wr.heap[j]?) ∧ Below 0 wr W ∧ ((Value.slice ra m rc).ownBlock = some g4 ∨ wr.heap.size ≤ g4) := hC.ph.at 2 23 rfl hL hp
                have hg20' := hg20
                rw [g20] at hg20'
                injection hg20' with f1 f2 f3
                injection f1 with f1
                injection f1 with f1
                subst f1 f3
                have hl2n : l2.length = m + 1 := by rw [HR2.out, List.length_append, HM.out]; rfl
                obtain ⟨H7, M7⟩ := hv.store (l2 := l2) (v2 := .slice (some ⟨gr, 0, none⟩) (m + 1) gc) B5 far (by rw [hl2n]; exact own5) (fun j hj => by
                  injection hj with hj
                  subst hj
                  exact hat5)
                have kn : Blk W g 110 _ := (far g rgl rne).trans hv.blk
                have cn := kn.cell
                have fn := kn.frozen
                simp at cn
                refine ⟨?_⟩; go_simp; simp only [movesToUpon]
                exact ⟨⟨(fun e => by cases e), (fun e => by cases e), (fun e => by cases e)⟩, hC.next (by decide) 2 23 rfl hL hp (by simp) (fun _ r hr => hA r (by
                  simp at hr
                  rcases hr with rfl; kernel_rfl)) ⟨gr, gc, by rw [upF_ne _ _ (by decide)]; exact g20, H7, M7⟩⟩
              · intro K' hK'; dsimp only at hK'; go_big_quiet_op; go_big_quiet_on; (repeat (go_big_quiet_step (fail))); refine wpQuiet_nil ?_
                intro LL w9 hL hC
                obtain ⟨g5, cap5, hg20, H9, M9⟩ : ∃ g4 cap, G 20 = .slice (some ⟨g4, 0, none⟩) (m + 1) cap ∧ GV w9 g a b c d true N u l2 (.slice (some ⟨g4, 0, none⟩) (m + 1) cap) ∧ Moved wr w9 g (.slice ra m rc) (.slice (some ⟨g4, 0, none⟩) (m + 1) cap) :=
                  hC.ph.all (fun z hz => hL z (by
                    simp at hz
                    rcases hz with rfl | rfl | rfl <;> decide)) (fun k G W h => h.top)
                have ME := Mv.trans M9
                clear hC hL hG g4 g19 g20 hne E2 E3 hv Mv
                go_wp2_with fail
                go_roundw
                case rel => exact ⟨i + 1, z1, by omega, rfl, HZ1, _, by rw [HL2.out]; exact H9, ME⟩
                case measure => simp only [intOf]; exact HME.out
    · obtain rfl : i = cnt := by omega
      obtain rfl : z = N := by omega
      have q1 : ¬ z < z := by omega
      obtain ⟨l1, hl1⟩ : ∃ x, l ++ numsW lo c d T i = x := ⟨_, rfl⟩
      rw [hl1] at hv
      have HL1 := Lib.hid hl1
      have hlen : k ≤ l1.length ∧ l1.length ≤ 100000 := by
        have h1 := congrArg List.length hl1
        rw [List.length_append, numsW_len, HN0.out] at h1
        omega
      have HGV := Lib.hid (gaps_give g a b c d true z u l1 vr k wr hv hlen.2 hlen.1 u1 hu1)
      clear hl1 hz1 hz2 hlen hv
      go_wp2_with fail
      refine HGV.out.mono ?_
      rintro e w5 ⟨rfl, v5, h5, M5⟩
      obtain ⟨h6, M6⟩ := h5.put (y' := true) (e' := z) (u' := u2) 7 (.int .i64 u2) (by simp)
      have c5 := h5.blk.cell
      have f5 := h5.blk.frozen
      simp at c5
      have ME := Lib.hid ((Mv.trans M5).trans M6)
      have H6 := Lib.hid h6
      clear h5 h6 M5 M6
      go_wp2_with fail
      go_ret
      exact ⟨rfl, _, by rw [HL1.out]; exact H6.out, ME.out⟩
end Go.Proofs.Ytonamlgipoannaa
