/- The document's gaps: Due. No condition but that the row can be read. -/
import Derived.Test.YtonamlgipoannaaGapsR2
import Derived.Test.YtonamlgipoannaaPhase
namespace Go.Proofs.Ytonamlgipoannaa
open Go.RowKit BigFrame
attribute [local go_sem ↓] Go.wp_at_zero Go.wp_at_succ

/-- The program's waiting time is the document's. -/
def WaitOk (d : Int) (r : WR) : Prop := r.w = waitN d r.t.toNat
/-- While one that is asked for is put back. -/
def StDue (w0 : World) (B : Nat) (gs : List Nat) (zl : Nat) (cs : Array Value) (ll : List Value) (k : Nat) (G : Nat → Value) (W : World) : Prop :=
  match k with
  | 0 => W = w0.drew
  | 1 => Below w0.heap.size w0 W
  | 2 => ∃ W1, Below w0.heap.size w0 W1 ∧ W = W1.alloc (.cells cs 125) ∧ G 15 = .slice (some ⟨W1.heap.size, 0, none⟩) 1 1
  | 3 => ∃ g4 cap, G 16 = .slice (some ⟨g4, 0, none⟩) (zl + 1) cap ∧ W.ownsRow B 125 3 (.slice (some ⟨g4, 0, none⟩) (zl + 1) cap) (zl + 1) (ll ++ cs.toList) ∧ Below B w0 W ∧ (∀ j, j ∈ gs → W.heap[j]? = w0.heap[j]?)
  | _ => False
structure GDue (zl : Nat) (wv : Int) (q : Nat) (v : Value) : Prop where
  a9 : q = 9 → v = .int .i64 wv
  a15 : q = 15 → ∃ g, v = .slice (some ⟨g, 0, none⟩) 1 1
  a16 : q = 16 → ∃ g cap, v = .slice (some ⟨g, 0, none⟩) (zl + 1) cap
theorem StDue.keep {w0 : World} {B zl : Nat} {gs : List Nat} {cs : Array Value} {ll : List Value} {k : Nat} {G : Nat → Value} {W : World} (h : StDue w0 B gs zl cs ll k G W) {j : Nat} (hj : j ∈ gs) (hl : j < w0.heap.size) : W.heap[j]? = w0.heap[j]? := by
  unfold StDue at h
  split at h
  · rw [h]; rfl
  · exact h.block j hl
  · obtain ⟨W1, h1, rfl, _⟩ := h
    exact (Below.heap_alloc _ _ _ (by have := h1.size; omega)).trans (h1.block j hl)
  · obtain ⟨_, _, _, _, _, h1⟩ := h
    exact h1 j hj
  · exact h.elim
theorem StDue.top {w0 : World} {B zl : Nat} {gs : List Nat} {cs : Array Value} {ll : List Value} {k : Nat} {G : Nat → Value} {W : World} (h : StDue w0 B gs zl cs ll k G W) : k ≤ 3 := by
  unfold StDue at h
  split at h
  all_goals first | exact h.elim | omega
/-- Rows that the document's round has appended to. -/
structure DueT (G : Nat) (wr : World) (x5 x6 : Value) (zo zl : Nat) (lo : List Value) (ll : List WR) : Prop where
  out : wr.ownsRow G 3 1 x5 zo lo
  left : wr.ownsRow G 125 3 x6 zl (rowT ll)
theorem DueT.at_ {G : Nat} {wr wr' : World} {x5 x6 : Value} {zo zl : Nat} {lo : List Value} {ll : List WR} (h : DueT G wr x5 x6 zo zl lo ll) (hk : ∀ k, G ≤ k → k < wr.heap.size → wr'.heap[k]? = wr.heap[k]?) : DueT G wr' x5 x6 zo zl lo ll :=
  ⟨own_at h.out (fun j hj => hk j (h.out.lt j hj).1 (h.out.lt j hj).2), own_at h.left (fun j hj => hk j (h.left.lt j hj).1 (h.left.lt j hj).2)⟩
theorem own_low {w : World} {B B' e size n : Nat} {v : Value} {xs : List Value} (h : w.ownsRow B e size v n xs) (hB : B' ≤ B) : w.ownsRow B' e size v n xs := by
  refine ⟨h.1, ?_⟩
  rcases h.2 with hn | ⟨g, cap, cur, rfl, hbg, hg, r⟩
  · exact .inl hn
  · exact .inr ⟨g, cap, cur, rfl, Nat.le_trans hB hbg, hg, r⟩
set_option maxRecDepth 20000 in
set_option maxHeartbeats 16000000 in
theorem ref22_Due (a b c d : Int) (y : Bool) (e' u : Int) (l : List WR) (sa : Option Addr) (n sc : Nat) (now N : Int) (hN : clipI now 0 1099511627776 = N) (w : World) (R : RowT w sa n sc l) (hl : n ≤ 100000) (hb : b ≤ 100) (hd0 : 0 ≤ d) (hd1 : d ≤ 1048576) (hok : ∀ r ∈ l, WOk r) (hwt : ∀ r ∈ l, WaitOk d r) :
    Calls Try.prog 61 #[gval a b c d y e' u sa n sc, .int .i64 now] w fun e w' => ∃ sa' n' sc' vo, e = .returned (.tuple #[gval a b c d y e' (dueU b N u l) sa' n' sc', vo]) ∧ (∃ zo, w'.ownsRow w.heap.size 3 1 vo zo (dueO b N l)) ∧ RowT w' sa' n' sc' (dueL b N l) ∧ Below w.heap.size w w' := by
  obtain ⟨i0, hi0, hz0, hz1, hz2⟩ := info_parts (show (Try.prog.info? 3).map (fun i => (i.zero, i.size, i.bytes)) = some (some (.int .i64 0), 1, 8) by kernel_rfl)
  obtain ⟨j0, hj0, hy0, hy1, hy2⟩ := info_wt
  have HT := Lib.hid (fun W => ref22_near now _ _ N (by decide) hN W)
  have hNb := clip_bd now 0 1099511627776 (by decide)
  rw [hN] at hNb
  obtain ⟨nb0, nb1⟩ := hNb
  have HROW := Lib.hid R
  have HN := Lib.hid R.len
  have HOK := Lib.hid hok
  have HWT := Lib.hid hwt
  have hsc := R.cap
  have hsm := R.most
  obtain ⟨ll, hll⟩ : ∃ x, dueL b N l = x := ⟨_, rfl⟩
  obtain ⟨uu, huu⟩ : ∃ x, dueU b N u l = x := ⟨_, rfl⟩
  rw [hll, huu]
  have HLL := Lib.hid hll
  have HUU := Lib.hid huu
  clear R hok hwt hN hll huu
  obtain ⟨K1, K2, B1⟩ := two_newW w #[.int .i64 a, .int .i64 b, .int .i64 c, .int .i64 d, .slice sa n sc, .bool y, .int .i64 e', .int .i64 u] #[.int .i64 0, .int .i64 0, .int .i64 0, .int .i64 0, .slice none 0 0, .bool false, .int .i64 0, .int .i64 0] 70 70
  unfold gval
  go_enter Try.func61, Try.ntmps61
  go_upto_region 1 with fail
  generalize ((w.alloc (.cells #[.int .i64 a, .int .i64 b, .int .i64 c, .int .i64 d, .slice sa n sc, .bool y, .int .i64 e', .int .i64 u] 70)).alloc (.cells #[.int .i64 0, .int .i64 0, .int .i64 0, .int .i64 0, .slice none 0 0, .bool false, .int .i64 0, .int .i64 0] 70)) = w1 at *
  have s1 := B1.size
  have hlt2 := K2.lt
  have own0 := own_lit w1 3 1
  have Ba : Below w1.heap.size w1 (w1.alloc (.cells #[] 3)) := (Below.refl _ w1).alloc (Nat.le_refl _) _
  go_upto_region 3 with (go_at_call 60; ((with_reducible refine (HT.out _).mono ?_); rintro e w' ⟨rfl, rfl⟩))
  generalize hw2 : w1.alloc (.cells #[] 3) = w2 at *
  have s2 := Ba.size
  have own1 := own_lit w2 125 3
  have Bb : Below w2.heap.size w2 (w2.alloc (.cells #[] 125)) := (Below.refl _ w2).alloc (Nat.le_refl _) _
  have own0' := own_at own0 (w' := w2.alloc (.cells #[] 125)) (fun j hj => Bb.block j (own0.lt j hj).2)
  have B12 : Below w1.heap.size w1 (w2.alloc (.cells #[] 125)) := Ba.trans (Bb.mono s2)
  have K1a := K1.below B12 K1.lt
  have K2a := K2.below B12 K2.lt
  have c1 := K1a.cell
  simp at c1
  clear hw2
  go_upto_region 4 with fail
  generalize hw3 : w2.alloc (.cells #[] 125) = w3 at *
  clear hw3 own0 Ba Bb
  obtain ⟨G, hG⟩ : ∃ x, w1.heap.size = x := ⟨_, rfl⟩
  rw [hG] at s1 hlt2 B12 s2
  have B03 : Below w.heap.size w w3 := B1.trans (B12.mono s1)
  have s3 := B12.size
  rw [hG] at s3
  have HG := Lib.hid hG
  clear hG B12
  go_wp2_with fail
  clear c1
  go_loopw [6, 7, 17] (fun x6 x7 x17 wr => ∃ (k zo zl : Nat) (uk : Int), k ≤ n ∧ zo ≤ k ∧ zl ≤ k ∧ x17 = .int .i64 k ∧ DueT G wr x6 x7 zo zl (dueO b N (l.take k)) (dueL b N (l.take k)) ∧ Hid (dueU b N u (l.take k) = uk) ∧ Blk wr w.heap.size 70 #[.int .i64 a, .int .i64 b, .int .i64 c, .int .i64 d, .slice sa n sc, .bool y, .int .i64 e', .int .i64 uk] ∧ Blk wr (w.heap.size + 1) 70 #[.int .i64 0, .int .i64 0, .int .i64 0, .int .i64 0, .slice none 0 0, .bool false, .int .i64 0, .int .i64 0] ∧ G ≤ wr.heap.size ∧ Below w.heap.size w wr) (fun _ _ x17 _ => n - (intOf x17).toNat)
  case atStart => exact ⟨0, 0, 0, u, by omega, by omega, by omega, rfl, ⟨own_low own0' (by have := HG.out; omega), own_low own1 s2⟩, Lib.hid rfl, K1a, K2a, s3, B03⟩
  case round =>
    clear own0' own1 K1a K2a B03 K1 K2
    obtain ⟨k, zo, zl, uk, hk, hzo, hzl, rfl, D, HU, K1, K2, hsz, Bw⟩ := hrel
    by_cases hlt : k < n
    · obtain ⟨g', off, rfl, hg', hcell⟩ := (HROW.out).rec_ (by omega)
      have hql : k < l.length := by have := HN.out; omega
      obtain ⟨r, hrr⟩ : ∃ r, l[k]? = some r := ⟨_, List.getElem?_eq_getElem hql⟩
      obtain ⟨e0, e1, e2⟩ := hcell k r hrr
      have d0 := (Bw.cell (p := ⟨g', off + k * 3, none⟩) hg').trans e0
      have d1 := (Bw.cell (p := ⟨g', off + k * 3 + 1, none⟩) hg').trans e1
      have d2 := (Bw.cell (p := ⟨g', off + k * 3 + 2, none⟩) hg').trans e2
      have HS := Lib.hid (due_snoc b N u l k r hrr)
      have ok := HOK.out r (List.mem_of_getElem? hrr)
      have HWR := Lib.hid (HWT.out r (List.mem_of_getElem? hrr))
      have q0 : (0 : Int) ≤ (k : Int) := by omega
      have q1 : (k : Int) < (n : Int) := by omega
      have wk : IntKind.i64.wrap ((k : Int) + 1) = ((k + 1 : Nat) : Int) := by rw [IntWalk.i64_in _ (by omega)]; omega
      have Ka := Blk.new wr 125 #[.int .i64 r.n, .int .i64 r.at_, .int .i64 r.t]
      have Ba : Below wr.heap.size wr (wr.alloc (.cells #[.int .i64 r.n, .int .i64 r.at_, .int .i64 r.t] 125)) := (Below.refl _ wr).alloc (Nat.le_refl _) _
      have Da := D.at_ (wr' := wr.alloc (.cells #[.int .i64 r.n, .int .i64 r.at_, .int .i64 r.t] 125)) (fun k' _ h2 => Ba.block k' h2)
      have K1a := K1.below Ba K1.lt
      have K2a := K2.below Ba K2.lt
      have Bwa := Bw.trans (Ba.mono Bw.size)
      have sza := Ba.size
      have HLB := Lib.hid (fun j (hj : u7.ownBlock = some j) => (D.left.lt j hj).2)
      clear e0 e1 e2 hrr hcell hql D K1 K2
      go_upto_region 7 with fail
      obtain ⟨gb, hgb⟩ : ∃ x, wr.heap.size = x := ⟨_, rfl⟩
      rw [hgb] at Ka hsz HLB ⊢
      clear d0 d1 d2
      generalize wr.alloc (.cells #[.int .i64 r.n, .int .i64 r.at_, .int .i64 r.t] 125) = wa at *
      have hszA : G ≤ wa.heap.size := by omega
      have hgbl := Ka.lt
      clear hgb sza Ba
      have ca := Ka.cell
      have c1 := K1a.cell
      simp at ca c1
      by_cases hdue : N < r.at_
      · have HS1 := Lib.hid (show leftW b N r = [r] by unfold leftW; rw [if_pos hdue])
        have HS2 := Lib.hid (show outW b N r = [] by unfold outW; rw [if_pos hdue])
        have HS3 := Lib.hid (show goneW b N (dueU b N u (l.take k)) r = dueU b N u (l.take k) by unfold goneW; rw [if_pos hdue])
        have kb := Blk.new wa 125 #[.int .i64 r.n, .int .i64 r.at_, .int .i64 r.t]
        have hnew := World.news_of_block kb
        have Bb : Below wa.heap.size wa (wa.alloc (.cells #[.int .i64 r.n, .int .i64 r.at_, .int .i64 r.t] 125)) := (Below.refl _ wa).alloc (Nat.le_refl _) _
        have Db := Da.at_ (wr' := wa.alloc (.cells #[.int .i64 r.n, .int .i64 r.at_, .int .i64 r.t] 125)) (fun k' _ h2 => Bb.block k' h2)
        have ownl := Db.left
        go_wp2_with (at_builtin; refine wpList_append_lies _ rfl _ _ 68 rfl G 125 j0 (.agg zWT) 3 24 Try.underlying68 hj0 hy0 hy1 hy2 rfl (by decide) _ _ _ rfl ownl ⟨wa.heap.size, 0, none⟩ 1 1 [.int .i64 r.n, .int .i64 r.at_, .int .i64 r.t] rfl rfl hnew (by simp [Value.oneCell']) (by omega) (by rw [maxLen_eq]; omega) (by omega) (by simp; omega) _ rfl ?_; intro g2 cap w8 own8 hgrow hat hlt8)
        have B8 : Below G wa w8 := ((Below.refl G wa).alloc hszA _).grown hgrow (by simp; omega) (fun j hj => (ownl.lt j hj).1)
        have out8 := own_at Db.out (w' := w8) (fun j hj => hgrow.block j (Db.out.lt j hj).2 (own_ne Db.out Db.left (by decide) j hj).symm)
        have K18 : Blk w8 w.heap.size 70 _ := (B8.block w.heap.size (by omega)).trans K1a
        have K28 : Blk w8 (w.heap.size + 1) 70 _ := (B8.block (w.heap.size + 1) (by have := HG.out; omega)).trans K2a
        have BE := Bwa.trans (B8.mono (by omega))
        have s8 := B8.size
        go_roundw
        case rel => exact ⟨k + 1, zo, zl + 1, uk, by omega, by omega, by omega, by go_num, ⟨by rw [HS.out.2.1, HS2.out, List.append_nil]; exact out8, by rw [HS.out.1, HS1.out, rowT_append]; exact own8⟩, Lib.hid (by rw [HS.out.2.2, HS3.out]; exact HU.out), K18, K28, by omega, BE⟩
        case measure => simp only [intOf]; omega
      · by_cases htr : b ≤ r.t
        · have HS1 := Lib.hid (show leftW b N r = [] by unfold leftW; rw [if_neg hdue, if_pos htr])
          have HS2 := Lib.hid (show outW b N r = [] by unfold outW; rw [if_neg hdue, if_pos htr])
          have HS3 := Lib.hid (show goneW b N (dueU b N u (l.take k)) r = IntKind.i64.wrap (uk + 1) by unfold goneW; rw [if_neg hdue, if_pos htr, HU.out])
          obtain ⟨u1, hu1⟩ : ∃ x, IntKind.i64.wrap (uk + 1) = x := ⟨_, rfl⟩
          rw [hu1] at HS3
          have K18 := K1a.set_ 7 (.int .i64 u1)
          simp at K18
          have K28 : Blk (wa.setCell ⟨w.heap.size, 7, none⟩ (.int .i64 u1)) (w.heap.size + 1) 70 _ := (Below.heap_setCell _ ⟨w.heap.size, 7, none⟩ _ (w.heap.size + 1) (by simp)).trans K2a
          have D8 := Da.at_ (wr' := wa.setCell ⟨w.heap.size, 7, none⟩ (.int .i64 u1)) (fun k' h1 _ => Below.heap_setCell _ ⟨w.heap.size, 7, none⟩ _ k' (by simp; omega))
          have BE := Bwa.setCell (p := ⟨w.heap.size, 7, none⟩) (Nat.le_refl _) (.int .i64 u1)
          have f1 := K1a.frozen
          have HK18 := Lib.hid K18
          have HK28 := Lib.hid K28
          have s8 : G ≤ (wa.setCell ⟨w.heap.size, 7, none⟩ (.int .i64 u1)).heap.size := by simpa using hszA
          clear K1a K2a K18 K28
          go_wp2_with fail
          go_roundw
          case rel => exact ⟨k + 1, zo, zl, u1, by omega, by omega, by omega, by go_num, by rw [HS.out.1, HS.out.2.1, HS1.out, HS2.out, List.append_nil, List.append_nil]; exact D8, Lib.hid (by rw [HS.out.2.2, HS3.out]), HK18.out, HK28.out, s8, BE⟩
          case measure => simp only [intOf]; omega
        · obtain ⟨T, hT⟩ : ∃ T : Nat, (T : Int) = r.t := ⟨r.t.toNat, by have := ok.t0; omega⟩
          have hT100 : T ≤ 100 := by omega
          obtain ⟨wv, hwv⟩ : ∃ x, waitN d T = x := ⟨_, rfl⟩
          have hwr : r.w = wv := by
            have h1 : r.w = waitN d r.t.toNat := HWR.out
            rw [h1, ← hwv, ← hT]; rfl
          have hwb := waitN_bd d hd0 hd1 T
          rw [hwv] at hwb
          obtain ⟨t1, ht1⟩ : ∃ x, r.t + 1 = x := ⟨_, rfl⟩
          obtain ⟨a1, ha1⟩ : ∃ x, N + wv = x := ⟨_, rfl⟩
          have HWC := Lib.hid (fun W => ref22_wait a b c d T hd0 hd1 (by omega) W)
          rw [hwv, show (T : Int) + 1 = t1 by omega] at HWC
          have x1 : IntKind.i64.wrap (r.t + 1) = t1 := by rw [IntWalk.i64_in _ (by omega), ht1]
          have x2 : IntKind.i64.wrap (N + wv) = a1 := by rw [IntWalk.i64_in _ (by omega), ha1]
          have HS1 := Lib.hid (show rowT (leftW b N r) = [.int .i64 r.n, .int .i64 a1, .int .i64 t1] by
            unfold leftW; rw [if_neg hdue, if_neg htr, ← ha1, ← ht1, ← hwr]; rfl)
          have HS2 := Lib.hid (show outW b N r = [.int .i64 r.n] by unfold outW; rw [if_neg hdue, if_neg htr])
          have HS3 := Lib.hid (show goneW b N (dueU b N u (l.take k)) r = dueU b N u (l.take k) by unfold goneW; rw [if_neg hdue, if_neg htr])
          have Bb : Below wa.heap.size wa (wa.alloc (.cells #[.int .i64 r.n] 3)) := (Below.refl _ wa).alloc (Nat.le_refl _) _
          have Db := Da.at_ (wr' := wa.alloc (.cells #[.int .i64 r.n] 3)) (fun k' _ h2 => Bb.block k' h2)
          have kab := Ka.below Bb Ka.lt
          have owno := Da.out
          clear hT hwv hwr ht1 ha1
          go_upto_region 12 with (at_builtin; refine wpList_append_lies _ rfl _ _ 38 rfl G 3 i0 (.int .i64 0) 1 8 Try.underlying38 hi0 hz0 hz1 hz2 rfl (by decide) _ _ _ rfl (owno.alloc _) ⟨wa.heap.size, 0, none⟩ 1 1 [.int .i64 r.n] rfl rfl (cell_one_new _ _ _) (by simp [Value.oneCell']) (by omega) (by rw [maxLen_eq]; omega) (by omega) (by simp; omega) _ rfl ?_; intro g5 cap5 w5 own5 hgrow5 hat5 hlt5)
          have B5 : Below G wa w5 := ((Below.refl G wa).alloc hszA _).grown hgrow5 (by simp; omega) (fun j hj => (owno.lt j hj).1)
          have left5 := own_at Db.left (w' := w5) (fun j hj => hgrow5.block j (Db.left.lt j hj).2 (own_ne Db.left Db.out (by decide) j hj).symm)
          have k5 : Blk w5 gb 125 _ := (hgrow5.block gb kab.lt (own_ne_blk Db.out kab (by decide)).symm).trans kab
          have K15 : Blk w5 w.heap.size 70 _ := (B5.block w.heap.size (by omega)).trans K1a
          have K25 : Blk w5 (w.heap.size + 1) 70 _ := (B5.block (w.heap.size + 1) (by have := HG.out; omega)).trans K2a
          have s5 := B5.size
          have hsz5 : G ≤ w5.heap.size := by omega
          have Bw5 := Bwa.trans (B5.mono (by omega))
          have hg5 := (own5.lt g5 rfl).2
          obtain ⟨la, ln, lc, rfl⟩ : ∃ a n c, u7 = Value.slice a n c := by
            rcases left5.2 with ⟨rfl, _⟩ | ⟨_, _, _, rfl, _⟩ <;> exact ⟨_, _, _, rfl⟩
          obtain ⟨lrow, hlrow⟩ : ∃ x, rowT (dueL b N (l.take k)) = x := ⟨_, rfl⟩
          rw [hlrow] at left5
          have HLR := Lib.hid hlrow
          clear ca c1 Da Db kab owno K1a K2a Ka hlrow hgrow5 Bb
          have hne : Nonempty (UWF (Phase [9, 15, 16] (StDue w5 G [w.heap.size, w.heap.size + 1, gb, g5] zl #[.int .i64 r.n, .int .i64 a1, .int .i64 t1] lrow))) := Phase.ne (G := fun _ => undef) (W := w5.drew) rfl
          have EB := fun (gx : UWF (Phase [9, 15, 16] (StDue w5 G [w.heap.size, w.heap.size + 1, gb, g5] zl #[.int .i64 r.n, .int .i64 a1, .int .i64 t1] lrow))) => (show Blk gx.world w.heap.size 70 _ from by
            obtain ⟨k, _, h⟩ := gx.holds
            exact (h.keep (by simp) K15.lt).trans K15).cell
          have EW := fun (gx : UWF (Phase [9, 15, 16] (StDue w5 G [w.heap.size, w.heap.size + 1, gb, g5] zl #[.int .i64 r.n, .int .i64 a1, .int .i64 t1] lrow))) => (show Blk gx.world gb 125 _ from by
            obtain ⟨k, _, h⟩ := gx.holds
            exact (h.keep (by simp) k5.lt).trans k5).cell
          simp at EB EW
          refine wp_region_free [(0, 9, some 9), (10, 5, some 15), (16, 0, some 16), (17, 1, none)] (Phase [9, 15, 16] (StDue w5 G [w.heap.size, w.heap.size + 1, gb, g5] zl #[.int .i64 r.n, .int .i64 a1, .int .i64 t1] lrow)) (GDue zl wv) (fun y => if y = 9 then .int .i64 wv else if y = 15 then .slice (some ⟨0, 0, none⟩) 1 1 else .slice (some ⟨0, 0, none⟩) (zl + 1) 0) (by kernel_rfl) (by kernel_rfl) ?_ ?_ ?_ ?_
          · intro q hq LL G' W hC
            simp [moversI] at hq
            exact hC.quiet (fun i e => by have := List.mem_of_getElem? e; simp at this; omega)
          · exact Phase.start rfl
          · intro q
            exact ⟨fun e => by subst e; rfl, fun e => by subst e; exact ⟨_, rfl⟩, fun e => by subst e; exact ⟨_, _, rfl⟩⟩
          · intro G' hG'
            have g9 := (hG' 9).a9 rfl
            obtain ⟨gl, g15⟩ := (hG' 15).a15 rfl
            obtain ⟨gr, gc, g16⟩ := (hG' 16).a16 rfl
            simp only [walkF, List.drop_zero, List.drop_succ_cons, List.take_succ_cons, List.take_zero, List.toList_toArray]; (repeat (go_big_quiet_step (fail))); refine wpQuiet_nil ?_
            refine ⟨_, _, _, _, _, _, rfl, .inl ⟨rfl, ?_, ?_⟩⟩
            · intro LL W hL hA hC
              have hst : W = w5.drew := hC.at 0 9 rfl hL (fun m' h0 _ => absurd h0 (by omega))
              subst hst
              refine ⟨?_⟩; go_simp; simp only [movesToUpon]
              refine (HWC.out _).mono ?_
              rintro e w' ⟨rfl, B6⟩
              exact ⟨_, rfl, ⟨fun _ => rfl, (fun e => by cases e), (fun e => by cases e)⟩, hC.next (by decide) 0 9 rfl hL (fun m' h0 _ => absurd h0 (by omega)) ((Below.refl _ _).drew.trans B6)⟩
            · intro K' hK'; dsimp only at hK'; rw [g9]; go_big_quiet_op; go_big_quiet_on; (repeat (go_big_quiet_step (fail))); refine wpQuiet_nil ?_
              refine ⟨_, _, _, _, _, _, rfl, .inl ⟨rfl, ?_, ?_⟩⟩
              · intro LL W hL hA hC
                have hp : ∀ m', 0 < 1 → [9, 15, 16][1 - 1]? = some m' → LL m' = true := fun m' _ h => by
                  simp at h; subst h; exact hA 9 (by kernel_rfl)
                have hst : Below w5.heap.size w5 W := hC.at 1 15 rfl hL hp
                refine ⟨?_⟩; go_simp; simp only [movesToUpon]
                exact ⟨⟨(fun e => by cases e), fun _ => ⟨_, rfl⟩, (fun e => by cases e)⟩, hC.next (by decide) 1 15 rfl hL hp ⟨W, hst, rfl, upF_same _ _ _⟩⟩
              · intro K' hK'; dsimp only at hK'; rw [g15]; go_big_quiet_op; go_big_quiet_on; (repeat (go_big_quiet_step (fail))); refine wpQuiet_nil ?_
                refine ⟨_, _, _, _, _, _, rfl, .inl ⟨rfl, ?_, ?_⟩⟩
                · intro LL W hL hA hC
                  have hp : ∀ m', 0 < 2 → [9, 15, 16][2 - 1]? = some m' → LL m' = true := fun m' _ h => by
                    simp at h; subst h; exact hA 15 (by kernel_rfl)
                  obtain ⟨W1, hB1, rfl, hg15⟩ : ∃ W1, Below w5.heap.size w5 W1 ∧ W = W1.alloc (.cells #[.int .i64 r.n, .int .i64 a1, .int .i64 t1] 125) ∧ G' 15 = .slice (some ⟨W1.heap.size, 0, none⟩) 1 1 := hC.at 2 16 rfl hL hp
                  rw [g15] at hg15
                  injection hg15 with f1 f2 f3
                  injection f1 with f1
                  injection f1 with f1
                  subst f1
                  have sW := hB1.size
                  have hsW : G ≤ W1.heap.size := by omega
                  have own2 := own_at left5 (w' := W1) (fun j hj => hB1.block j (left5.lt j hj).2)
                  have own3 := own_at own2 (w' := W1.alloc (.cells #[.int .i64 r.n, .int .i64 a1, .int .i64 t1] 125)) (fun j hj => Below.heap_alloc W1 _ _ (own2.lt j hj).2)
                  have hnew := World.news_of_block (Blk.new W1 125 #[.int .i64 r.n, .int .i64 a1, .int .i64 t1])
                  obtain ⟨g8, cap8, w8, hrun, own8, hgrow8, hat8, hlt8⟩ := run_append_lies (P := Try.prog) _ 68 68 G 125 j0 (.agg zWT) 3 24 Try.underlying68 hj0 hy0 hy1 hy2 rfl (by decide) _ _ _ own3 ⟨W1.heap.size, 0, none⟩ 1 1 [.int .i64 r.n, .int .i64 a1, .int .i64 t1] rfl hnew (by simp [Value.oneCell']) (by omega) (by rw [maxLen_eq]; omega) (by omega) (by simp; omega) _ rfl
                  have B8 : Below G w5 w8 := (hB1.mono hsz5).trans (((Below.refl G W1).alloc hsW _).grown hgrow8 (by simp; omega) (fun j hj => (own3.lt j hj).1))
                  have far : ∀ j, j < w5.heap.size → (Value.slice la ln lc).ownBlock ≠ some j → w8.heap[j]? = w5.heap[j]? := fun j h1 h2 => (hgrow8.block j (by simp; omega) (fun e => h2 e.symm)).trans ((Below.heap_alloc W1 _ _ (by omega)).trans (hB1.block j h1))
                  refine MovesTo.append_ rfl rfl rfl hrun ?_
                  exact ⟨⟨(fun e => by cases e), (fun e => by cases e), fun _ => ⟨_, _, rfl⟩⟩, hC.next (by decide) 2 16 rfl hL hp ⟨g8, cap8, upF_same _ _ _, own8, B8, fun j hj => by
                    simp at hj
                    rcases hj with rfl | rfl | rfl | rfl
                    · exact far _ K15.lt (own_ne_blk left5 K15 (by decide))
                    · exact far _ K25.lt (own_ne_blk left5 K25 (by decide))
                    · exact far _ k5.lt (fun e => by have := HLB.out _ e; omega)
                    · exact far _ hg5 (fun e => own_ne left5 own5 (by decide) _ e rfl)⟩⟩
                · intro K' hK'; dsimp only at hK'; rw [g16]; go_big_quiet_op; go_big_quiet_on; (repeat (go_big_quiet_step (fail))); refine wpQuiet_nil ?_
                  intro LL w9 hL hC
                  obtain ⟨g8, cap8, hg16, own8, B8, hkp⟩ : ∃ g4 cap, G' 16 = .slice (some ⟨g4, 0, none⟩) (zl + 1) cap ∧ w9.ownsRow G 125 3 (.slice (some ⟨g4, 0, none⟩) (zl + 1) cap) (zl + 1) (lrow ++ [Value.int .i64 r.n, Value.int .i64 a1, Value.int .i64 t1]) ∧ Below G w5 w9 ∧ (∀ j, j ∈ [w.heap.size, w.heap.size + 1, gb, g5] → w9.heap[j]? = w5.heap[j]?) :=
                    hC.all (fun q hq => hL q (by
                      simp at hq
                      rcases hq with rfl | rfl | rfl <;> decide)) (fun k G W h => h.top)
                  rw [g16] at hg16
                  injection hg16 with f1 f2 f3
                  injection f1 with f1
                  injection f1 with f1
                  subst f1 f3
                  have K19 : Blk w9 w.heap.size 70 _ := (hkp _ (by simp)).trans K15
                  have K29 : Blk w9 (w.heap.size + 1) 70 _ := (hkp _ (by simp)).trans K25
                  have out9 := own_at own5 (w' := w9) (fun j hj => by injection hj with hj; subst hj; exact hkp _ (by simp))
                  have BE := Bw5.trans (B8.mono (by omega))
                  have s9 := B8.size
                  clear hC hL hG' g9 g15 g16 hne EB EW k5 K15 K25
                  go_wp2_with fail
                  go_roundw
                  case rel => exact ⟨k + 1, zo + 1, zl + 1, uk, by omega, by omega, by omega, by go_num, ⟨by rw [HS.out.2.1, HS2.out]; exact out9, by rw [HS.out.1, rowT_append, HS1.out, HLR.out]; exact own8⟩, Lib.hid (by rw [HS.out.2.2, HS3.out]; exact HU.out), K19, K29, by omega, BE⟩
                  case measure => simp only [intOf]; omega
    · obtain rfl : k = n := by omega
      have p1 : ¬ (k : Int) < (k : Int) := by omega
      have hall : l.take k = l := by have := HN.out; rw [← this]; exact List.take_length
      rw [hall] at D HU
      rw [HLL.out] at D
      rw [HUU.out] at HU
      obtain rfl : uu = uk := HU.out
      obtain ⟨xa, xn, xc, rfl, hx⟩ : ∃ a n c, u7 = Value.slice a n c ∧ n = zl := by
        rcases D.left.2 with ⟨rfl, h0⟩ | ⟨_, _, _, rfl, _⟩
        · exact ⟨_, _, _, rfl, h0.symm⟩
        · exact ⟨_, _, _, rfl, rfl⟩
      obtain rfl := hx
      have hGw := HG.out
      have K3 := K1.set_ 4 (.slice xa xn xc)
      simp at K3
      have K2s : Blk (wr.setCell ⟨w.heap.size, 4, none⟩ (.slice xa xn xc)) (w.heap.size + 1) 70 _ := (Below.heap_setCell _ ⟨w.heap.size, 4, none⟩ _ (w.heap.size + 1) (by simp)).trans K2
      have D9 := D.at_ (wr' := wr.setCell ⟨w.heap.size, 4, none⟩ (.slice xa xn xc)) (fun j h1 _ => Below.heap_setCell _ ⟨w.heap.size, 4, none⟩ _ j (by simp; omega))
      have B9 := Bw.setCell (p := ⟨w.heap.size, 4, none⟩) (Nat.le_refl _) (.slice xa xn xc)
      have c1r := K1.cell
      have f1r := K1.frozen
      simp at c1r
      clear hall D K1 K2 HU hGw
      go_upto_region 15 with fail
      generalize wr.setCell ⟨w.heap.size, 4, none⟩ (.slice xa xn xc) = w9 at *
      obtain ⟨w10, e10, K10, B10, hk10⟩ := eight_set K2s (.int .i64 a) (.int .i64 b) (.int .i64 c) (.int .i64 d) (.slice xa xn xc) (.bool y) (.int .i64 e') (.int .i64 uu) w.heap.size (by omega)
      have D10 := D9.at_ (wr' := w10) (fun j h1 _ => hk10 j (by have := HG.out; omega))
      have HR := Lib.hid (RowT.of_own D10.left)
      have HO := Lib.hid (own_low D10.out (B' := w.heap.size) (by omega))
      have c3 := K3.cell
      have c2 := K2s.cell
      have f2 := K2s.frozen
      have c10 := K10.cell
      simp at c3 c2 c10
      have BE := B9.trans B10
      clear c1r f1r D9 D10
      go_wp2_with fail
      refine bodyPost_ret (v := .tuple #[gval a b c d y e' uu xa xn xc, u6]) ?_ rfl ⟨xa, xn, xc, u6, rfl, ⟨zo, HO.out⟩, HR.out, BE⟩
      simp [results, Try.results61, go_sem, c10, gval]
      try rfl
end Go.Proofs.Ytonamlgipoannaa
