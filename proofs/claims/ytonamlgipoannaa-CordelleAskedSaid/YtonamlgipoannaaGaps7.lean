/- Package gaps: Due. No condition but that the gaps stand. -/
import Derived.Test.YtonamlgipoannaaGaps6
namespace Go.Proofs.Ytonamlgipoannaa
open Go.RowKit BigFrame
attribute [local go_sem ↓] Go.wp_at_zero Go.wp_at_succ

theorem own_ne {w : World} {B e s n B' e' s' n' : Nat} {v v' : Value} {xs xs' : List Value} (h : w.ownsRow B e s v n xs) (h' : w.ownsRow B' e' s' v' n' xs') (hne : e ≠ e') : ∀ j, v.ownBlock = some j → v'.ownBlock ≠ some j := fun j hj hj' => by
  rcases h.2 with ⟨rfl, _⟩ | ⟨g, cap, cur, rfl, hb, hg, _⟩
  · cases hj
  · rcases h'.2 with ⟨rfl, _⟩ | ⟨g', cap', cur', rfl, hb', hg', _⟩
    · cases hj'
    · injection hj with hj
      injection hj' with hj'
      subst hj hj'
      rw [hg] at hg'
      injection hg' with hg'
      injection hg' with _ ht
      exact hne ht
theorem KG.down {w w' : World} {g B : Nat} (h : KG w w' g) (hB : B ≤ w.heap.size) (hg : B ≤ g) : Below B w w' :=
  ⟨h.below.os, h.below.tape, h.below.output, h.below.size, fun k hk => h.keep k (by omega) (by omega)⟩
theorem own_ne_blk {w : World} {B e s n g t : Nat} {v : Value} {xs : List Value} {cs : Array Value} (h : w.ownsRow B e s v n xs) (k : Blk w g t cs) (hne : e ≠ t) : v.ownBlock ≠ some g := fun hj => by
  rcases h.2 with ⟨rfl, _⟩ | ⟨g', cap, cur, rfl, hb, hg, _⟩
  · cases hj
  · injection hj with hj
    subst hj
    unfold Blk at k
    rw [hg] at k
    injection k with k
    injection k with _ ht
    exact hne ht
def leftW (b now : Int) (r : WR) : List WR := if now < r.at_ then [r] else if b ≤ r.t then [] else [r.ask now]
def outW (b now : Int) (r : WR) : List Value := if now < r.at_ then [] else if b ≤ r.t then [] else [.int .i64 r.n]
def goneW (b now u : Int) (r : WR) : Int := if now < r.at_ then u else if b ≤ r.t then IntKind.i64.wrap (u + 1) else u
def dueL (b now : Int) (l : List WR) : List WR := l.flatMap (leftW b now)
def dueO (b now : Int) (l : List WR) : List Value := l.flatMap (outW b now)
def dueU (b now u : Int) (l : List WR) : Int := l.foldl (goneW b now) u
theorem due_snoc (b now u : Int) (l : List WR) (k : Nat) (r : WR) (h : l[k]? = some r) : dueL b now (l.take (k + 1)) = dueL b now (l.take k) ++ leftW b now r ∧ dueO b now (l.take (k + 1)) = dueO b now (l.take k) ++ outW b now r ∧ dueU b now u (l.take (k + 1)) = goneW b now (dueU b now u (l.take k)) r := by
  unfold dueL dueO dueU
  rw [List.take_add_one, h]
  simp
/-- What a wanting one may be. -/
structure WOk (r : WR) : Prop where
  t0 : 0 ≤ r.t
  w0 : 0 ≤ r.w
  w1 : r.w ≤ 1048576
/-- Rows that the round has appended to. -/
structure DueR (G : Nat) (wr : World) (x5 x6 : Value) (zo zl : Nat) (lo : List Value) (ll : List WR) : Prop where
  out : wr.ownsRow G 3 1 x5 zo lo
  left : wr.ownsRow G 112 4 x6 zl (rowW ll)
theorem DueR.at_ {G : Nat} {wr wr' : World} {x5 x6 : Value} {zo zl : Nat} {lo : List Value} {ll : List WR} (h : DueR G wr x5 x6 zo zl lo ll) (hk : ∀ k, G ≤ k → k < wr.heap.size → wr'.heap[k]? = wr.heap[k]?) : DueR G wr' x5 x6 zo zl lo ll :=
  ⟨own_at h.out (fun j hj => hk j (h.out.lt j hj).1 (h.out.lt j hj).2), own_at h.left (fun j hj => hk j (h.left.lt j hj).1 (h.left.lt j hj).2)⟩
set_option maxRecDepth 8000 in
set_option maxHeartbeats 16000000 in
theorem gaps_Due (g : Nat) (a b c d : Int) (y : Bool) (e' u : Int) (l : List WR) (v : Value) (now N : Int) (hN : clipI now 0 1099511627776 = N) (w : World) (h : GV w g a b c d y e' u l v) (hl : l.length ≤ 100000) (hb : b ≤ 100) (hok : ∀ r ∈ l, WOk r) :
    Calls Try.prog 25 #[.pointer (some ⟨g, 0, none⟩), .int .i64 now] w fun e w' => ∃ vo, e = .returned vo ∧ (∃ zo, w'.ownsRow w.heap.size 3 1 vo zo (dueO b N l)) ∧ ∃ v', GV w' g a b c d y e' (dueU b N u l) (dueL b N l) v' ∧ (∀ k, v'.ownBlock = some k → w.heap.size ≤ k) ∧ KG w w' g := by
  obtain ⟨i0, hi0, hz0, hz1, hz2⟩ := info_parts (show (Try.prog.info? 3).map (fun i => (i.zero, i.size, i.bytes)) = some (some (.int .i64 0), 1, 8) by kernel_rfl)
  obtain ⟨j0, hj0, hy0, hy1, hy2⟩ := info_want
  have HT := Lib.hid (fun W => gaps_tick now N hN W)
  have hNb := clip_bd now 0 1099511627776 (by decide)
  rw [hN] at hNb
  obtain ⟨nb0, nb1⟩ := hNb
  have H0 := h
  obtain ⟨va, vc, rfl, hc⟩ := own_want h.own
  have c1 := h.blk.cell
  simp at c1
  obtain ⟨n, hn⟩ : ∃ n, l.length = n := ⟨_, rfl⟩
  rw [hn] at hc hl c1 H0
  have HN := Lib.hid hn
  have HC := Lib.hid hc
  have HOK := Lib.hid hok
  have hgl := h.blk.lt
  have HV' := Lib.hid (fun j (hj : (Value.slice va n vc).ownBlock = some j) => (H0.own.lt j hj).2)
  obtain ⟨G, hG⟩ : ∃ G, w.heap.size = G := ⟨_, rfl⟩
  have HG := Lib.hid hG
  rw [hG] at hgl ⊢
  obtain ⟨ll, hll⟩ : ∃ x, dueL b N l = x := ⟨_, rfl⟩
  obtain ⟨uu, huu⟩ : ∃ x, dueU b N u l = x := ⟨_, rfl⟩
  rw [hll, huu]
  have HLL := Lib.hid hll
  have HUU := Lib.hid huu
  clear h hc hn hN hok hG hll huu
  go_enter Try.func25, Try.ntmps25
  go_wp2_with (go_at_call 50; ((with_reducible refine (HT.out _).mono ?_); rintro e w' ⟨rfl, rfl⟩))
  go_loopw [5, 6, 16] (fun x5 x6 x16 wr => ∃ (k zo zl : Nat) (uk : Int), k ≤ n ∧ zo ≤ k ∧ zl ≤ k ∧ x16 = .int .i64 k ∧ DueR G wr x5 x6 zo zl (dueO b N (l.take k)) (dueL b N (l.take k)) ∧ Hid (dueU b N u (l.take k) = uk) ∧ GV wr g a b c d y e' uk l (.slice va n vc) ∧ KG w wr g) (fun _ _ x16 _ => n - (intOf x16).toNat)
  case atStart => exact ⟨0, 0, 0, u, by omega, by omega, by omega, rfl, ⟨⟨rfl, .inl ⟨rfl, rfl⟩⟩, ⟨rfl, .inl ⟨rfl, rfl⟩⟩⟩, Lib.hid rfl, H0, KG.of_below (Below.refl _ _)⟩
  case round =>
    obtain ⟨k, zo, zl, uk, hk, hzo, hzl, rfl, D, HU, hv, KK⟩ := hrel
    have hsz : G ≤ wr.heap.size := by have := KK.below.size; have := HG.out; omega
    by_cases hlt : k < n
    · obtain ⟨g', rfl, hg', hcell⟩ := HC.out (by omega)
      have hql : k < l.length := by have := HN.out; omega
      obtain ⟨r, hrr⟩ : ∃ r, l[k]? = some r := ⟨_, List.getElem?_eq_getElem hql⟩
      have gne : g' ≠ g := fun e => H0.ne (by rw [e]; rfl)
      have hkp := KK.keep g' hg' gne
      obtain ⟨e0, e1, e2, e3⟩ := hcell k r hrr
      have d0 := (World.cell?_of_block (a := ⟨g', k * 4, none⟩) hkp).trans e0
      have d1 := (World.cell?_of_block (a := ⟨g', k * 4 + 1, none⟩) hkp).trans e1
      have d2 := (World.cell?_of_block (a := ⟨g', k * 4 + 2, none⟩) hkp).trans e2
      have d3 := (World.cell?_of_block (a := ⟨g', k * 4 + 3, none⟩) hkp).trans e3
      have HS := Lib.hid (due_snoc b N u l k r hrr)
      have ok := HOK.out r (List.mem_of_getElem? hrr)
      have q0 : (0 : Int) ≤ (k : Int) := by omega
      have q1 : (k : Int) < (n : Int) := by omega
      have wk : IntKind.i64.wrap ((k : Int) + 1) = ((k + 1 : Nat) : Int) := by rw [IntWalk.i64_in _ (by omega)]; omega
      have Ka := Blk.new wr 112 r.blk
      have Ba : Below wr.heap.size wr (wr.alloc (.cells r.blk 112)) := (Below.refl _ wr).alloc (Nat.le_refl _) _
      have hva := hv.below Ba
      have Da := D.at_ (wr' := wr.alloc (.cells r.blk 112)) (fun k' _ h2 => Ba.block k' h2)
      have KKa := KK.step (Ba.mono (by have := HG.out; omega))
      unfold WR.blk at Ka Ba hva Da KKa
      obtain ⟨gb, hgb⟩ : ∃ x, wr.heap.size = x := ⟨_, rfl⟩
      have sza : (wr.alloc (.cells #[.int .i64 r.n, .int .i64 r.at_, .int .i64 r.t, .int .i64 r.w] 112)).heap.size = gb + 1 := by simp [hgb]
      clear e0 e1 e2 e3 hrr hcell hql hkp
      go_upto_region 7 with fail
      clear d0 d1 d2 d3
      generalize wr.alloc (.cells #[.int .i64 r.n, .int .i64 r.at_, .int .i64 r.t, .int .i64 r.w] 112) = wa at *
      rw [hgb] at Ka hsz
      have hszA : G ≤ wa.heap.size := by omega
      have HKG := Lib.hid (fun (w8 : World) (B8 : Below G wa w8) => KKa.step (by rw [HG.out]; exact B8))
      have HGV := Lib.hid (fun (w8 : World) (B8 : Below G wa w8) => hva.at_ (B8.block g hgl) (fun j hj => B8.block j (by have := HV'.out j hj; have := HG.out; omega)))
      have ca := Ka.cell
      simp at ca
      have hgbl : gb < wa.heap.size := by omega
      have HDk := Lib.hid (fun (w3 : World) (hk : ∀ k', k' ≠ gb → k' < wa.heap.size → w3.heap[k']? = wa.heap[k']?) => D.at_ (wr' := w3) (fun k' _ h2 => (hk k' (by omega) (by omega)).trans (Ba.block k' h2)))
      clear hgb Ba D hv KK sza
      by_cases hdue : N < r.at_
      · have HS1 := Lib.hid (show leftW b N r = [r] by unfold leftW; rw [if_pos hdue])
        have HS2 := Lib.hid (show outW b N r = [] by unfold outW; rw [if_pos hdue])
        have HS3 := Lib.hid (show goneW b N (dueU b N u (l.take k)) r = dueU b N u (l.take k) by unfold goneW; rw [if_pos hdue])
        have p3 : ¬ r.at_ ≤ N := by omega
        have kb := Blk.new wa 112 #[.int .i64 r.n, .int .i64 r.at_, .int .i64 r.t, .int .i64 r.w]
        have hnew := World.news_of_block kb
        have Bb : Below wa.heap.size wa (wa.alloc (.cells #[.int .i64 r.n, .int .i64 r.at_, .int .i64 r.t, .int .i64 r.w] 112)) := (Below.refl _ wa).alloc (Nat.le_refl _) _
        have Db := Da.at_ (wr' := wa.alloc (.cells #[.int .i64 r.n, .int .i64 r.at_, .int .i64 r.t, .int .i64 r.w] 112)) (fun k' _ h2 => Bb.block k' h2)
        have ownl := Db.left
        go_wp2_with (at_builtin; refine wpList_append_lies _ rfl _ _ 108 rfl G 112 j0 (.agg zWant) 4 32 Try.underlying108 hj0 hy0 hy1 hy2 rfl (by decide) _ _ _ rfl ownl ⟨wa.heap.size, 0, none⟩ 1 1 [.int .i64 r.n, .int .i64 r.at_, .int .i64 r.t, .int .i64 r.w] rfl rfl hnew (by simp [Value.oneCell']) (by omega) (by rw [maxLen_eq]; omega) (by omega) (by simp; omega) _ rfl ?_; intro g2 cap w8 own8 hgrow hat hlt8)
        have B8 : Below G wa w8 := ((Below.refl G wa).alloc hszA _).grown hgrow (by simp; omega) (fun j hj => (ownl.lt j hj).1)
        have out8 := own_at Db.out (w' := w8) (fun j hj => hgrow.block j (Db.out.lt j hj).2 (own_ne Db.out Db.left (by decide) j hj).symm)
        go_roundw
        case rel => exact ⟨k + 1, zo, zl + 1, uk, by omega, by omega, by omega, by go_num, ⟨by rw [HS.out.2.1, HS2.out, List.append_nil]; exact out8, by rw [HS.out.1, HS1.out, rowW_append]; exact own8⟩, Lib.hid (by rw [HS.out.2.2, HS3.out]; exact HU.out), HGV.out w8 B8, HKG.out w8 B8⟩
        case measure => simp only [intOf]; omega
      · have p3 : r.at_ ≤ N := by omega
        by_cases htr : b ≤ r.t
        · have HS1 := Lib.hid (show leftW b N r = [] by unfold leftW; rw [if_neg hdue, if_pos htr])
          have HS2 := Lib.hid (show outW b N r = [] by unfold outW; rw [if_neg hdue, if_pos htr])
          have HS3 := Lib.hid (show goneW b N (dueU b N u (l.take k)) r = IntKind.i64.wrap (uk + 1) by unfold goneW; rw [if_neg hdue, if_pos htr, HU.out])
          have HA := Lib.hid (gaps_askNo g gb a b c d y e' uk _ l _ r N wa hva Ka htr rfl)
          obtain ⟨u1, hu1⟩ : ∃ x, IntKind.i64.wrap (uk + 1) = x := ⟨_, rfl⟩
          rw [hu1] at HS3 HA
          clear hu1 hva Ka
          go_wp2_with fail
          refine HA.out.mono ?_
          rintro e w3 ⟨rfl, hv3, K3⟩
          go_wp2_with fail
          go_roundw
          case rel => exact ⟨k + 1, zo, zl, u1, by omega, by omega, by omega, by go_num, by rw [HS.out.1, HS.out.2.1, HS1.out, HS2.out, List.append_nil, List.append_nil]; exact Da.at_ (fun k' h1 h2 => K3.keep k' h2 (by omega)), Lib.hid (by rw [HS.out.2.2, HS3.out]), hv3, KKa.trans K3⟩
          case measure => simp only [intOf]; omega
        · obtain ⟨s, hs⟩ : ∃ s, r.ask N = s := ⟨_, rfl⟩
          have HS1 := Lib.hid (show leftW b N r = [s] by unfold leftW; rw [if_neg hdue, if_neg htr, hs])
          have HS2 := Lib.hid (show outW b N r = [.int .i64 s.n] by unfold outW; rw [if_neg hdue, if_neg htr, ← hs]; rfl)
          have HS3 := Lib.hid (show goneW b N (dueU b N u (l.take k)) r = dueU b N u (l.take k) by unfold goneW; rw [if_neg hdue, if_neg htr])
          have HA := Lib.hid (gaps_askYes g gb a b c d y e' uk l _ r N wa hva Ka (by omega) hb ok.t0 ok.w0 ok.w1 nb0 nb1)
          rw [hs] at HA
          clear hs hva Ka
          go_wp2_with fail
          refine HA.out.mono ?_
          rintro e w3 ⟨rfl, k3, K3⟩
          unfold WR.blk at k3
          have B3 : Below G wa w3 := K3.down hszA hsz
          have s3 := B3.size
          have D3 := HDk.out w3 (fun k' h1 h2 => K3.keep k' h2 h1)
          have c3 := k3.cell
          simp at c3
          have Bb : Below w3.heap.size w3 (w3.alloc (.cells #[.int .i64 s.n] 3)) := (Below.refl _ w3).alloc (Nat.le_refl _) _
          have Db := D3.at_ (wr' := w3.alloc (.cells #[.int .i64 s.n] 3)) (fun k' _ h2 => Bb.block k' h2)
          have kb3 := k3.below Bb k3.lt
          have owno := D3.out
          have hsz3 : G ≤ w3.heap.size := by omega
          clear ca Da
          go_upto_region 10 with (at_builtin; refine wpList_append_lies _ rfl _ _ 38 rfl G 3 i0 (.int .i64 0) 1 8 Try.underlying38 hi0 hz0 hz1 hz2 rfl (by decide) _ _ _ rfl (owno.alloc _) ⟨w3.heap.size, 0, none⟩ 1 1 [.int .i64 s.n] rfl rfl (cell_one_new _ _ _) (by simp [Value.oneCell']) (by omega) (by rw [maxLen_eq]; omega) (by omega) (by simp; omega) _ rfl ?_; intro g5 cap5 w5 own5 hgrow5 hat5 hlt5)
          have B5 : Below G w3 w5 := ((Below.refl G w3).alloc hsz3 _).grown hgrow5 (by simp; omega) (fun j hj => (owno.lt j hj).1)
          have left5 := own_at Db.left (w' := w5) (fun j hj => hgrow5.block j (Db.left.lt j hj).2 (own_ne Db.left Db.out (by decide) j hj).symm)
          have k5 : Blk w5 gb 112 _ := (hgrow5.block gb kb3.lt (own_ne_blk Db.out kb3 (by decide)).symm).trans kb3
          have c5 := k5.cell
          simp at c5
          have s5 := B5.size
          have hsz5 : G ≤ w5.heap.size := by omega
          clear c3 k3 kb3 k5 Bb
          have kb := Blk.new w5 112 #[.int .i64 s.n, .int .i64 s.at_, .int .i64 s.t, .int .i64 s.w]
          have hnew := World.news_of_block kb
          have Bc : Below w5.heap.size w5 (w5.alloc (.cells #[.int .i64 s.n, .int .i64 s.at_, .int .i64 s.t, .int .i64 s.w] 112)) := (Below.refl _ w5).alloc (Nat.le_refl _) _
          have Dc := (DueR.mk own5 left5).at_ (wr' := w5.alloc (.cells #[.int .i64 s.n, .int .i64 s.at_, .int .i64 s.t, .int .i64 s.w] 112)) (fun k' _ h2 => Bc.block k' h2)
          have ownl := Dc.left
          go_wp2_with (at_builtin; refine wpList_append_lies _ rfl _ _ 108 rfl G 112 j0 (.agg zWant) 4 32 Try.underlying108 hj0 hy0 hy1 hy2 rfl (by decide) _ _ _ rfl ownl ⟨w5.heap.size, 0, none⟩ 1 1 [.int .i64 s.n, .int .i64 s.at_, .int .i64 s.t, .int .i64 s.w] rfl rfl hnew (by simp [Value.oneCell']) (by omega) (by rw [maxLen_eq]; omega) (by omega) (by simp; omega) _ rfl ?_; intro g2 cap w8 own8 hgrow hat hlt8)
          have B8 : Below G w5 w8 := ((Below.refl G w5).alloc hsz5 _).grown hgrow (by simp; omega) (fun j hj => (ownl.lt j hj).1)
          have out8 := own_at Dc.out (w' := w8) (fun j hj => hgrow.block j (Dc.out.lt j hj).2 (own_ne Dc.out Dc.left (by decide) j hj).symm)
          have BE := B3.trans (B5.trans B8)
          go_roundw
          case rel => exact ⟨k + 1, zo + 1, zl + 1, uk, by omega, by omega, by omega, by go_num, ⟨by rw [HS.out.2.1, HS2.out]; exact out8, by rw [HS.out.1, HS1.out, rowW_append]; exact own8⟩, Lib.hid (by rw [HS.out.2.2, HS3.out]; exact HU.out), HGV.out w8 BE, HKG.out w8 BE⟩
          case measure => simp only [intOf]; omega
    · obtain rfl : k = n := by omega
      have q1 : ¬ (k : Int) < (k : Int) := by omega
      have hall : l.take k = l := by have := HN.out; rw [← this]; exact List.take_length
      rw [hall] at D HU
      rw [HLL.out] at D
      rw [HUU.out] at HU
      obtain rfl : uu = uk := HU.out
      have hz : ll.length = zl := by have h1 := D.left.1; rw [rowW_len] at h1; omega
      have HZ := Lib.hid hz
      obtain ⟨xa, xn, xc, rfl⟩ : ∃ a n c, u6 = Value.slice a n c := by
        rcases D.left.2 with ⟨rfl, _⟩ | ⟨_, _, _, rfl, _⟩ <;> exact ⟨_, _, _, rfl⟩
      have hne : ∀ j, (Value.slice xa xn xc).ownBlock = some j → G ≤ j := fun j hj => (D.left.lt j hj).1
      have k1 := hv.blk.set_ 4 (.slice xa xn xc)
      simp at k1
      have HF : GV (wr.setCell ⟨g, 4, none⟩ (.slice xa xn xc)) g a b c d y e' uu ll (.slice xa xn xc) := ⟨k1, by rw [hz]; exact own_at (own_base D.left) (fun j hj => Below.heap_setCell _ ⟨g, 4, none⟩ _ j (fun e => by have := hne j hj; simp at e; omega)), fun e => by have := hne _ e; omega⟩
      have HO := Lib.hid (own_at D.out (w' := wr.setCell ⟨g, 4, none⟩ (.slice xa xn xc)) (fun j hj => Below.heap_setCell _ ⟨g, 4, none⟩ _ j (fun e => by have := (D.out.lt j hj).1; simp at e; omega)))
      have HK := Lib.hid (KK.trans (KG.put (o := 4) (x := .slice xa xn xc)))
      have HF' := Lib.hid HF
      have c2 := hv.blk.cell
      have f2 := hv.blk.frozen
      simp at c2
      clear hall HF k1 hz D HU hv KK
      go_wp2_with fail
      go_ret
      exact ⟨_, rfl, ⟨zo, HO.out⟩, _, HF'.out, hne, HK.out⟩
end Go.Proofs.Ytonamlgipoannaa
