/- The statement PaceBound, walked: it returns true. No condition but the frame's. -/
import Derived.Test.YtomhnegfemdcdaaPaceBoundP
import Derived.Deep.AppendLies
namespace Go.Proofs.Ytomhnegfemdcdaa
open Go.RowKit
attribute [local go_sem ↓] Go.wp_at_zero Go.wp_at_succ
attribute [local go_sem] i64_and31 i64_and65535 i64_and4095

theorem own_keep {w w' : World} {B e size n : Nat} {v : Value} {xs : List Value} (h : w.ownsRow B e size v n xs) (hk : ∀ j, j < w.heap.size → B ≤ j → w'.heap[j]? = w.heap[j]?) : w'.ownsRow B e size v n xs := by
  refine ⟨h.1, ?_⟩
  rcases h.2 with hn | ⟨g, cap, cur, rfl, hb, hgg, rest⟩
  · exact .inl hn
  · exact .inr ⟨g, cap, cur, rfl, hb, (hk g (Array.getElem?_eq_some_iff.1 hgg).1 hb).trans hgg, rest⟩
theorem own_below {w w' : World} {B e size n : Nat} {v : Value} {xs : List Value} (h : w.ownsRow B e size v n xs) (hb : Below w.heap.size w w') : w'.ownsRow B e size v n xs := own_keep h fun j hj _ => hb.block j hj
theorem own_not {w : World} {g e size n : Nat} {v : Value} {xs : List Value} (h : w.ownsRow (g + 1) e size v n xs) : some g ≠ v.ownBlock := fun he => by have := (h.lt g he.symm).1; omega
/-- Two rows that have no block in common. -/
def Apart (v u : Value) : Prop := ∀ j, v.ownBlock = some j → u.ownBlock ≠ some j
theorem Apart.kept {v u : Value} (h : Apart v u) : u.ownBlock = none ∨ u.ownBlock ≠ v.ownBlock := by
  cases hu : u.ownBlock with
  | none => exact .inl rfl
  | some j => exact .inr fun he => h j he.symm hu
theorem row_apart1 {w : World} {B e size n n1 g1 c1 : Nat} {v u : Value} {xs : List Value} {o : Obj} (hu : w.ownsRow B e size u n xs) (h : Apart v u) (hat : v.ownBlock = some g1 ∨ g1 = (w.alloc o).heap.size) : (Value.slice (some ⟨g1, 0, none⟩) n1 c1).ownBlock = none ∨ (Value.slice (some ⟨g1, 0, none⟩) n1 c1).ownBlock ≠ u.ownBlock := by
  right
  intro he
  have he' : some g1 = u.ownBlock := he
  rcases hat with ha | ha
  · exact h g1 ha he'.symm
  · have := (hu.lt g1 he'.symm).2
    rw [ha] at this
    simp at this
    omega
theorem row_apart2 {w w1 : World} {B e size n g1 g2 n1 c1 n2 c2 : Nat} {v u : Value} {xs : List Value} {o o' : Obj} (hu : w.ownsRow B e size u n xs) (h : Apart v u) (h1 : v.ownBlock = some g1 ∨ g1 = (w.alloc o).heap.size) (hl : g1 < w1.heap.size) (h2 : u.ownBlock = some g2 ∨ g2 = (w1.alloc o').heap.size) :
    Apart (.slice (some ⟨g1, 0, none⟩) n1 c1) (.slice (some ⟨g2, 0, none⟩) n2 c2) := by
  intro j hj he
  have hj' : some g1 = some j := hj
  have he' : some g2 = some j := he
  injection hj' with hj1
  injection he' with hj2
  have hgg : g1 = g2 := hj1.trans hj2.symm
  subst hgg
  rcases h2 with h2 | h2
  · rcases h1 with h1 | h1
    · exact h g1 h1 h2
    · have := (hu.lt g1 h2).2
      rw [h1] at this
      simp at this
      omega
  · rw [h2] at hl
    simp at hl
    omega

def rowI (f : Nat → Int) (n : Nat) : List Value := (List.range n).map fun i => .int .i64 (f i)
theorem rowI_succ (f : Nat → Int) (n : Nat) : rowI f (n + 1) = rowI f n ++ [.int .i64 (f n)] := by
  unfold rowI; rw [List.range_succ, List.map_append]; rfl
theorem rowI_get (f : Nat → Int) (n i : Nat) (hi : i < n) : (rowI f n)[i]? = some (.int .i64 (f i)) := by
  unfold rowI; rw [List.getElem?_map, List.getElem?_range hi]; rfl

set_option maxRecDepth 8000 in
set_option maxHeartbeats 8000000 in
theorem PaceBound_walk (a0 : Int) (a1 : Int) (a2a : Option Addr) (a2l a2c : Nat) (a2e0 : Nat → Int) (a2e1 : Nat → Int) (a2e2 : Nat → Int) (w : World) (a0w : (Lit.int .i64 a0).wf = true) (a1w : (Lit.int .i64 a1).wf = true) (a2S : SliceOf w a2a a2l a2c 3 (fun i => [.int .i64 (a2e0 i), .int .i64 (a2e1 i), .int .i64 (a2e2 i)])) (a2F0 : ∀ i, i < a2l → (Lit.int .i64 (a2e0 i)).wf = true) (a2F1 : ∀ i, i < a2l → (Lit.int .i64 (a2e1 i)).wf = true) (a2F2 : ∀ i, i < a2l → (Lit.int .i64 (a2e2 i)).wf = true) :
    Calls Try.prog 3 #[.int .i64 a0, .int .i64 a1, .slice a2a a2l a2c] w fun e w' => e = .returned (.bool true) ∧ Below w.heap.size w w' := by
  obtain ⟨i0, hi0, hz0, hz1, hz2⟩ := info_parts (show (Try.prog.info? 3).map (fun i => (i.zero, i.size, i.bytes)) = some (some (.int .i64 0), 1, 8) by kernel_rfl)
  have hl := a2S.size_le
  have HS := Lib.hid a2S
  clear a2S a2F0 a2F1 a2F2 a0w a1w
  obtain ⟨R, hR⟩ : ∃ R, 1 + a0 % 4096 = R := ⟨_, rfl⟩
  obtain ⟨B, hB⟩ : ∃ B, 1 + a1 % 65536 = B := ⟨_, rfl⟩
  have R0 : 1 ≤ R := by omega
  have R1 : R ≤ 4096 := by omega
  have B0 : 1 ≤ B := by omega
  have B1 : B ≤ 65536 := by omega
  have hwR : IntKind.i64.wrap (1 + a0 % 4096) = R := by rw [IntWalk.i64_in _ (by omega)]; exact hR
  have hwB : IntKind.i64.wrap (1 + a1 % 65536) = B := by rw [IntWalk.i64_in _ (by omega)]; exact hB
  clear hR hB
  obtain ⟨p0, hp0⟩ : ∃ p0, stF R B a2e2 a2e1 0 = p0 := ⟨_, rfl⟩
  have HN := Lib.hid (fun W => pace_New R B 0 p0 (by rw [← hp0]; unfold stF fitP clipI; simp only [P4.mk.injEq]; omega) W)
  have HP0 := Lib.hid hp0
  clear hp0
  go_enter Try.func3, Try.ntmps3
  go_wp2_with fail
  refine (law19_awake _).mono ?_
  rintro e w1 ⟨rfl, hb1⟩
  go_wp2_with fail
  refine (HN.out _).mono ?_
  rintro e w2 ⟨rfl, hb2⟩
  have B2 := below_then hb1 hb2 (Nat.le_refl _)
  have k7 := Blk.new w2 25 #[.int .i64 p0.r, .int .i64 p0.b, .int .i64 p0.t, .int .i64 p0.l]
  have hg := B2.size
  have B3 := B2.alloc B2.size (.cells #[.int .i64 p0.r, .int .i64 p0.b, .int .i64 p0.t, .int .i64 p0.l] 25)
  clear hb1 hb2 B2
  go_upto_region 5 with fail
  generalize w2.alloc (.cells #[.int .i64 p0.r, .int .i64 p0.b, .int .i64 p0.t, .int .i64 p0.l] 25) = w3 at *
  generalize w2.heap.size = g at *
  go_wp2_with fail
  go_loopw [8, 9, 10, 11] (fun xn x9 x10 i wr => ∃ (k : Nat) (p : P4) (nw : Int), k ≤ a2l ∧ k ≤ 60 ∧ xn = .int .i64 nw ∧ i = .int .i64 k ∧ Hid (nw = nowF a2e2 k) ∧ Hid (p = stF R B a2e2 a2e1 k) ∧ Blk wr g 25 #[.int .i64 p.r, .int .i64 p.b, .int .i64 p.t, .int .i64 p.l] ∧ wr.ownsRow (g + 1) 3 1 x9 k (rowI (fun i => nowF a2e2 (i + 1)) k) ∧ wr.ownsRow (g + 1) 3 1 x10 k (rowI (tookF R B a2e2 a2e1) k) ∧ Apart x9 x10 ∧ Below w.heap.size w wr) (fun _ _ _ i _ => a2l - (intOf i).toNat)
  case atStart => exact ⟨0, p0, 0, by omega, by omega, rfl, rfl, Lib.hid rfl, Lib.hid HP0.out.symm, k7, ⟨rfl, .inl ⟨rfl, rfl⟩⟩, ⟨rfl, .inl ⟨rfl, rfl⟩⟩, (fun j hj => by cases hj), B3⟩
  case round =>
    clear k7 B3
    obtain ⟨k, p, nw, hk, hk6, rfl, rfl, HNW, HP, k7, o1, o2, hdis, B3⟩ := hrel
    by_cases hgo : k < a2l ∧ k < 60
    · obtain ⟨hlt, h60⟩ := hgo
      obtain ⟨b, off, rfl, hbb, hcell⟩ := HS.out.at3 (by omega)
      obtain ⟨hc0, hc1, hc2⟩ := hcell k hlt
      have d0 := (B3.cell (p := ⟨b, off + k * 3, none⟩) hbb).trans hc0
      have d1 := (B3.cell (p := ⟨b, off + k * 3 + 1, none⟩) hbb).trans hc1
      have d2 := (B3.cell (p := ⟨b, off + k * 3 + 2, none⟩) hbb).trans hc2
      clear hcell hc0 hc1 hc2
      have i0' : (0 : Int) ≤ (k : Int) := by omega
      have i1 : (k : Int) < (a2l : Int) := by omega
      have i2 : (k : Int) < 60 := by omega
      obtain ⟨n0, n1⟩ := now_bd a2e2 k
      rw [← HNW.out] at n0 n1
      obtain ⟨nx, hnx⟩ : ∃ nx, nw + a2e2 k % 32 = nx := ⟨_, rfl⟩
      have hwx : IntKind.i64.wrap (nw + a2e2 k % 32) = nx := by rw [IntWalk.i64_in _ (by omega)]; exact hnx
      have x0 : 0 ≤ nx := by omega
      have x1 : nx ≤ 2000 := by omega
      have HNX := Lib.hid (show nx = nowF a2e2 (k + 1) by rw [nowF, ← HNW.out]; exact hnx.symm)
      obtain ⟨y, hy⟩ : ∃ y, stF R B a2e2 a2e1 (k + 1) = y := ⟨_, rfl⟩
      obtain ⟨ok, hok⟩ : ∃ ok, okF R B a2e2 a2e1 k = ok := ⟨_, rfl⟩
      have hT : takeP p nx (a2e1 k % 65536) = (y, ok) := by rw [← hy, ← hok, HP.out, HNX.out]; rfl
      have HT := Lib.hid (fun W => pace_Take p y ok nx (a2e1 k % 65536) hT W)
      have HY := Lib.hid hy.symm
      have hal : ∀ d, d ≤ k → sumD (tookF R B a2e2 a2e1) (k + 1) (d + 1) ≤ B + R * (nx - nowF a2e2 (k - d + 1)) ∧ 0 ≤ nx - nowF a2e2 (k - d + 1) := fun d hd => by
        have h := bound_inv R B a2e2 a2e1 R0 R1 B0 B1 (k + 1) (by omega)
        have h6 := h.2.2.2.2.2 d (by omega)
        have h4 := h.2.2.2.1
        have hm := now_mono a2e2 (k - d + 1) d
        rw [show k - d + 1 + d = k + 1 by omega] at hm
        rw [show k + 1 - d = k - d + 1 by omega] at h6
        rw [HNX.out]
        constructor <;> omega
      have HAL := Lib.hid hal
      have htk : tookF R B a2e2 a2e1 k = if ok then a2e1 k % 65536 else 0 := by rw [← hok]; rfl
      have HTK := Lib.hid htk
      clear hnx hy hok hT hal htk
      obtain ⟨z0, hz0'⟩ : ∃ z0, a2e0 k = z0 := ⟨_, rfl⟩
      rw [hz0'] at d0
      clear hz0'
      obtain ⟨z, hz'⟩ : ∃ z, a2e1 k = z := ⟨_, rfl⟩
      rw [hz'] at d1 HT HTK
      clear hz'
      obtain ⟨zl, hzl⟩ : ∃ zl, a2e2 k = zl := ⟨_, rfl⟩
      rw [hzl] at d2 hwx
      clear hzl
      go_upto_region 11 with fail
      have k12 := Blk.new wr 29 #[.int .i64 z0, .int .i64 z, .int .i64 zl]
      have k7 := k7.alloc (.cells #[.int .i64 z0, .int .i64 z, .int .i64 zl] 29)
      have o1 := o1.alloc (.cells #[.int .i64 z0, .int .i64 z, .int .i64 zl] 29)
      have o2 := o2.alloc (.cells #[.int .i64 z0, .int .i64 z, .int .i64 zl] 29)
      have B4 := B3.alloc B3.size (.cells #[.int .i64 z0, .int .i64 z, .int .i64 zl] 29)
      generalize wr.alloc (.cells #[.int .i64 z0, .int .i64 z, .int .i64 zl] 29) = w4 at *
      clear d0 d1 d2 B3
      have c12 := k12.cell
      have c7 := k7.cell
      simp at c12 c7
      go_wp2_with fail
      refine (HT.out _).mono ?_
      rintro e w5 ⟨rfl, hb5⟩
      have k7 := (k7.below hb5 k7.lt).alloc (.cells #[.int .i64 y.r, .int .i64 y.b, .int .i64 y.t, .int .i64 y.l] 25)
      have o1 := (own_below o1 hb5).alloc (.cells #[.int .i64 y.r, .int .i64 y.b, .int .i64 y.t, .int .i64 y.l] 25)
      have o2 := (own_below o2 hb5).alloc (.cells #[.int .i64 y.r, .int .i64 y.b, .int .i64 y.t, .int .i64 y.l] 25)
      have B5 := below_then B4 hb5 (Nat.le_refl _)
      have B6 := B5.alloc B5.size (.cells #[.int .i64 y.r, .int .i64 y.b, .int .i64 y.t, .int .i64 y.l] 25)
      have k14 := Blk.new w5 25 #[.int .i64 y.r, .int .i64 y.b, .int .i64 y.t, .int .i64 y.l]
      clear hb5 c7 c12 k12 B4 B5
      go_upto_region 14 with fail
      generalize w5.alloc (.cells #[.int .i64 y.r, .int .i64 y.b, .int .i64 y.t, .int .i64 y.l] 25) = w6 at *
      obtain ⟨w7, e7, k7', B7, hk7⟩ := four_set k7 rfl (.int .i64 y.r) (.int .i64 y.b) (.int .i64 y.t) (.int .i64 y.l) w.heap.size hg
      have B8 := B6.trans B7
      have o1 := own_keep o1 (fun j _ hj => hk7 j (by omega))
      have o2 := own_keep o2 (fun j _ hj => hk7 j (by omega))
      have c7 := k7.cell
      have f7 := k7.frozen
      have c14 := k14.cell
      simp at c7 c14
      go_upto_region 15 with fail
      try rw [e7]
      clear e7 c7 f7 c14 k14 hk7 B6 B7 k7
      cases ok
      · go_upto_region 17 with fail
        go_upto_region 18 with (first | ((at_builtin; refine wpList_append_lies _ rfl _ _ 27 rfl (g + 1) 3 i0 (.int .i64 0) 1 8 Try.underlying27 hi0 hz0 hz1 hz2 rfl (by decide) _ _ _ rfl (o1.alloc _) ⟨w7.heap.size, 0, none⟩ 1 1 [.int .i64 nx] rfl rfl (cell_one_new _ _ _) (by simp [Value.oneCell']) (by omega) (by rw [maxLen_eq]; omega) (by omega) (Nat.le_trans k7'.lt (by simp)) _ rfl ?_; intro g1 cap1 wx1 own1 hgrow1 hat1 hlt1); have hr2 := (o2.alloc _).kept hgrow1 hdis.kept; have hsz1 : g + 1 ≤ wx1.heap.size := Nat.le_trans (Nat.le_trans k7'.lt (by simp)) hgrow1.size) | (at_builtin; refine wpList_append_lies _ rfl _ _ 27 rfl (g + 1) 3 i0 (.int .i64 0) 1 8 Try.underlying27 hi0 hz0 hz1 hz2 rfl (by decide) _ _ _ rfl (hr2.alloc _) ⟨wx1.heap.size, 0, none⟩ 1 1 [.int .i64 0] rfl rfl (cell_one_new _ _ _) (by simp [Value.oneCell']) (by omega) (by rw [maxLen_eq]; omega) (by omega) (Nat.le_trans hsz1 (by simp)) _ rfl ?_; intro g2 cap2 wx2 own2 hgrow2 hat2 hlt2))
        have k7 : Blk wx1 g 25 #[.int .i64 y.r, .int .i64 y.b, .int .i64 y.t, .int .i64 y.l] := (hgrow1.block g (by have := k7'.lt; simp; omega) (own_not o1)).trans (k7'.alloc _)
        have k7 : Blk wx2 g 25 #[.int .i64 y.r, .int .i64 y.b, .int .i64 y.t, .int .i64 y.l] := (hgrow2.block g (by have := k7.lt; simp; omega) (own_not hr2)).trans (k7.alloc _)
        have hr1 := (own1.alloc _).kept hgrow2 (row_apart1 o2 hdis hat1)
        have hap := row_apart2 o2 hdis hat1 hlt1 hat2 (n1 := k + 1) (c1 := cap1) (n2 := k + 1) (c2 := cap2)
        have Ba := (B8.alloc B8.size _).grown hgrow1 (by have := B8.size; simp; omega) (fun j hj => by have := (o1.lt j hj).1; omega)
        have Bb := (Ba.alloc Ba.size _).grown hgrow2 (by have := Ba.size; simp; omega) (fun j hj => by have := (hr2.lt j hj).1; omega)
        have hq1 : rowI (fun i => nowF a2e2 (i + 1)) k ++ [.int .i64 nx] = rowI (fun i => nowF a2e2 (i + 1)) (k + 1) := by rw [rowI_succ, HNX.out]
        have hq2 : rowI (tookF R B a2e2 a2e1) k ++ [.int .i64 0] = rowI (tookF R B a2e2 a2e1) (k + 1) := by rw [rowI_succ, HTK.out]; rfl
        rw [hq1] at hr1
        rw [hq2] at own2
        have c9 := fun j (hj : j < k + 1) => (World.ownsRow.cellAt hr1 j (by omega)).trans (rowI_get _ _ j hj)
        have c10 := fun j (hj : j < k + 1) => (World.ownsRow.cellAt own2 j (by omega)).trans (rowI_get _ _ j hj)
        have HC9 := Lib.hid c9
        have HC10 := Lib.hid c10
        clear c9 c10 hq1 hq2 own1 hgrow1 hgrow2 hat1 hat2 hlt1 o1 o2 hr2 hsz1 Ba B8 k7' hdis
        go_wp2_with fail
        go_loopw [16, 17] (fun xa xk wy => ∃ d : Nat, d ≤ k + 1 ∧ xa = .int .i64 (sumD (tookF R B a2e2 a2e1) (k + 1) d) ∧ xk = .int .i64 ((k : Int) - (d : Int)) ∧ wy = wx2) (fun _ i _ => (intOf i + 1).toNat)
        case atStart => exact ⟨0, by omega, rfl, by go_num, rfl⟩
        case round =>
          obtain ⟨d, hd, rfl, rfl, rfl⟩ := hrel
          obtain ⟨s, hs⟩ : ∃ s, sumD (tookF R B a2e2 a2e1) (k + 1) d = s := ⟨_, rfl⟩
          obtain ⟨s0, s1⟩ := sumD_bd (tookF R B a2e2 a2e1) (took_bd R B a2e2 a2e1) (k + 1) d
          rw [hs] at s0 s1 ⊢
          by_cases hdk : d ≤ k
          · obtain ⟨j, hj⟩ : ∃ j : Nat, k = d + j := ⟨k - d, by omega⟩
            have hjj : (k : Int) - (d : Int) = (j : Int) := by omega
            rw [hjj]
            have e9 := HC9.out j (by omega)
            have e10 := HC10.out j (by omega)
            obtain ⟨h1, h2⟩ := HAL.out d hdk
            rw [show k - d + 1 = j + 1 by omega] at h1 h2
            have hs2 : sumD (tookF R B a2e2 a2e1) (k + 1) (d + 1) = s + tookF R B a2e2 a2e1 j := by rw [sumD, hs, show k + 1 - 1 - d = j by omega]
            rw [hs2] at h1
            obtain ⟨t0, t1⟩ := took_bd R B a2e2 a2e1 j
            have aj0 := (now_bd a2e2 (j + 1)).1
            obtain ⟨tj, htj⟩ : ∃ tj, tookF R B a2e2 a2e1 j = tj := ⟨_, rfl⟩
            rw [htj] at e10 h1 t0 t1 hs2
            obtain ⟨aj, haj⟩ : ∃ aj, nowF a2e2 (j + 1) = aj := ⟨_, rfl⟩
            simp only [haj] at e9 h1 h2 aj0
            obtain ⟨dl, hdl⟩ : ∃ dl, nx - aj = dl := ⟨_, rfl⟩
            rw [hdl] at h1 h2
            obtain ⟨x, hx⟩ : ∃ x, R * dl = x := ⟨_, rfl⟩
            have hx0 : 0 ≤ x := by rw [← hx]; exact Int.mul_nonneg (by omega) h2
            have hx1 : x ≤ 4096 * 2000 := by rw [← hx]; exact Int.le_trans (Int.mul_le_mul_of_nonneg_right R1 h2) (Int.mul_le_mul_of_nonneg_left (by omega) (by omega))
            rw [hx] at h1
            obtain ⟨s', hs'⟩ : ∃ s', s + tj = s' := ⟨_, rfl⟩
            obtain ⟨u, hu⟩ : ∃ u, B + x = u := ⟨_, rfl⟩
            rw [hs', hu] at h1
            have v1 : IntKind.i64.wrap (s + tj) = s' := by rw [IntWalk.i64_in _ (by omega)]; exact hs'
            have v2 : IntKind.i64.wrap (nx - aj) = dl := by rw [IntWalk.i64_in _ (by omega)]; exact hdl
            have v3 : IntKind.i64.wrap (R * dl) = x := by rw [hx, IntWalk.i64_in _ (by omega)]
            have v4 : IntKind.i64.wrap (B + x) = u := by rw [IntWalk.i64_in _ (by omega)]; exact hu
            have v5 : ¬ (u < s') := by omega
            have v6 : IntKind.i64.wrap ((j : Int) - 1) = (j : Int) - 1 := by rw [IntWalk.i64_in _ (by omega)]
            have j0 : (0 : Int) ≤ (j : Int) := by omega
            have j1 : (j : Int) < ((k + 1 : Nat) : Int) := by omega
            have j2 : (j : Int) < (k : Int) + 1 := by omega
            have HS2 := Lib.hid (hs2.trans hs')
            clear hs hdl hx hs' hu hs2 htj haj hjj
            have HJ := Lib.hid hj
            clear hj
            go_wp2_with fail
            go_roundw
            case rel => exact ⟨d + 1, by omega, by rw [HS2.out], (by have := HJ.out; congr 1; omega), by trivial⟩
            case measure => simp only [intOf]; omega
          · have hdd : (k : Int) - (d : Int) = -1 := by omega
            rw [hdd]
            clear hs
            go_wp2_with fail
            go_roundw
            case rel => exact ⟨k + 1, y, nx, by omega, by omega, rfl, by go_num, HNX, HY, k7, hr1, own2, hap, Bb⟩
            case measure => simp only [intOf]; omega
      · go_upto_region 17 with fail
        go_upto_region 18 with (first | ((at_builtin; refine wpList_append_lies _ rfl _ _ 27 rfl (g + 1) 3 i0 (.int .i64 0) 1 8 Try.underlying27 hi0 hz0 hz1 hz2 rfl (by decide) _ _ _ rfl (o1.alloc _) ⟨w7.heap.size, 0, none⟩ 1 1 [.int .i64 nx] rfl rfl (cell_one_new _ _ _) (by simp [Value.oneCell']) (by omega) (by rw [maxLen_eq]; omega) (by omega) (Nat.le_trans k7'.lt (by simp)) _ rfl ?_; intro g1 cap1 wx1 own1 hgrow1 hat1 hlt1); have hr2 := (o2.alloc _).kept hgrow1 hdis.kept; have hsz1 : g + 1 ≤ wx1.heap.size := Nat.le_trans (Nat.le_trans k7'.lt (by simp)) hgrow1.size) | (at_builtin; refine wpList_append_lies _ rfl _ _ 27 rfl (g + 1) 3 i0 (.int .i64 0) 1 8 Try.underlying27 hi0 hz0 hz1 hz2 rfl (by decide) _ _ _ rfl (hr2.alloc _) ⟨wx1.heap.size, 0, none⟩ 1 1 [.int .i64 (z % 65536)] rfl rfl (cell_one_new _ _ _) (by simp [Value.oneCell']) (by omega) (by rw [maxLen_eq]; omega) (by omega) (Nat.le_trans hsz1 (by simp)) _ rfl ?_; intro g2 cap2 wx2 own2 hgrow2 hat2 hlt2))
        have k7 : Blk wx1 g 25 #[.int .i64 y.r, .int .i64 y.b, .int .i64 y.t, .int .i64 y.l] := (hgrow1.block g (by have := k7'.lt; simp; omega) (own_not o1)).trans (k7'.alloc _)
        have k7 : Blk wx2 g 25 #[.int .i64 y.r, .int .i64 y.b, .int .i64 y.t, .int .i64 y.l] := (hgrow2.block g (by have := k7.lt; simp; omega) (own_not hr2)).trans (k7.alloc _)
        have hr1 := (own1.alloc _).kept hgrow2 (row_apart1 o2 hdis hat1)
        have hap := row_apart2 o2 hdis hat1 hlt1 hat2 (n1 := k + 1) (c1 := cap1) (n2 := k + 1) (c2 := cap2)
        have Ba := (B8.alloc B8.size _).grown hgrow1 (by have := B8.size; simp; omega) (fun j hj => by have := (o1.lt j hj).1; omega)
        have Bb := (Ba.alloc Ba.size _).grown hgrow2 (by have := Ba.size; simp; omega) (fun j hj => by have := (hr2.lt j hj).1; omega)
        have hq1 : rowI (fun i => nowF a2e2 (i + 1)) k ++ [.int .i64 nx] = rowI (fun i => nowF a2e2 (i + 1)) (k + 1) := by rw [rowI_succ, HNX.out]
        have hq2 : rowI (tookF R B a2e2 a2e1) k ++ [.int .i64 (z % 65536)] = rowI (tookF R B a2e2 a2e1) (k + 1) := by rw [rowI_succ, HTK.out]; rfl
        rw [hq1] at hr1
        rw [hq2] at own2
        have c9 := fun j (hj : j < k + 1) => (World.ownsRow.cellAt hr1 j (by omega)).trans (rowI_get _ _ j hj)
        have c10 := fun j (hj : j < k + 1) => (World.ownsRow.cellAt own2 j (by omega)).trans (rowI_get _ _ j hj)
        have HC9 := Lib.hid c9
        have HC10 := Lib.hid c10
        clear c9 c10 hq1 hq2 own1 hgrow1 hgrow2 hat1 hat2 hlt1 o1 o2 hr2 hsz1 Ba B8 k7' hdis
        go_wp2_with fail
        go_loopw [16, 17] (fun xa xk wy => ∃ d : Nat, d ≤ k + 1 ∧ xa = .int .i64 (sumD (tookF R B a2e2 a2e1) (k + 1) d) ∧ xk = .int .i64 ((k : Int) - (d : Int)) ∧ wy = wx2) (fun _ i _ => (intOf i + 1).toNat)
        case atStart => exact ⟨0, by omega, rfl, by go_num, rfl⟩
        case round =>
          obtain ⟨d, hd, rfl, rfl, rfl⟩ := hrel
          obtain ⟨s, hs⟩ : ∃ s, sumD (tookF R B a2e2 a2e1) (k + 1) d = s := ⟨_, rfl⟩
          obtain ⟨s0, s1⟩ := sumD_bd (tookF R B a2e2 a2e1) (took_bd R B a2e2 a2e1) (k + 1) d
          rw [hs] at s0 s1 ⊢
          by_cases hdk : d ≤ k
          · obtain ⟨j, hj⟩ : ∃ j : Nat, k = d + j := ⟨k - d, by omega⟩
            have hjj : (k : Int) - (d : Int) = (j : Int) := by omega
            rw [hjj]
            have e9 := HC9.out j (by omega)
            have e10 := HC10.out j (by omega)
            obtain ⟨h1, h2⟩ := HAL.out d hdk
            rw [show k - d + 1 = j + 1 by omega] at h1 h2
            have hs2 : sumD (tookF R B a2e2 a2e1) (k + 1) (d + 1) = s + tookF R B a2e2 a2e1 j := by rw [sumD, hs, show k + 1 - 1 - d = j by omega]
            rw [hs2] at h1
            obtain ⟨t0, t1⟩ := took_bd R B a2e2 a2e1 j
            have aj0 := (now_bd a2e2 (j + 1)).1
            obtain ⟨tj, htj⟩ : ∃ tj, tookF R B a2e2 a2e1 j = tj := ⟨_, rfl⟩
            rw [htj] at e10 h1 t0 t1 hs2
            obtain ⟨aj, haj⟩ : ∃ aj, nowF a2e2 (j + 1) = aj := ⟨_, rfl⟩
            simp only [haj] at e9 h1 h2 aj0
            obtain ⟨dl, hdl⟩ : ∃ dl, nx - aj = dl := ⟨_, rfl⟩
            rw [hdl] at h1 h2
            obtain ⟨x, hx⟩ : ∃ x, R * dl = x := ⟨_, rfl⟩
            have hx0 : 0 ≤ x := by rw [← hx]; exact Int.mul_nonneg (by omega) h2
            have hx1 : x ≤ 4096 * 2000 := by rw [← hx]; exact Int.le_trans (Int.mul_le_mul_of_nonneg_right R1 h2) (Int.mul_le_mul_of_nonneg_left (by omega) (by omega))
            rw [hx] at h1
            obtain ⟨s', hs'⟩ : ∃ s', s + tj = s' := ⟨_, rfl⟩
            obtain ⟨u, hu⟩ : ∃ u, B + x = u := ⟨_, rfl⟩
            rw [hs', hu] at h1
            have v1 : IntKind.i64.wrap (s + tj) = s' := by rw [IntWalk.i64_in _ (by omega)]; exact hs'
            have v2 : IntKind.i64.wrap (nx - aj) = dl := by rw [IntWalk.i64_in _ (by omega)]; exact hdl
            have v3 : IntKind.i64.wrap (R * dl) = x := by rw [hx, IntWalk.i64_in _ (by omega)]
            have v4 : IntKind.i64.wrap (B + x) = u := by rw [IntWalk.i64_in _ (by omega)]; exact hu
            have v5 : ¬ (u < s') := by omega
            have v6 : IntKind.i64.wrap ((j : Int) - 1) = (j : Int) - 1 := by rw [IntWalk.i64_in _ (by omega)]
            have j0 : (0 : Int) ≤ (j : Int) := by omega
            have j1 : (j : Int) < ((k + 1 : Nat) : Int) := by omega
            have j2 : (j : Int) < (k : Int) + 1 := by omega
            have HS2 := Lib.hid (hs2.trans hs')
            clear hs hdl hx hs' hu hs2 htj haj hjj
            have HJ := Lib.hid hj
            clear hj
            go_wp2_with fail
            go_roundw
            case rel => exact ⟨d + 1, by omega, by rw [HS2.out], (by have := HJ.out; congr 1; omega), by trivial⟩
            case measure => simp only [intOf]; omega
          · have hdd : (k : Int) - (d : Int) = -1 := by omega
            rw [hdd]
            clear hs
            go_wp2_with fail
            go_roundw
            case rel => exact ⟨k + 1, y, nx, by omega, by omega, rfl, by go_num, HNX, HY, k7, hr1, own2, hap, Bb⟩
            case measure => simp only [intOf]; omega
    · have hge : k < a2l → 60 ≤ k := fun h => by omega
      clear hgo
      have hx : (k < a2l ∧ 60 ≤ k) ∨ k = a2l := by
        rcases Nat.lt_or_ge k a2l with h | h
        · exact .inl ⟨h, hge h⟩
        · exact .inr (by omega)
      clear hge
      rcases hx with ⟨h1, h2⟩ | h1
      · go_wp2_with fail
        go_ret
        exact ⟨rfl, B3⟩
      · subst h1
        go_wp2_with fail
        go_ret
        exact ⟨rfl, B3⟩
end Go.Proofs.Ytomhnegfemdcdaa
