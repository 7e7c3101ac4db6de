/- GapsClose, walked. No condition. -/
import Derived.Test.YtonamlgipoannaaGaps11
namespace Go.Proofs.Ytonamlgipoannaa
open Go.RowKit BigFrame
attribute [local go_sem ↓] Go.wp_at_zero Go.wp_at_succ
attribute [local go_sem] i64_and15

theorem rmW_head {l : List WR} {i : Nat} {r : WR} (hr : RisingW l) (h : l[i]? = some r) : rmW (l.drop i) r.n = l.drop (i + 1) := by
  have h1 : RisingW (l.drop i) := (rising_iff _).2 ((rising_iff _).1 hr).drop
  have h2 : (l.drop i)[0]? = some r := by rw [List.getElem?_drop]; simpa using h
  have h3 := rmW_at h1 h2 rfl
  rw [List.take_zero, List.nil_append, List.drop_drop] at h3
  exact h3.symm
theorem uptoW_nil {q : Int} {k : Nat} (h : UptoW [] q k) : k = 0 := by
  have := h.le
  simpa using this
theorem clip_in {n a b : Int} (h1 : a ≤ n) (h2 : n ≤ b) : clipI n a b = n := by unfold clipI; omega
set_option maxRecDepth 20000 in
set_option maxHeartbeats 16000000 in
theorem GapsClose_walk (a0x0 : Int) (a0x1 : Int) (a0x2 : Int) (a0x3 : Int) (a1a : Option Addr) (a1l a1c : Nat) (a1e0 : Nat → Int) (w : World) (a0x0w0 : (Lit.int .i64 a0x0).wf = true) (a0x1w0 : (Lit.int .i64 a0x1).wf = true) (a0x2w0 : (Lit.int .i64 a0x2).wf = true) (a0x3w0 : (Lit.int .i64 a0x3).wf = true) (a1S : SliceOf w a1a a1l a1c 1 (fun i => [.int .i64 (a1e0 i)])) (a1F0 : ∀ i, i < a1l → (Lit.int .i64 (a1e0 i)).wf = true) :
    Calls Try.prog 8 #[.agg #[.int .i64 a0x0, .int .i64 a0x1, .int .i64 a0x2, .int .i64 a0x3], .slice a1a a1l a1c] w fun e w' => e = .returned (.bool true) ∧ Below w.heap.size w w' := by
  clear a0x0w0 a0x1w0 a0x2w0 a0x3w0 a1F0
  obtain ⟨A, hA⟩ : ∃ x, clipI a0x0 1 1024 = x := ⟨_, rfl⟩
  obtain ⟨B, hB⟩ : ∃ x, clipI a0x1 1 100 = x := ⟨_, rfl⟩
  obtain ⟨C, hC⟩ : ∃ x, clipI a0x2 0 1048576 = x := ⟨_, rfl⟩
  obtain ⟨D, hD⟩ : ∃ x, clipI a0x3 1 1048576 = x := ⟨_, rfl⟩
  have HNW := Lib.hid (fun W => gaps_New a0x0 a0x1 a0x2 a0x3 A B C D hA hB hC hD W)
  have G0 : Good A B C D false 0 [] := Good.start hA hB hC hD
  have SL := a1S.size_le
  clear hA hB hC hD
  have K0 := Blk.new w 53 #[.int .i64 a0x0, .int .i64 a0x1, .int .i64 a0x2, .int .i64 a0x3]
  have B0 : Below w.heap.size w (w.alloc (.cells #[.int .i64 a0x0, .int .i64 a0x1, .int .i64 a0x2, .int .i64 a0x3] 53)) := (Below.refl _ w).alloc (Nat.le_refl _) _
  have S0 := a1S.below B0
  have s0 := B0.size
  go_enter Try.func8, Try.ntmps8
  go_upto_region 1 with fail
  generalize w.alloc (.cells #[.int .i64 a0x0, .int .i64 a0x1, .int .i64 a0x2, .int .i64 a0x3] 53) = w1 at *
  go_wp2_with fail
  refine (law22_awake w1).mono ?_
  rintro e w2 ⟨rfl, B2⟩
  have K2 := K0.below B2 K0.lt
  have S2 := S0.below B2
  have B02 := B0.trans (B2.mono s0)
  have s2 := B02.size
  have c2 := K2.cell
  simp at c2
  clear K0 S0 B0 B2
  go_wp2_with fail
  refine (HNW.out w2).mono ?_
  rintro e w3 ⟨g, rfl, h3, hg, B3⟩
  have S3 := S2.below B3
  have B03 := B02.trans (B3.mono s2)
  have s3 := B03.size
  have gw : w.heap.size ≤ g := by omega
  have gl := h3.blk.lt
  have HCM := Lib.hid (gaps_Came g A B C D false 0 0 [] _ 0 0 0 0 (by decide) (by decide) w3 h3 G0)
  clear c2 K2 S2 HNW
  go_wp2_with fail
  refine HCM.out.mono ?_
  rintro e w4 ⟨rfl, v4, h4, M4⟩
  have G4 : Good A B C D true 0 [] := G0.came (n := 0) (N := 0) (T := 0) (by decide)
  have h4' : GV w4 g A B C D true 0 0 [] v4 := h4
  have B4 : Below w.heap.size w3 w4 := M4.down s3 gw (fun k e => by cases e)
  have hv4 : ∀ k, v4.ownBlock = some k → w.heap.size ≤ k := M4.base s3 (fun k e => by cases e)
  have B04 := B03.trans B4
  have S4 : SliceOf w4 a1a a1l a1c 1 (fun i => [.int .i64 (a1e0 i)]) := a1S.below B04
  clear S3 h3 h4 M4 G0 HCM B02 B03
  go_wp2_with fail
  go_loopw [6, 7] (fun x6 x7 wr => ∃ (k : Nat) (nz u : Int) (l : List WR) (v : Value), k ≤ 20 ∧ k ≤ a1l ∧ x6 = .int .i64 nz ∧ x7 = .int .i64 k ∧ 0 ≤ nz ∧ nz ≤ 16 * (k : Int) ∧ Good A B C D true nz l ∧ (∀ r ∈ l, 0 < r.n) ∧ GV wr g A B C D true nz u l v ∧ (∀ j, v.ownBlock = some j → w.heap.size ≤ j) ∧ Below w.heap.size w wr) (fun _ x7 _ => 20 - (intOf x7).toNat)
  case atStart => exact ⟨0, 0, 0, [], v4, by omega, by omega, rfl, rfl, by omega, by omega, G4, (fun r hr => by cases hr), h4', hv4, B04⟩
  case round =>
    clear h4' G4 hv4 B04 S4 B4
    obtain ⟨k, nz, u, l, v, hk, hk2, rfl, rfl, hn0, hn1, G, hpos, h, hv, Bw⟩ := hrel
    have HPOS := Lib.hid hpos
    have sw := Bw.size
    clear hpos
    by_cases hlt : k < a1l ∧ k < 20
    · obtain ⟨hlt1, hlt2⟩ := hlt
      obtain ⟨bb, off, rfl, hbb, hc⟩ := a1S.at1 (by omega)
      have d0 := (Bw.cell (p := ⟨bb, off + k, none⟩) hbb).trans (hc k hlt1)
      obtain ⟨x, hx⟩ : ∃ x, a1e0 k = x := ⟨_, rfl⟩
      rw [hx] at d0
      obtain ⟨t, ht⟩ : ∃ t, x % 16 = t := ⟨_, rfl⟩
      have hand : bits .and .i64 x 15 = t := by rw [i64_and15, ht]
      obtain ⟨t1, ht1⟩ : ∃ t1, 1 + t = t1 := ⟨_, rfl⟩
      obtain ⟨nn, hnn⟩ : ∃ nn, nz + t1 = nn := ⟨_, rfl⟩
      have htb : 0 ≤ t ∧ t ≤ 15 := by omega
      have wt : IntKind.i64.wrap (1 + t) = t1 := by rw [IntWalk.i64_in _ (by omega), ht1]
      have wn : IntKind.i64.wrap (nz + t1) = nn := by rw [IntWalk.i64_in _ (by omega), hnn]
      have wk : IntKind.i64.wrap ((k : Int) + 1) = ((k + 1 : Nat) : Int) := by rw [IntWalk.i64_in _ (by omega)]; omega
      have hnb : nz < nn ∧ nn ≤ 16 * ((k + 1 : Nat) : Int) := by omega
      have p0 : (0 : Int) ≤ (k : Int) := by omega
      have p1 : (k : Int) < (a1l : Int) := by omega
      have p2 : (k : Int) < 20 := by omega
      have HCM := Lib.hid (gaps_Came g A B C D true nz u l v nn k nn k (clip_in (by omega) (by omega)) (clip_in (by omega) (by omega)) wr h G)
      have G' := G.came (n := nn) (N := nn) (T := (k : Int)) (clip_in (by omega) (by omega))
      have hE : camE true nz nn = nn := by unfold camE; rw [if_pos rfl, if_neg (by omega)]
      obtain ⟨l2, hl2⟩ : ∃ x, camL A C D true nz l nn (k : Int) = x := ⟨_, rfl⟩
      obtain ⟨u2, hu2⟩ : ∃ x, camU A true nz u l.length nn = x := ⟨_, rfl⟩
      have HP2 := Lib.hid (show ∀ r ∈ l2, 0 < r.n from fun r hr => by
        rw [← hl2] at hr
        rcases camL_mem hr with h1 | ⟨_, h1, _⟩
        · exact HPOS.out r h1
        · omega)
      rw [hE, hl2, hu2] at HCM
      rw [hE, hl2] at G'
      have HG' := Lib.hid G'
      clear hE hl2 hu2 hc hx ht ht1 hnn G' G h htb
      go_wp2_with fail
      refine HCM.out.mono ?_
      rintro e w5 ⟨rfl, v5, h5, M5⟩
      have B5 : Below w.heap.size wr w5 := M5.down sw gw hv
      have hv5 := M5.base sw hv
      have BE := Bw.trans B5
      go_wp2_with fail
      go_roundw
      case rel => exact ⟨k + 1, nn, u2, l2, v5, by omega, by omega, rfl, by go_num, by omega, hnb.2, HG'.out, HP2.out, h5, hv5, BE⟩
      case measure => simp only [intOf]; omega
    · obtain ⟨m, hm⟩ : ∃ m, l.length = m := ⟨_, rfl⟩
      have hm1 : m ≤ 1024 := by rw [← hm]; exact G.small
      have HM := Lib.hid hm
      have HW := Lib.hid (gaps_Wanting g A B C D true nz u l v wr h (by omega))
      rw [hm] at HW
      have hn320 : nz ≤ 320 := by omega
      obtain ⟨wl, hwl⟩ : ∃ wl, wl = wr := ⟨_, rfl⟩
      subst hwl
      have hcs : ((k : Int) < (a1l : Int) ∧ ¬ (k : Int) < 20) ∨ ¬ (k : Int) < (a1l : Int) := by omega
      clear hm hlt hk hk2 hn1
      rcases hcs with ⟨i1, i2⟩ | i1
      all_goals
        go_upto_region 14 with fail
        refine HW.out.mono ?_
        rintro e w5 ⟨v8, rfl, own8, B5⟩
        obtain ⟨sa, sc, rfl, -⟩ := own_slice own8
        have h5 := h.below B5
        have B05 := Bw.trans (B5.mono sw)
        have own5 := own_base own8
        clear own8 h
        go_wp2_with fail
        go_loopw [47] (fun x47 wr => ∃ (i : Nat) (u : Int) (v : Value), i ≤ m ∧ x47 = .int .i64 i ∧ GV wr g A B C D true nz u (l.drop i) v ∧ (∀ j, v.ownBlock = some j → w.heap.size ≤ j) ∧ wr.ownsRow 0 3 1 (.slice sa m sc) m (numC l) ∧ Below w.heap.size w wr) (fun x47 _ => m - (intOf x47).toNat)
        case atStart => exact ⟨0, u, v, by omega, rfl, by simpa using h5, hv, own5, B05⟩
        case round =>
          clear h5 hv own5 B05 B5
          obtain ⟨i, u, v, hi, rfl, h, hv, own, Bw⟩ := hrel
          have sw := Bw.size
          by_cases hlt : i < m
          · have hil : i < l.length := by rw [HM.out]; exact hlt
            obtain ⟨r, hr⟩ : ∃ r, l[i]? = some r := ⟨_, List.getElem?_eq_getElem hil⟩
            have hrm := List.mem_of_getElem? hr
            have hr0 := HPOS.out r hrm
            have hr1 := G.hi r hrm
            obtain ⟨a', c', e', hc⟩ := own_open own
            injection e' with e1 e2 e3
            subst e1 e3
            obtain ⟨gq, rfl, -, hgq, hcell⟩ := hc (by omega)
            have d0 := hcell wr rfl i _ (show (numC l)[i]? = some (.int .i64 r.n) by unfold numC; rw [List.getElem?_map, hr]; rfl)
            have HRM := Lib.hid (rmW_head G.rise hr)
            obtain ⟨x, hx⟩ : ∃ x, r.n = x := ⟨_, rfl⟩
            rw [hx] at d0 HRM hr0 hr1
            have p0 : (0 : Int) ≤ (i : Int) := by omega
            have p1 : (i : Int) < (m : Int) := by omega
            have p2 : ¬ x ≤ 0 := by omega
            have p3 : ¬ nz ≤ x := by omega
            obtain ⟨m1, hm1'⟩ : ∃ m1, (m : Int) - 1 = m1 := ⟨_, rfl⟩
            obtain ⟨n2, hn2⟩ : ∃ n2, (l.drop (i + 1)).length = n2 := ⟨_, rfl⟩
            have hn2' : (n2 : Int) = m1 - (i : Int) := by rw [List.length_drop, HM.out] at hn2; omega
            have wm : IntKind.i64.wrap ((m : Int) - 1) = m1 := by rw [IntWalk.i64_in _ (by omega), hm1']
            have wm2 : IntKind.i64.wrap (m1 - (i : Int)) = (n2 : Int) := by rw [IntWalk.i64_in _ (by omega), hn2']
            have wk : IntKind.i64.wrap ((i : Int) + 1) = ((i + 1 : Nat) : Int) := by rw [IntWalk.i64_in _ (by omega)]; omega
            have q1 : ((n2 : Int) != (n2 : Int)) = false := by simp
            have q2 : ((0 : Int) != (0 : Int)) = false := by simp
            have HCM := Lib.hid (gaps_Came g A B C D true nz u (l.drop i) v x 30 x 30 (clip_in (by omega) (by omega)) (by decide) wr h (G.drop i))
            have hE : camE true nz x = nz := by unfold camE; rw [if_pos rfl, if_pos (by omega)]
            have hU : camU A true nz u (l.drop i).length x = u := by unfold camU; rw [if_pos rfl, if_pos (by omega)]
            have hL : camL A C D true nz (l.drop i) x 30 = l.drop (i + 1) := by unfold camL; rw [if_pos rfl, if_pos (by omega)]; exact HRM.out
            have hR : camR A true nz (l.drop i).length x = 0 := by unfold camR; rw [if_pos rfl, if_pos (by omega)]
            rw [hE, hU, hL, hR] at HCM
            have HWW := Lib.hid (fun (W : World) (v' : Value) (hh : GV W g A B C D true nz u (l.drop (i + 1)) v') => gaps_Wanting g A B C D true nz u (l.drop (i + 1)) v' W hh (by have := HM.out; rw [List.length_drop]; omega))
            rw [hn2] at HWW
            have ne1 := own_ne_blk own h.blk (by decide)
            have ne2 := own_ne own h.own (by decide)
            clear hE hU hL hR hx hr hrm hil hc hcell hn2 hn2' hm1' h
            go_wp2_with fail
            refine HCM.out.mono ?_
            rintro e w6 ⟨rfl, v6, h6, M6⟩
            have B6 : Below w.heap.size wr w6 := M6.down sw gw hv
            have hv6 := M6.base sw hv
            have own6 := own_at own (w' := w6) (fun j hj => M6.keep j (own.lt j hj).2 (fun e => ne1 (by rw [hj, e])) (ne2 j hj))
            go_wp2_with fail
            refine (HWW.out w6 v6 h6).mono ?_
            rintro e w7 ⟨v7, rfl, own7, B7⟩
            obtain ⟨sa7, sc7, rfl, -⟩ := own_slice own7
            have h7 := h6.below B7
            have own7' := own_at own6 (w' := w7) (fun j hj => B7.block j (own6.lt j hj).2)
            have BE := (Bw.trans B6).trans (B7.mono (by have := (Bw.trans B6).size; omega))
            clear own7 own6 own h6 d0
            go_wp2_with fail
            go_roundw
            case rel => exact ⟨i + 1, u, v6, by omega, by go_num, h7, hv6, own7', BE⟩
            case measure => simp only [intOf]; omega
          · obtain rfl : i = m := by omega
            have p1 : ¬ (i : Int) < (i : Int) := by omega
            have hd : l.drop i = [] := List.drop_of_length_le (by rw [HM.out]; exact Nat.le_refl _)
            rw [hd] at h
            have HNX := Lib.hid (gaps_NextNo g A B C D true nz u v wr h)
            have HD := Lib.hid (gaps_Due g A B C D true nz u [] v 1073741824 1073741824 (by decide) wr h (by decide) G.b2 (fun r hr => by cases hr))
            clear own hd
            go_wp2_with fail
            refine HNX.out.mono ?_
            rintro e w6 ⟨rfl, rfl⟩
            go_wp2_with fail
            refine HD.out.mono ?_
            rintro e w7 ⟨vo, rfl, ⟨zo, own7⟩, v7, h7, hv7, K7⟩
            obtain ⟨oa, oc, rfl, hz⟩ := own_slice own7
            obtain rfl : zo = 0 := by rw [hz]; rfl
            have B7 : Below w.heap.size wr w7 := K7.down (by omega) gw
            have h7' : GV w7 g A B C D true nz (dueU B 1073741824 u []) [] v7 := h7
            have HFG := Lib.hid (gaps_Forget g A B C D true nz _ [] v7 nz nz (clip_in (by omega) (by omega)) w7 h7' (fun i j a b _ h => by simp at h) (by decide))
            clear own7 hz h7 h7'
            go_wp2_with fail
            refine HFG.out.mono ?_
            rintro e w8 ⟨kk, rfl, hU, v8, h8, M8⟩
            obtain rfl := uptoW_nil hU
            have B8 : Below w.heap.size w7 w8 := M8.down (by have := B7.size; omega) gw (fun j hj => by have := hv7 j hj; omega)
            clear hU h8
            go_wp2_with fail
            go_ret
            exact ⟨rfl, Bw.trans (B7.trans B8)⟩
end Go.Proofs.Ytonamlgipoannaa
