/- CordelleAsked, walked. No condition. -/
import Derived.Test.YtonamlgipoannaaAskW
namespace Go.Proofs.Ytonamlgipoannaa
open Go.RowKit BigFrame
attribute [local go_sem ↓] Go.wp_at_zero Go.wp_at_succ
attribute [local go_sem] i64_and1

theorem clipI_in {n a b : Int} (h1 : a ≤ n) (h2 : n ≤ b) : clipI n a b = n := by unfold clipI; omega
theorem wfI64 {x : Int} (h1 : -9223372036854775808 ≤ x) (h2 : x ≤ 9223372036854775807) : (Lit.int .i64 x).wf = true := by
  simp [Lit.wf, IntKind.min, IntKind.max, IntKind.bits, IntKind.signed]; omega
theorem Moved.rowN {w w' : World} {g t : Nat} {cs : Array Value} {v v' : Value} (M : Moved w w' g v v') (K : Blk w g t cs) {B1 e1 s1 n1 : Nat} {x1 : List Value} (O : w.ownsRow B1 e1 s1 v n1 x1) {B e s n : Nat} {v9 : Value} {xs : List Value} (own : w.ownsRow B e s v9 n xs) (h1 : e ≠ t) (h2 : e ≠ e1) : w'.ownsRow B e s v9 n xs :=
  own_at own (fun j hj => M.keep j (own.lt j hj).2 (fun q => own_ne_blk own K h1 (q ▸ hj)) (fun q => own_ne own O h2 j hj q))
/-- Which of those that came is the first, and which the last. -/
structure FLast (lo : Nat → Bool) (k : Nat) (fi la : Int) : Prop where
  none_ : fi < 0 → fi = -1 ∧ la = -1 ∧ ∀ i, i < k → lo i = true
  some_ : ¬ fi < 0 → ∃ a b : Nat, fi = a ∧ la = b ∧ a ≤ b ∧ b < k ∧ lo a = false ∧ lo b = false ∧ ∀ i, b < i → i < k → lo i = true
theorem FLast.start (lo : Nat → Bool) : FLast lo 0 (-1) (-1) := ⟨fun _ => ⟨rfl, rfl, fun i h => absurd h (by omega)⟩, fun h => absurd h (by decide)⟩
theorem FLast.lost {lo : Nat → Bool} {k : Nat} {fi la : Int} (h : FLast lo k fi la) (hk : lo k = true) : FLast lo (k + 1) fi la := by
  refine ⟨fun h1 => ?_, fun h1 => ?_⟩
  · obtain ⟨h2, h3, h4⟩ := h.none_ h1
    exact ⟨h2, h3, fun i hi => by
      by_cases e : i = k
      · rw [e]; exact hk
      · exact h4 i (by omega)⟩
  · obtain ⟨a, b, e1, e2, e3, e4, e5, e6, e7⟩ := h.some_ h1
    exact ⟨a, b, e1, e2, e3, by omega, e5, e6, fun i h2 h3 => by
      by_cases e : i = k
      · rw [e]; exact hk
      · exact e7 i h2 (by omega)⟩
theorem FLast.came {lo : Nat → Bool} {k : Nat} {fi la : Int} (h : FLast lo k fi la) (hk : lo k = false) : FLast lo (k + 1) (if fi < 0 then (k : Int) else fi) (k : Int) := by
  by_cases h1 : fi < 0
  · rw [if_pos h1]
    exact ⟨fun h2 => by omega, fun _ => ⟨k, k, rfl, rfl, Nat.le_refl _, by omega, hk, hk, fun i h2 h3 => by omega⟩⟩
  · rw [if_neg h1]
    obtain ⟨a, b, e1, e2, e3, e4, e5, e6, e7⟩ := h.some_ h1
    exact ⟨fun h2 => by omega, fun _ => ⟨a, k, e1, rfl, by omega, by omega, e5, hk, fun i h2 h3 => by omega⟩⟩
/-- All between them are there at last. -/
theorem AS2.there {lo : Nat → Bool} {n : Nat} {T : Int} {r : Nat} {y : Bool} {e : Int} {hl : List HR} {hd : Int → Bool} (h : AS2 lo n T r y e [] hl hd) {fi la : Int} (F : FLast lo n fi la) {i : Int} (h1 : max 0 fi ≤ i) (h2 : i ≤ la) : hd i = true := by
  by_cases hf : fi < 0
  · obtain ⟨_, h3, _⟩ := F.none_ hf; omega
  · obtain ⟨a, b, e1, e2, e3, e4, e5, e6, e7⟩ := F.some_ hf
    cases y with
    | false => have := h.none_ rfl b e4; rw [e6] at this; cases this
    | true =>
      obtain ⟨ei, f1, f2, f3, f4⟩ := h.some_ rfl
      have hb : b ≤ ei := by
        rcases Nat.lt_or_ge ei b with h5 | h5
        · have := f4 b h5 e4; rw [e6] at this; cases this
        · exact h5
      obtain ⟨j, rfl⟩ : ∃ j : Nat, i = j := ⟨i.toNat, by omega⟩
      rcases h.cov rfl j (by omega) ⟨a, by omega, e5⟩ with h3 | ⟨q, hq, _⟩
      · exact h3
      · cases hq
set_option maxRecDepth 20000 in
set_option maxHeartbeats 16000000 in
theorem CordelleAsked_walk (a0a : Option Addr) (a0l a0c : Nat) (a0e0 : Nat → Bool) (a1 : Int) (w : World) (a0S : SliceOf w a0a a0l a0c 1 (fun i => [.bool (a0e0 i)])) (a1w : (Lit.int .i64 a1).wf = true) :
    Calls Try.prog 11 #[.slice a0a a0l a0c, .int .i64 a1] w fun e w' => e = .returned (.bool true) ∧ Below w.heap.size w w' := by
  have hmm := @run_makeMap Try.prog
  have HS := Lib.hid a0S
  have hsz := a0S.size_le
  obtain ⟨lo, hlo⟩ : ∃ lo, a0e0 = lo := ⟨_, rfl⟩
  rw [hlo] at HS
  obtain ⟨n, hn⟩ : ∃ n : Nat, min a0l 60 = n := ⟨_, rfl⟩
  have hn1 : n ≤ 60 ∧ n ≤ a0l := by omega
  have hnx : ∀ k : Nat, k ≤ n → ((k < a0l ∧ k < 60) ↔ k < n) := fun k hk => by omega
  obtain ⟨T0, hT0⟩ : ∃ x, a1 % 2 = x := ⟨_, rfl⟩
  obtain ⟨T, hT⟩ : ∃ x, 1 + T0 = x := ⟨_, rfl⟩
  have hTb : 1 ≤ T ∧ T ≤ 2 := by omega
  have wT : IntKind.i64.wrap (1 + T0) = T := by rw [IntWalk.i64_in _ (by omega), hT]
  have HGN := Lib.hid (fun W => gaps_New 200 5 0 2 200 5 0 2 (by decide) (by decide) (by decide) (by decide) W)
  have HHN := Lib.hid (fun W => hist_New 500 T 500 T (by decide) (clipI_in (by omega) (by omega)) W)
  have HNX := Lib.hid hnx
  have HTB := Lib.hid hTb
  clear hT hn a0S hlo hnx hTb a1w
  go_enter Try.func11, Try.ntmps11
  go_wp2_with fail
  refine (HGN.out w).mono ?_
  rintro e w1 ⟨g, rfl, q1, hg1, B1⟩
  go_wp2_with fail
  refine (HHN.out w1).mono ?_
  rintro e w2 ⟨rfl, q2, B2⟩
  obtain ⟨h, hh⟩ : ∃ h, w1.heap.size = h := ⟨_, rfl⟩
  rw [hh] at q2 B2 ⊢
  have sz1 := B1.size
  have hhw : w.heap.size ≤ h := by omega
  have q12 := q1.below (hh ▸ B2)
  have B02 : Below w.heap.size w w2 := B1.trans (B2.mono hhw)
  have M0 := BoolM.made w2
  have Bm : Below w2.heap.size w2 (w2.alloc (.map #[] 0)) := (Below.refl w2.heap.size w2).alloc (Nat.le_refl _) (.map #[] 0)
  obtain ⟨mp, hmp⟩ : ∃ mp, w2.heap.size = mp := ⟨_, rfl⟩
  have hmw : w.heap.size ≤ mp := by have := B02.size; omega
  have A0 : AskW w (w2.alloc (.map #[] 0)) g h mp T false 0 0 [] (.slice none 0 0) 0 [] (.slice none 0 0) 0 (fun _ => false) :=
    ⟨q12.below Bm, q2.below Bm, hmp ▸ M0, hg1, hhw, hmw, (fun k e => by cases e), (fun k e => by cases e), below_then B02 Bm (Nat.le_refl _)⟩
  clear q1 q2 B1 B2 q12 B02 M0 Bm hg1 hhw hmw sz1 hh
  go_upto_region 8 with fail
  generalize w2.alloc (.map #[] 0) = w3 at *
  clear hmm hmp
  go_wp2_with fail
  go_loopw [10] (fun x10 wr => ∃ (k : Nat) (y : Bool) (e u : Int) (l : List WR) (v : Value) (hl : List HR) (vh : Value) (nm : Nat) (hd : Int → Bool), k ≤ n ∧ x10 = .int .i64 k ∧ AS1 lo k y e l hl hd ∧ AskW w wr g h mp T y e u l v 0 hl vh nm hd ∧ nm ≤ k) (fun x10 _ => 60 - (intOf x10).toNat)
  case atStart => exact ⟨0, false, 0, 0, [], _, [], _, 0, _, by omega, rfl, AS1.start lo, A0, by omega⟩
  case round =>
    clear A0
    obtain ⟨k, y, e, u, l, v, hl, vh, nm, hd, hk, rfl, P, A, hnm⟩ := hrel
    by_cases hkn : k < n
    · obtain ⟨hka, hk60⟩ := (HNX.out k hk).2 hkn
      obtain ⟨bb, off, rfl, hbb, hcell⟩ := HS.out.at1 (by omega)
      have d := hcell k hka
      obtain ⟨lk, hlk⟩ : ∃ x, lo k = x := ⟨_, rfl⟩
      rw [hlk] at d
      have HLK := Lib.hid hlk
      have i0 : (0 : Int) ≤ (k : Int) := by omega
      have i1 : (k : Int) < (a0l : Int) := by omega
      have i2 : (k : Int) < 60 := by omega
      have wk : IntKind.i64.wrap ((k : Int) + 1) = ((k + 1 : Nat) : Int) := by rw [IntWalk.i64_in _ (by omega)]; omega
      have wu : IntKind.u8.wrap (k : Int) = (k : Int) := by rw [IntKind.wrap_u8]; omega
      have Kb := Blk.new wr 5 #[.int .u8 (k : Int)]
      have Bb : Below wr.heap.size wr (wr.alloc (.cells #[.int .u8 (k : Int)] 5)) := (Below.refl _ wr).alloc (Nat.le_refl _) _
      have HCV := conv_byte _ _ _ Kb
      obtain ⟨ds, hds⟩ : ∃ x, strOfNums [(k : Int)] = x := ⟨_, rfl⟩
      rw [hds] at HCV
      have A4 := A.down Bb
      have HP := Lib.hid P
      have HDS := Lib.hid hds
      clear hlk hcell Kb hds
      go_upto_region 11 with fail
      have hpl := HP.out.hlen
      have HPT := Lib.hid (hist_PutYes h 500 T 0 hl hl vh (k : Int) 1 ds _ A4.hv (by decide) (by omega) (by omega) (fun r hr h0 => by
        have h1 := HP.out.hget (k - 1) (by omega)
        rw [hpl] at hr h0
        rw [hr] at h1
        injection h1 with h1
        rw [h1]
        show ((k - 1 : Nat) : Int) < (k : Int)
        omega) (if_neg (by omega)))
      clear hpl
      go_wp2_with fail
      refine HPT.out.mono ?_
      rintro e5 w5 ⟨rfl, vh5, q5, M5⟩
      have A5 := A4.hist q5 M5
      clear HPT A4 q5 M5 HCV A Bb P
      generalize wr.alloc (.cells #[.int .u8 (k : Int)] 5) = w4 at *
      have d5 := (A5.below.cell (p := ⟨bb, off + k, none⟩) hbb).trans d
      clear d
      cases lk with
      | true =>
        have P5 := HP.out.lost HLK.out
        have P6 := Lib.hid (show AS1 lo (k + 1) y e l (hl ++ [⟨(k : Int), 0, 1, ds⟩]) hd by rw [← HDS.out]; exact P5)
        clear P5
        go_wp2_with fail
        go_roundw
        case rel => exact ⟨k + 1, y, e, u, l, v, _, vh5, nm, hd, by omega, by go_num, P6.out, A5, by omega⟩
        case measure => simp only [intOf]; omega
      | false =>
        have P5 := HP.out.came HLK.out hk60
        have P6 := Lib.hid (show AS1 lo (k + 1) true (camE y e (k : Int)) (camL 200 0 2 y e l (k : Int) 0) (hl ++ [⟨(k : Int), 0, 1, ds⟩]) (fun j => if j = (k : Int) then true else hd j) by rw [← HDS.out]; exact P5)
        have HC := Lib.hid (gaps_Came g 200 5 0 2 y e u l v (k : Int) 0 (k : Int) 0 (clipI_in (by omega) (by omega)) (by decide) w5 A5.gv HP.out.good)
        clear P5
        go_wp2_with fail
        refine HC.out.mono ?_
        rintro e6 w6 ⟨rfl, v6, q6, M6⟩
        have A6 := A5.gaps q6 M6
        obtain ⟨w7, hrun, m7, hgr⟩ := A6.mm.put (k : Int) (wfI64 (by omega) (by omega)) true (by unfold maxLen; omega)
        have A7 := A6.put m7 hgr
        clear HC A5 q6 M6 A6 m7 hgr d5
        go_wp2_with fail
        go_roundw
        case rel => exact ⟨k + 1, true, _, _, _, v6, _, vh5, nm + 1, _, by omega, by go_num, P6.out, A7, by omega⟩
        case measure => simp only [intOf]; omega
    · obtain rfl : k = n := by omega
      have hex : ((k : Int) < (a0l : Int) ∧ ¬ (k : Int) < 60) ∨ ¬ (k : Int) < (a0l : Int) := by
        have h1 : ¬ (k < a0l ∧ k < 60) := fun h2 => hkn ((HNX.out k hk).1 h2)
        omega
      have P2 := Lib.hid (P.two T)
      clear P hkn hk
      obtain ⟨wl, hwl⟩ : ∃ wl, wl = wr := ⟨_, rfl⟩
      subst hwl
      rcases hex with ⟨j1, j2⟩ | j1
      all_goals
        go_upto_region 15 with fail
        clear j1
        try clear j2
        go_wp2_with fail
        go_loopw [7, 8, 61] (fun x7 x8 x61 wr => ∃ (r : Nat) (y : Bool) (e u : Int) (l : List WR) (v : Value) (c : Int) (hl : List HR) (vh : Value) (nm : Nat) (hd : Int → Bool), r ≤ 20 ∧ x7 = .int .i64 r ∧ x61 = .int .i64 r ∧ x8 = .int .i64 c ∧ 0 ≤ c ∧ c ≤ 1024 * (r : Int) ∧ AS2 lo k T r y e l hl hd ∧ AskW w wr g h mp T y e u l v c hl vh nm hd ∧ nm ≤ 60 + 1024 * r) (fun x7 _ _ _ => 20 - (intOf x7).toNat)
        case atStart => exact ⟨0, y, e, u, l, v, 0, hl, vh, nm, hd, by omega, rfl, rfl, rfl, by omega, by omega, P2.out, A, by omega⟩
        case round =>
          clear A P2 hnm
          obtain ⟨r, y, e, u, l, v, c, hl, vh, nm, hd, hr20, rfl, rfl, rfl, hc0, hc1, P, A, hnm⟩ := hrel
          by_cases hr : r < 20
          · have q0 : (r : Int) < 20 := by omega
            have wr1 : IntKind.i64.wrap ((r : Int) + 1) = ((r + 1 : Nat) : Int) := by rw [IntWalk.i64_in _ (by omega)]; omega
            have e1 : ((r + 1 : Nat) : Int) = (r : Int) + 1 := by omega
            have hsm : l.length ≤ 200 := by have := P.good.len; omega
            have HD := Lib.hid (gaps_Due g 200 5 0 2 y e u l v ((r + 1 : Nat) : Int) ((r : Int) + 1) (clipI_in (by omega) (by omega)) wr A.gv (by omega) (by decide) P.good.ok)
            rw [dueO_eq] at HD
            obtain ⟨D, hD⟩ : ∃ x, dueN 5 ((r : Int) + 1) l = x := ⟨_, rfl⟩
            rw [hD] at HD
            have hDl : D.length ≤ 200 := by
              rw [← hD]; unfold dueN; rw [List.length_map]
              exact Nat.le_trans (List.length_filter_le _ _) hsm
            have hDm : ∀ x ∈ D, 0 ≤ x ∧ x < 60 := fun x hx => by
              rw [← hD] at hx
              obtain ⟨s, hs, hsn, _, _⟩ := dueN_mem hx
              obtain ⟨i, hi, hin, _⟩ := P.want s hs
              omega
            have HP := Lib.hid P
            have HDD := Lib.hid hD
            have HDL := Lib.hid hDl
            have HDM := Lib.hid hDm
            clear hD hDl hDm P hsm e1
            go_wp2_with fail
            refine HD.out.mono ?_
            rintro e7 w7 ⟨vo, rfl, ⟨zo, own7⟩, v7, h7, hv7, K7⟩
            obtain ⟨oa, oc, rfl, hz⟩ := own_slice own7
            rw [List.length_map] at hz
            have hz1 : zo ≤ 200 := by rw [hz]; exact HDL.out
            have A7 := A.gaps h7 ⟨K7.below, fun k e1 e2 _ => K7.keep k e1 e2, fun k e => .inr (hv7 k e)⟩
            obtain ⟨_, _, q1, S7⟩ := SliceOf.of_own own7 (fun i => .int .i64 (D.getD i 0)) (fun i hi => by
              rw [List.getElem?_map, List.getElem?_eq_getElem (by omega)]
              simp [List.getD, show i < D.length by omega])
            injection q1 with q1 q2 q3
            subst q1 q3
            have hDb : ∀ i, i < zo → 0 ≤ D.getD i 0 ∧ D.getD i 0 ≤ 65535 := fun i hi => by
              rw [List.getD_eq_getElem?_getD, List.getElem?_eq_getElem (by omega)]
              have := HDM.out _ (List.getElem_mem (show i < D.length by omega))
              simp; omega
            have HLW := Lib.hid (top_low oa zo oc (fun i => D.getD i 0) w7 S7 (by omega) hDb)
            have HDB := Lib.hid hDb
            have HZ := Lib.hid hz
            clear HD own7 h7 hv7 K7 hz S7 hDb A
            go_wp2_with fail
            refine HLW.out.mono ?_
            rintro e8 w8 ⟨v8, rfl, own8, B8⟩
            have A8 := A7.down B8
            obtain ⟨a8, c8, rfl, S8⟩ := SliceOf.of_lst own8
            have HAK := Lib.hid (nack_Ask 1 2 a8 zo c8 (fun i => D.getD i 0) w8 S8 (by omega) HDB.out)
            clear HLW own8 S8 A7 B8
            have hdl := dst_len (fun i => D.getD i 0) zo
            have hpl := pairsL_len (dst (fun i => D.getD i 0) zo)
            obtain ⟨ps, hps⟩ : ∃ ps, pairsL (dst (fun i => D.getD i 0) zo) = ps := ⟨_, rfl⟩
            rw [hps] at hpl HAK
            have hok : PairsOk ps := fun x hx => by
              rw [← hps] at hx
              exact ⟨dst_bd (fun i => D.getD i 0) zo HDB.out _ (pairsL_pid (dst_u16 HDB.out) (dst_nodup (fun i => D.getD i 0) zo) hx), pairsL_blp x hx⟩
            obtain ⟨pl, hpl'⟩ : ∃ x, ps.length = x := ⟨_, rfl⟩
            rw [hpl'] at HAK hpl
            have HPL := Lib.hid hpl'
            have HOK := Lib.hid hok
            have HPS := Lib.hid hps
            clear hok hps hpl'
            go_wp2_with fail
            refine HAK.out.mono ?_
            rintro e9 w9 ⟨v9, rfl, ⟨a9, c9, rfl⟩, own9, B9⟩
            have A9 := A8.down B9
            obtain ⟨_, _, q1, P9⟩ := PairsAt.of_own own9 HPL.out
            injection q1 with q1 q2 q3
            subst q1 q3
            have HNM := Lib.hid (nack_Numbers 1 2 a9 pl c9 ps w9 P9 (by omega) HOK.out)
            clear HAK A8 own9 P9
            obtain ⟨N, hN⟩ : ∃ N, dd (flatP ps) = N := ⟨_, rfl⟩
            rw [hN] at HNM
            have hNm : ∀ x, x ∈ N ↔ x ∈ dueN 5 ((r : Int) + 1) l := fun x => by
              rw [HDD.out, ← hN, ← HPS.out, dst_flat HDB.out]
              constructor
              · rintro ⟨i, hi, rfl⟩
                rw [List.getD_eq_getElem?_getD, List.getElem?_eq_getElem (by have := HZ.out; omega)]
                exact List.getElem_mem _
              · intro hx
                obtain ⟨i, hi, rfl⟩ := List.mem_iff_getElem.1 hx
                exact ⟨i, by have := HZ.out; omega, by rw [List.getD_eq_getElem?_getD, List.getElem?_eq_getElem hi]; rfl⟩
            have hperm : (flatP ps).Perm (dst (fun i => D.getD i 0) zo) := by rw [← HPS.out]; exact pairsL_perm (dst_u16 HDB.out) (dst_nodup _ _)
            have hnd0 : (flatP ps).Nodup := hperm.nodup_iff.2 (dst_nodup _ _)
            have hNe : N = flatP ps := by rw [← hN]; exact dd_nodup hnd0
            have hNl : N.length ≤ 200 := by rw [hNe, hperm.length_eq]; omega
            have HND := Lib.hid (show N.Nodup by rw [hNe]; exact hnd0)
            have HNM2 := Lib.hid hNm
            obtain ⟨zn, hzn⟩ : ∃ x, N.length = x := ⟨_, rfl⟩
            rw [hzn] at HNM hNl
            have HZN := Lib.hid hzn
            clear hN hNm hperm hnd0 hNe hzn hpl hdl
            go_wp2_with fail
            refine HNM.out.mono ?_
            rintro e10 w10 ⟨v10, rfl, own10, B10⟩
            obtain ⟨an, cn, rfl⟩ := own_any own10
            have A10 := A9.down B10
            have P3 := Lib.hid (HP.out.three HTB.out.1 HNM2.out)
            clear HNM A9 B10 B9 HPL HOK HPS HDB HDD HDM HDL HZ HP HNM2
            obtain ⟨G0, hG0⟩ : ∃ x, w9.heap.size = x := ⟨_, rfl⟩
            rw [hG0] at own10
            clear hG0
            obtain ⟨wz, hwz⟩ : ∃ wl, wl = w10 := ⟨_, rfl⟩
            subst hwz
            go_wp2_with fail
            go_loopw [8, 72] (fun x8 x72 wr => ∃ (j : Nat) (y : Bool) (e u : Int) (l : List WR) (v : Value) (c2 : Int) (hl : List HR) (vh : Value) (nm : Nat) (hd : Int → Bool), j ≤ zn ∧ x72 = .int .i64 j ∧ x8 = .int .i64 c2 ∧ c ≤ c2 ∧ c2 ≤ c + j ∧ AS3 lo k T r N j y e l hl hd ∧ AskW w wr g h mp T y e u l v c2 hl vh nm hd ∧ nm ≤ 60 + 1024 * r + j ∧ wr.ownsRow G0 90 1 (.slice an zn cn) zn (cellsK .u16 N)) (fun _ x72 _ => zn - (intOf x72).toNat)
            case atStart => exact ⟨0, y, e, _, _, v7, c, hl, vh, nm, hd, by omega, rfl, rfl, by omega, by omega, P3.out, A10, by omega, own10⟩
            case round =>
              clear A10 P3 own10 hnm hl y e u l v hd vh nm v7
              obtain ⟨j, y, e, u, l, v, c2, hl, vh, nm, hd, hj, rfl, rfl, hc2, hc3, P, A, hnm, own⟩ := hrel
              by_cases hjz : j < zn
              · have hjN : j < N.length := by have := HZN.out; omega
                obtain ⟨x, hx⟩ : ∃ x, N[j]? = some x := ⟨_, List.getElem?_eq_getElem hjN⟩
                obtain ⟨i, hr0, rfl, hin, hhd, hg0, hs1, hs2, ht0, ht1, hie, rfl, hne⟩ := P.next hx
                obtain ⟨sq, tr, pa, dt⟩ := hr0
                simp only at hs1 hs2 ht0 ht1 hne
                subst hs1 hs2
                obtain ⟨_, _, e', hc⟩ := own_open own
                injection e' with e1 e2 e3
                subst e1 e3
                obtain ⟨gq, rfl, hgq0, hgq, hcell⟩ := hc (by omega)
                have d0 := hcell wr rfl j (.int .u16 (i : Int)) (by rw [cellsK_some .u16 _ j _ hx])
                have HX := Lib.hid hx
                have HG0 := Lib.hid hg0
                have HNE := Lib.hid hne
                have HP := Lib.hid P
                have HHD := Lib.hid hhd
                have HJZ := Lib.hid hjz
                have q0 : (0 : Int) ≤ (j : Int) := by omega
                have q1 : (j : Int) < (zn : Int) := by omega
                have wj : IntKind.i64.wrap ((j : Int) + 1) = ((j + 1 : Nat) : Int) := by rw [IntWalk.i64_in _ (by omega)]; omega
                have wi : IntKind.i64.wrap (i : Int) = (i : Int) := by rw [IntWalk.i64_in _ (by omega)]
                have wu : IntKind.u8.wrap (i : Int) = (i : Int) := by rw [IntKind.wrap_u8]; omega
                obtain ⟨t1, ht1'⟩ : ∃ x, tr + 1 = x := ⟨_, rfl⟩
                obtain ⟨c3, hc3'⟩ : ∃ x, c2 + 1 = x := ⟨_, rfl⟩
                have wc : IntKind.i64.wrap (c2 + 1) = c3 := by rw [IntWalk.i64_in _ (by omega), hc3']
                have HAY := Lib.hid (hist_AgainYes h 500 T c2 hl vh (i : Int) 2 wr A.hv HP.out.rising (by have := HP.out.hlen; omega) i _ hg0 rfl ht1 (by have := HTB.out; omega) ht0 (by omega) (by omega))
                have HAG : (HR.again ⟨(i : Int), tr, pa, datI i⟩ 2) = ⟨(i : Int), t1, 2, datI i⟩ := by unfold HR.again; rw [← ht1']
                rw [HAG] at HAY
                obtain ⟨ds, hds⟩ : ∃ x, datI i = x := ⟨_, rfl⟩
                rw [hds] at HAY
                have HDS := Lib.hid hds
                have HAG' := Lib.hid HAG
                rw [hc3'] at HAY
                have ht1b : 1 ≤ t1 ∧ t1 ≤ T := by omega
                have HT1 := Lib.hid ht1'
                have HC3 := Lib.hid hc3'
                clear hx hg0 hne P hhd hc hcell hjN hjz HAG hds ht1' hc3' ht0 ht1
                unfold HR.val at HAY
                go_wp2_with fail
                refine HAY.out.mono ?_
                rintro e5 w5 ⟨rfl, q5, M5⟩
                have A5 := A.hist q5 M5
                have own5 := M5.rowN A.hv.blk A.hv.own own (by decide) (by decide)
                have Kr := Blk.new w5 33 #[.int .i64 (i : Int), .int .i64 t1, .int .i64 2, .string ds]
                have Br : Below w5.heap.size w5 (w5.alloc (.cells #[.int .i64 (i : Int), .int .i64 t1, .int .i64 2, .string ds] 33)) := (Below.refl _ w5).alloc (Nat.le_refl _) _
                have A6 := A5.down Br
                have own6 := own_at own5 (fun j hj => Br.block j (own5.lt j hj).2)
                clear HAY q5 M5 A own d0
                go_upto_region 22 with fail
                obtain ⟨br, hbr⟩ : ∃ br, w5.heap.size = br := ⟨_, rfl⟩
                rw [hbr] at Kr Br
                clear own5 A5 Br
                generalize w5.alloc (.cells #[.int .i64 (i : Int), .int .i64 t1, .int .i64 2, .string ds] 33) = w6 at *
                have HLK := A6.mm.look (i : Int) (wfI64 (by omega) (by omega)) false HHD.out
                have Kb := Blk.new w6 5 #[.int .u8 (i : Int)]
                have Bb : Below w6.heap.size w6 (w6.alloc (.cells #[.int .u8 (i : Int)] 5)) := (Below.refl _ w6).alloc (Nat.le_refl _) _
                have HCV := conv_byte _ _ _ Kb
                rw [show strOfNums [(i : Int)] = ds from HDS.out] at HCV
                have A7 := A6.down Bb
                have own7 := own_at own6 (fun j hj => Bb.block j (own6.lt j hj).2)
                have Kr7 := Kr.below Bb Kr.lt
                have kr := Kr.cell
                have kr7 := Kr7.cell
                simp at kr kr7
                have HBB := Lib.hid Bb
                clear A6 own6 Kb Kr Bb
                go_upto_region 25 with fail
                generalize w6.alloc (.cells #[.int .u8 (i : Int)] 5) = w8 at *
                clear HCV HLK HBB kr
                by_cases htT : t1 = T
                · have jt : (t1 == T) = true := by simp [htT]
                  have nw1 : clipI (i : Int) (-1099511627776) 1099511627776 = (i : Int) := clipI_in (by omega) (by omega)
                  have HC := gaps_Came g 200 5 0 2 true e u l v (i : Int) ((r + 1 : Nat) : Int) (i : Int) ((r + 1 : Nat) : Int) nw1 (clipI_in (by omega) (by omega)) w8 A7.gv HP.out.good
                  have hcE : camE true e (i : Int) = e := by unfold camE; rw [if_pos rfl, if_pos (by omega)]
                  have hcL : camL 200 0 2 true e l (i : Int) ((r + 1 : Nat) : Int) = rmW l (i : Int) := by unfold camL; rw [if_pos rfl, if_pos (by omega)]
                  rw [hcE, hcL] at HC
                  obtain ⟨u9, hu9⟩ : ∃ x, camU 200 true e u l.length (i : Int) = x := ⟨_, rfl⟩
                  rw [hu9] at HC
                  have HCH := Lib.hid HC
                  have PC := Lib.hid (HP.out.came HX.out HND.out HG0.out 2 hie)
                  rw [HAG'.out, HDS.out] at PC
                  clear HC hcE hcL hu9 htT
                  go_wp2_with fail
                  refine HCH.out.mono ?_
                  rintro e9 w9 ⟨rfl, v9, q9, M9⟩
                  have A9 := A7.gaps q9 M9
                  have own9 := M9.rowN A7.gv.blk A7.gv.own own7 (by decide) (by decide)
                  obtain ⟨wx, hrun, mx, hgr⟩ := A9.mm.put (i : Int) (wfI64 (by omega) (by omega)) true (by unfold maxLen; omega)
                  have Ax := A9.put mx hgr
                  have ownx := own_at own9 (fun j hj => grown_far hgr j (own9.lt j hj).2 (fun e => own_ne_bm own9 A9.mm (e ▸ hj)))
                  clear HCH q9 M9 A9 A7 own7 own9 mx hgr kr7 Kr7
                  go_wp2_with fail
                  go_roundw
                  case rel => exact ⟨j + 1, true, e, u9, _, v9, c3, _, vh, nm + 1, _, by have := HJZ.out; omega, by go_num, by go_num, by have := HC3.out; omega, by have := HC3.out; omega, PC.out, Ax, by omega, ownx⟩
                  case measure => simp only [intOf]; have := HJZ.out; omega
                · have jt : (t1 == T) = false := by simp [htT]
                  have PW := Lib.hid (HP.out.waits HX.out HND.out HG0.out 2 (by have h1 := HNE.out (by have := HT1.out; omega); have h2 := HTB.out; exact ⟨h1.1, h1.2.1, by omega⟩))
                  rw [HAG'.out, HDS.out] at PW
                  clear htT
                  go_wp2_with fail
                  go_roundw
                  case rel => exact ⟨j + 1, true, e, u, l, v, c3, _, vh, nm, hd, by have := HJZ.out; omega, by go_num, by go_num, by have := HC3.out; omega, by have := HC3.out; omega, PW.out, A7, by omega, own7⟩
                  case measure => simp only [intOf]; have := HJZ.out; omega
              · obtain rfl : j = zn := by omega
                have P4 := Lib.hid (P.two (by have := HZN.out; omega))
                have q1 : ¬ (j : Int) < (j : Int) := by omega
                clear P own
                go_wp2_with fail
                go_roundw
                case rel => exact ⟨r + 1, y, e, u, l, v, c2, hl, vh, nm, hd, by omega, by go_num, by go_num, rfl, by omega, by omega, P4.out, A, by omega⟩
                case measure => simp only [intOf]; omega
          · obtain rfl : r = 20 := by omega
            have q0 : ¬ ((20 : Nat) : Int) < 20 := by decide
            have hl0 := P.done (by decide)
            subst hl0
            have HP := Lib.hid P
            have HWT := Lib.hid (gaps_Wanting g 200 5 0 2 y e u [] v)
            have HA2 := Lib.hid (fun W (q : HV W h 500 T c hl vh) => hist_Again2 h 500 T c hl vh W q)
            have BA := A.below
            obtain ⟨wq, hwq⟩ : ∃ wl, wl = wr := ⟨_, rfl⟩
            subst hwq
            clear P hr hc0 hc1 hnm
            go_wp2_with fail
            go_loop [15, 16, 17] (fun x15 x16 x17 => ∃ (i : Nat) (fi la : Int), i ≤ k ∧ x15 = .int .i64 fi ∧ x16 = .int .i64 la ∧ x17 = .int .i64 i ∧ FLast lo i fi la) (fun _ _ x17 => 60 - (intOf x17).toNat)
            case atStart => exact ⟨0, -1, -1, by omega, rfl, rfl, rfl, FLast.start lo⟩
            case round =>
              obtain ⟨i, fi, la, hi, rfl, rfl, rfl, F⟩ := hrel
              by_cases hik : i < k
              · obtain ⟨hka, hk60⟩ := (HNX.out i hi).2 hik
                obtain ⟨bb, off, rfl, hbb, hcell⟩ := HS.out.at1 (by omega)
                have d := (BA.cell (p := ⟨bb, off + i, none⟩) hbb).trans (hcell i hka)
                obtain ⟨lk, hlk⟩ : ∃ x, lo i = x := ⟨_, rfl⟩
                rw [hlk] at d
                have HLK := Lib.hid hlk
                have HF := Lib.hid F
                have HIK := Lib.hid hik
                have i0 : (0 : Int) ≤ (i : Int) := by omega
                have i1 : (i : Int) < (a0l : Int) := by omega
                have i2 : (i : Int) < 60 := by omega
                have wk : IntKind.i64.wrap ((i : Int) + 1) = ((i + 1 : Nat) : Int) := by rw [IntWalk.i64_in _ (by omega)]; omega
                clear hlk hcell F hik
                cases lk with
                | true =>
                  have F2 := Lib.hid (HF.out.lost HLK.out)
                  go_wp2_with fail
                  go_round
                  case rel => exact ⟨i + 1, fi, la, by have := HIK.out; omega, rfl, rfl, by go_num, F2.out⟩
                  case measure => simp only [intOf]; omega
                | false =>
                  have F2 := HF.out.came HLK.out
                  by_cases hf : fi < 0
                  · rw [if_pos hf] at F2
                    have HF2 := Lib.hid F2
                    clear F2
                    go_wp2_with fail
                    go_round
                    case rel => exact ⟨i + 1, (i : Int), (i : Int), by have := HIK.out; omega, rfl, rfl, by go_num, HF2.out⟩
                    case measure => simp only [intOf]; omega
                  · rw [if_neg hf] at F2
                    have HF2 := Lib.hid F2
                    clear F2
                    go_wp2_with fail
                    go_round
                    case rel => exact ⟨i + 1, fi, (i : Int), by have := HIK.out; omega, rfl, rfl, by go_num, HF2.out⟩
                    case measure => simp only [intOf]; omega
              · obtain rfl : i = k := by omega
                have hex2 : ((i : Int) < (a0l : Int) ∧ ¬ (i : Int) < 60) ∨ ¬ (i : Int) < (a0l : Int) := by
                  have h1 : ¬ (i < a0l ∧ i < 60) := fun h2 => hik ((HNX.out i hi).1 h2)
                  omega
                have hfb : -1 ≤ fi ∧ fi ≤ 60 ∧ -1 ≤ la ∧ la ≤ 60 := by
                  by_cases hf : fi < 0
                  · obtain ⟨e1, e2, _⟩ := F.none_ hf; omega
                  · obtain ⟨a, b, e1, e2, e3, e4, _⟩ := F.some_ hf; omega
                have HF := Lib.hid F
                obtain ⟨m, hm⟩ : ∃ x, max 0 fi = x := ⟨_, rfl⟩
                have hm2 : (if 0 < fi then fi else 0) = m := by rw [← hm]; split <;> omega
                have hm0 : 0 ≤ m ∧ m ≤ 60 := by omega
                have HM := Lib.hid hm
                clear F hm hik hi
                rcases hex2 with ⟨s1, s2⟩ | s1
                all_goals
                  go_upto_region 39 with fail
                  clear s1
                  try clear s2
                  go_wp2_with fail
                  go_loop [18] (fun x18 => ∃ z : Int, x18 = .int .i64 z ∧ m ≤ z ∧ z ≤ 62) (fun x18 => 62 - (intOf x18).toNat)
                  case atStart => exact ⟨m, rfl, Int.le_refl _, by omega⟩
                  case round =>
                    obtain ⟨z, rfl, hz0, hz1⟩ := hrel
                    by_cases hzl : z ≤ la
                    · have ht := HP.out.there HF.out (i := z) (by have := HM.out; omega) hzl
                      have HLK := A.mm.look z (wfI64 (by omega) (by omega)) true ht
                      have wz1 : IntKind.i64.wrap (z + 1) = z + 1 := by rw [IntWalk.i64_in _ (by omega)]
                      clear ht
                      go_wp2_with fail
                      go_round
                      case rel => exact ⟨z + 1, rfl, by omega, by omega⟩
                      case measure => simp only [intOf]; omega
                    · go_wp2_with fail
                      refine (HWT.out wq A.gv (by simp)).mono ?_
                      rintro e5 w5 ⟨v5, rfl, own5, B5⟩
                      obtain ⟨a5, c5, rfl⟩ := own_any own5
                      have A5 := A.down B5
                      have BE := A5.below
                      go_wp2_with fail
                      refine (HA2.out w5 A5.hv).mono ?_
                      rintro e6 w6 ⟨rfl, rfl⟩
                      go_wp2_with fail
                      go_ret
                      exact ⟨rfl, BE⟩
end Go.Proofs.Ytonamlgipoannaa
