/- NackNumbers, walked. No condition. -/
import Derived.Test.YtmmoejnjajmnpaaNack8
import Derived.Test.YtmmoejnjajmnpaaFacts
namespace Go.Proofs.Ytmmoejnjajmnpaa
open Go.RowKit BigFrame
attribute [local go_sem ↓] Go.wp_at_zero Go.wp_at_succ

theorem own_lasts {W W' : World} {B e z n : Nat} {v : Value} {xs : List Value} (h : W.ownsRow B e z v n xs) (hb : Below W.heap.size W W') : W'.ownsRow B e z v n xs := own_at2 h (fun j hj => hb.block j (h.lt j hj).2)
theorem own_down {W : World} {B B' e z n : Nat} {v : Value} {xs : List Value} (h : W.ownsRow B e z v n xs) (hB : B' ≤ B) : W.ownsRow B' e z v n xs := by
  refine ⟨h.1, ?_⟩
  rcases h.2 with h | ⟨g', cap, cur, h, hb, rest⟩
  · exact .inl h
  · exact .inr ⟨g', cap, cur, h, Nat.le_trans hB hb, rest⟩
/-- What the region of one pair yields. -/
def F7 (B n : Nat) (l : List Int) (p b : Int) (i : Nat) (v : Value) (W : World) : Prop :=
  match i with
  | 1 => W.ownsRow B 28 1 v n (cellsK .u16 l)
  | 2 => W.ownsRow B 3 1 v n (cellsK .i64 l)
  | 10 => ∃ g, v = .slice (some ⟨g, 0, none⟩) 1 1 ∧ Blk W g 40 #[.int .i64 p, .int .i64 b]
  | 11 => W.ownsRow B 3 1 v n (cellsK .i64 l)
  | _ => True
theorem F7_lasts (B n : Nat) (l : List Int) (p b : Int) : Lasts (F7 B n l p b) := by
  intro i v W W' h hb
  unfold F7 at *
  split at h
  · exact own_lasts h hb
  · exact own_lasts h hb
  · obtain ⟨g, e, K⟩ := h
    exact ⟨g, e, K.below hb K.lt⟩
  · exact own_lasts h hb
  · trivial
structure G7 (n : Nat) (q : Nat) (v : Value) : Prop where
  a1 : q = 1 → ∃ a c, v = .slice a n c
  a2 : q = 2 → ∃ a c, v = .slice a n c
  a10 : q = 10 → ∃ g, v = .slice (some ⟨g, 0, none⟩) 1 1
  a11 : q = 11 → ∃ a c, v = .slice a n c
  a12 : q = 12 → v = .bool true
def F10 (B n m : Nat) (l : List Int) (ps : List (Int × Nat)) (i : Nat) (v : Value) (W : World) : Prop :=
  match i with
  | 1 => W.ownsRow B 28 1 v n (cellsK .u16 l)
  | 2 => W.ownsRow B 3 1 v n (cellsK .i64 l)
  | 5 => W.ownsRow B 40 2 v m (rowQ ps)
  | 6 => W.ownsRow B 3 1 v n (cellsK .i64 l)
  | _ => True
theorem F10_lasts (B n m : Nat) (l : List Int) (ps : List (Int × Nat)) : Lasts (F10 B n m l ps) := by
  intro i v W W' h hb
  unfold F10 at *
  split at h
  · exact own_lasts h hb
  · exact own_lasts h hb
  · exact own_lasts h hb
  · exact own_lasts h hb
  · trivial
structure G10 (n m : Nat) (q : Nat) (v : Value) : Prop where
  a1 : q = 1 → ∃ a c, v = .slice a n c
  a2 : q = 2 → ∃ a c, v = .slice a n c
  a5 : q = 5 → ∃ a c, v = .slice a m c
  a6 : q = 6 → ∃ a c, v = .slice a n c
  a7 : q = 7 → v = .bool true
theorem PairsAt.of_args {w : World} {a : Option Addr} {l c : Nat} {e0 e1 : Nat → Int} (S : SliceOf w a l c 2 (fun j => [.int .u16 (e0 j), .int .u16 (e1 j)])) (F0 : ∀ j, j < l → (Lit.int .u16 (e0 j)).wf = true) (F1 : ∀ j, j < l → (Lit.int .u16 (e1 j)).wf = true) (n : Nat) (hn : n ≤ l) :
    ∃ ps, PairsAt w a n c ps ∧ PairsOk ps := by
  refine ⟨(List.range n).map fun i => (e0 i, (e1 i).toNat), ⟨by simp, ?_⟩, fun x hx => ?_⟩
  · have S := S.upto n hn
    refine ⟨S.1, S.2.1, fun hp => ?_⟩
    obtain ⟨b, off, ha, hb, hc⟩ := S.2.2 hp
    refine ⟨b, off, ha, hb, fun i hi j v hv => hc i hi j v ?_⟩
    have := wf_u16 (F1 i (by omega))
    have hg : ((List.range n).map fun i => (e0 i, (e1 i).toNat)).getD i (0, 0) = (e0 i, (e1 i).toNat) := by rw [List.getD_eq_getElem?_getD]; simp [hi]
    simp only [hg, Int.toNat_of_nonneg this.1] at hv
    exact hv
  · rw [List.mem_map] at hx
    obtain ⟨i, hi, rfl⟩ := hx
    have hi := List.mem_range.1 hi
    have h1 := wf_u16 (F0 i (by omega))
    have h2 := wf_u16 (F1 i (by omega))
    exact ⟨h1, by simp only; omega⟩
theorem PairsAt.news {w : World} {a : Option Addr} {n c : Nat} {ps : List (Int × Nat)} (P : PairsAt w a n c ps) : 0 < n → ∃ a0, a = some a0 ∧ ∀ j u, (rowP ps)[j]? = some u → w.cell? (a0.add j) = some u := fun hn0 => by
  obtain ⟨b, off, rfl, hb, hc⟩ := P.get hn0
  refine ⟨_, rfl, fun j u hu => ?_⟩
  have hj := (List.getElem?_eq_some_iff.1 hu).1
  rw [rowP_len] at hj
  have hadd : (⟨b, off, none⟩ : Addr).add j = ⟨b, off + j, none⟩ := by unfold Addr.add; split <;> simp_all
  obtain ⟨x, hx⟩ : ∃ x, ps[j / 2]? = some x := ⟨_, List.getElem?_eq_getElem (by omega)⟩
  obtain ⟨c0, c1⟩ := hc (j / 2) x hx
  have hjj : j / 2 * 2 + j % 2 = j := by omega
  have hr := rowP_get ps (j / 2) x hx (j % 2) (by omega)
  rw [hjj, hu] at hr
  rw [hadd]
  rcases (show j % 2 = 0 ∨ j % 2 = 1 by omega) with h0 | h0
  · rw [h0] at hr hjj
    simp at hr
    rw [hr, ← c0]
    congr 2; omega
  · rw [h0] at hr hjj
    simp at hr
    rw [hr, ← c1]
    congr 2; omega
theorem flatP_one (p : Int) (b : Nat) : flatP [(p, b)] = numsB p b 16 := by simp [flatP]
set_option maxRecDepth 8000 in
set_option maxHeartbeats 8000000 in
theorem NackNumbers_walk (a0x0 : Int) (a0x1 : Int) (a0x2a : Option Addr) (a0x2l a0x2c : Nat) (a0x2e0 : Nat → Int) (a0x2e1 : Nat → Int) (w : World) (a0x0w0 : (Lit.int .u32 a0x0).wf = true) (a0x1w0 : (Lit.int .u32 a0x1).wf = true) (a0x2S : SliceOf w a0x2a a0x2l a0x2c 2 (fun j => [.int .u16 (a0x2e0 j), .int .u16 (a0x2e1 j)])) (a0x2F0 : ∀ j, j < a0x2l → (Lit.int .u16 (a0x2e0 j)).wf = true) (a0x2F1 : ∀ j, j < a0x2l → (Lit.int .u16 (a0x2e1 j)).wf = true) :
    Calls Try.prog 4 #[.agg #[.int .u32 a0x0, .int .u32 a0x1, .slice a0x2a a0x2l a0x2c]] w fun e w' => e = .returned (.bool true) ∧ Below w.heap.size w w' := by
  obtain ⟨ip, hp0, hp1, hp2, hp3⟩ := info_pair
  have hsz := a0x2S.size_le
  have hcap := a0x2S.1
  have hcm := a0x2S.2.1
  rw [maxLen_eq] at hcm
  obtain ⟨n, hn⟩ : ∃ n : Nat, min a0x2l 20 = n := ⟨_, rfl⟩
  have hm1 : (if 20 < (a0x2l : Int) then 20 else (a0x2l : Int)) = (n : Int) := by rw [← hn]; split <;> omega
  have hm2 : min (a0x2l : Int) 20 = (n : Int) := by omega
  have n20 : n ≤ 20 := by omega
  have nl : n ≤ a0x2l := by omega
  have nc : (n : Int) ≤ (a0x2c : Int) := by omega
  obtain ⟨ps, P, hok⟩ := PairsAt.of_args a0x2S a0x2F0 a0x2F1 n nl
  have HOK := Lib.hid hok
  have HPL := Lib.hid P.1
  clear hn hok a0x2S a0x2F0 a0x2F1 a0x0w0 a0x1w0
  have K0 := Blk.new w 36 #[.int .u32 a0x0, .int .u32 a0x1, .slice a0x2a a0x2l a0x2c]
  have B0 : Below w.heap.size w (w.alloc (.cells #[.int .u32 a0x0, .int .u32 a0x1, .slice a0x2a a0x2l a0x2c] 36)) := (Below.refl _ w).alloc (Nat.le_refl _) _
  go_enter Try.func4, Try.ntmps4
  go_upto_region 1 with fail
  generalize w.alloc (.cells #[.int .u32 a0x0, .int .u32 a0x1, .slice a0x2a a0x2l a0x2c] 36) = w0 at *
  go_wp2_with fail
  refine (law10_awake _).mono ?_
  rintro e' w1 ⟨rfl, B1⟩
  have K1 := K0.below B1 K0.lt
  have B01 := below_then B0 B1 (Nat.le_refl _)
  have P1 := P.below B01
  have k1 := K1.cell
  have f1 := K1.frozen
  simp at k1
  have hl1 := K1.lt
  have ownl := own_lit w1 30 2
  have Bl : Below w1.heap.size w1 (w1.alloc (.cells #[] 30)) := (Below.refl _ w1).alloc (Nat.le_refl _) _
  have P1l := P1.below Bl
  have hnews := P1l.news
  have hlen : (rowP ps).length = n * 2 := by rw [rowP_len, HPL.out]
  have hone := rowP_one ps
  go_upto_region 4 with (at_builtin; refine wpList_append_sl rfl _ _ 26 rfl w1.heap.size 30 ip (.agg #[.int .u16 0, .int .u16 0]) 2 4 Try.underlying26 hp0 hp1 hp2 hp3 rfl (by decide) _ _ _ rfl ownl a0x2a n a0x2c (rowP ps) rfl hlen hnews hone (by rw [maxLen_eq]; omega) (by omega) (by simp) ?_; intro v2 w2 own2 hgrow2 hat2 hsh2; obtain ⟨a2, c2, rfl⟩ := hsh2; have hg2 := (show (w1.alloc (.cells #[] 30)).grownBy w2 (some w1.heap.size) from hgrow2); have B2 : Below w1.heap.size w1 w2 := (((Below.refl _ w1).alloc (Nat.le_refl _) _).grown hg2 (by simp) (fun j hj => by injection hj with hj; omega)); have K2 := K1.below B2 K1.lt; have k2 := K2.cell; have f2 := K2.frozen; simp at k2; simp only [Nat.zero_add, List.nil_append] at own2)
  have hr2 := fun j (hj : (Value.slice a2 n c2).ownBlock = some j) => (own2.lt j hj).1
  have K3 := K2.set_ 2 (.slice a2 n c2)
  simp at K3
  have own3 := own_at2 own2 (w' := w2.setCell ⟨w.heap.size, 2, none⟩ (.slice a2 n c2)) (fun j hj => Below.heap_setCell _ ⟨w.heap.size, 2, none⟩ _ j (by have := hr2 j hj; simp; omega))
  have B03 : Below w.heap.size w (w2.setCell ⟨w.heap.size, 2, none⟩ (.slice a2 n c2)) := (below_then B01 B2 (Nat.le_refl _)).setCell (p := ⟨w.heap.size, 2, none⟩) (Nat.le_refl _) _
  generalize w2.setCell ⟨w.heap.size, 2, none⟩ (.slice a2 n c2) = w3 at *
  clear k1 f1 k2 f2 K2 K1 own2 B2 hg2 hgrow2 hat2 hnews P1l P1 P B01 ownl Bl hlen
  obtain ⟨a2', c2', hv, P3⟩ := PairsAt.of_own own3 HPL.out
  injection hv with e1 e2 e3
  subst e1 e3
  have k3 := K3.cell
  simp at k3
  go_wp2_with fail
  go_loopw [20] (fun x20 wr => ∃ k : Nat, k ≤ n ∧ x20 = .int .i64 k ∧ Below w3.heap.size w3 wr) (fun x20 _ => n - (intOf x20).toNat)
  case atStart => exact ⟨0, by omega, rfl, Below.refl _ _⟩
  case round =>
    obtain ⟨k, hk, rfl, B⟩ := hrel
    by_cases hlt : k < n
    · have hkl : k < ps.length := by have := HPL.out; omega
      obtain ⟨x, hx⟩ : ∃ x, ps[k]? = some x := ⟨_, List.getElem?_eq_getElem hkl⟩
      obtain ⟨p, b⟩ := x
      obtain ⟨bb, off, rfl, hbb, hcell⟩ := P3.get (by omega)
      obtain ⟨d0, d1⟩ := hcell k _ hx
      have e0 := (B.cell (p := ⟨bb, off + k * 2, none⟩) hbb).trans d0
      have e1 := (B.cell (p := ⟨bb, off + k * 2 + 1, none⟩) hbb).trans d1
      obtain ⟨⟨p0, p1⟩, hb⟩ := HOK.out _ (List.mem_of_getElem? hx)
      simp only at e0 e1 p0 p1 hb
      obtain ⟨nums, hnums⟩ : ∃ z, numsB p b 16 = z := ⟨_, rfl⟩
      have hnd := nums_nodup ⟨p0, p1⟩ b (Nat.le_refl 16)
      have hnu := nums_u16 ⟨p0, p1⟩ b 16
      have hnl := numsB_len p b 16
      have HNU := Lib.hid (fun W => pair_Numbers p b ⟨p0, p1⟩ hb W)
      have HRN := Lib.hid (fun W a c (R : RefAt W a 1 c [(p, b)]) => ref10_Numbers a 1 c [(p, b)] W R (by decide) (fun x hx => by
        rw [List.mem_singleton] at hx
        subst hx
        exact ⟨⟨p0, p1⟩, hb⟩))
      rw [flatP_one] at HRN
      rw [hnums] at hnd hnu hnl HNU HRN
      rw [dd_nodup hnd] at HRN
      obtain ⟨q, hq⟩ : ∃ q, nums.length = q := ⟨_, rfl⟩
      have HQ := Lib.hid hq
      rw [hq] at hnl HNU HRN
      have HIT := Lib.hid (fun W a c (S : SliceOf W a q c 1 (fun i => [.int .u16 (nums.getD i 0)])) => law01_Ints a q c (fun i => nums.getD i 0) W S (by omega) (fun i hi => by
        rw [List.getD_eq_getElem?_getD, List.getElem?_eq_getElem (by omega)]
        exact hnu _ (List.getElem_mem _)))
      rw [lst_getD2 nums q hq] at HIT
      have i1 : (0 : Int) ≤ (k : Int) := by omega
      have i2 : (k : Int) < (n : Int) := by omega
      have wk : IntKind.i64.wrap ((k : Int) + 1) = ((k + 1 : Nat) : Int) := by rw [IntWalk.i64_in _ (by omega)]; omega
      have wp : IntKind.i64.wrap p = p := IntWalk.i64_in _ (by omega)
      have wb : IntKind.i64.wrap (b : Int) = (b : Int) := IntWalk.i64_in _ (by omega)
      have K4 := Blk.new wr 30 #[.int .u16 p, .int .u16 (b : Int)]
      have B4 : Below wr.heap.size wr (wr.alloc (.cells #[.int .u16 p, .int .u16 (b : Int)] 30)) := (Below.refl _ wr).alloc (Nat.le_refl _) _
      have B04 := below_then B B4 (Nat.le_refl _)
      clear hx hcell d0 d1 hkl hnums hnd hnu hq
      go_upto_region 7 with fail
      clear e0 e1
      obtain ⟨gp, hgp⟩ : ∃ gp, wr.heap.size = gp := ⟨_, rfl⟩
      rw [hgp] at K4 ⊢
      generalize wr.alloc (.cells #[.int .u16 p, .int .u16 (b : Int)] 30) = w4 at *
      clear hgp B4
      have E4 := fun (gx : UWF (Facts w4 (F7 w4.heap.size q nums p b))) => (K4.below gx.holds.below K4.lt).cell
      simp at E4
      have hne := Facts.ne w4 (F7 w4.heap.size q nums p b)
      have hFL := F7_lasts w4.heap.size q nums p b
      refine wp_region_free [(0, 1, some 1), (2, 0, some 2), (3, 7, some 10), (11, 0, some 11), (12, 0, some 12), (13, 1, none)] (Facts w4 (F7 w4.heap.size q nums p b)) (G7 q) (fun z => if z = 10 then .slice (some ⟨0, 0, none⟩) 1 1 else if z = 12 then .bool true else .slice none q 0) (by kernel_rfl) (by kernel_rfl) ?_ ?_ ?_ ?_
      · intro z hz LL G W hC
        simp [moversI] at hz
        refine hC.quiet (fun v V => ?_)
        unfold F7
        split <;> first | trivial | omega
      · exact Facts.start _ _ _
      · intro z
        exact ⟨fun e => by subst e; exact ⟨_, _, rfl⟩, fun e => by subst e; exact ⟨_, _, rfl⟩, fun e => by subst e; exact ⟨_, rfl⟩, fun e => by subst e; exact ⟨_, _, rfl⟩, fun e => by subst e; rfl⟩
      · intro G hG
        obtain ⟨x1, y1, g1⟩ := (hG 1).a1 rfl
        obtain ⟨x2, y2, g2⟩ := (hG 2).a2 rfl
        obtain ⟨gl, g10⟩ := (hG 10).a10 rfl
        obtain ⟨x11, y11, g11⟩ := (hG 11).a11 rfl
        have g12 := (hG 12).a12 rfl
        simp only [walkF, List.drop_zero, List.drop_succ_cons, List.take_succ_cons, List.take_zero, List.toList_toArray]; (repeat (go_big_quiet_step (fail))); refine wpQuiet_nil ?_
        refine ⟨_, _, _, _, _, _, rfl, .inl ⟨rfl, ?_, ?_⟩⟩
        · intro LL W hL hA hC
          refine ⟨?_⟩; go_simp; simp only [movesToUpon]
          refine (HNU.out W).mono ?_
          rintro e w' ⟨v', rfl, own', hb'⟩
          obtain ⟨xa, ya, rfl⟩ := own_any own'
          exact ⟨_, rfl, ⟨fun _ => ⟨_, _, rfl⟩, (fun e => by cases e), (fun e => by cases e), (fun e => by cases e), (fun e => by cases e)⟩, hC.add hFL hb' (own_down own' hC.below.size)⟩
        · intro K' hK'; dsimp only at hK'; rw [g1]; go_big_quiet_op; go_big_quiet_on; (repeat (go_big_quiet_step (fail))); refine wpQuiet_nil ?_
          refine ⟨_, _, _, _, _, _, rfl, .inl ⟨rfl, ?_, ?_⟩⟩
          · intro LL W hL hA hC
            have r1 : W.ownsRow w4.heap.size 28 1 (G 1) q (cellsK .u16 nums) := hC.fact 1 (hA 1 (by kernel_rfl))
            rw [g1] at r1
            obtain ⟨xa, ya, hv, SA⟩ := own_rowI r1 HQ.out
            injection hv with f1 f2 f3
            subst f1 f3
            refine ⟨?_⟩; go_simp; simp only [movesToUpon]
            refine (HIT.out W _ _ SA).mono ?_
            rintro e w' ⟨v', rfl, own', hb'⟩
            obtain ⟨xb, yb, rfl⟩ := own_any own'
            exact ⟨_, rfl, ⟨(fun e => by cases e), fun _ => ⟨_, _, rfl⟩, (fun e => by cases e), (fun e => by cases e), (fun e => by cases e)⟩, hC.add hFL hb' (own_down own' hC.below.size)⟩
          · intro K' hK'; dsimp only at hK'; rw [g2]; go_big_quiet_op; go_big_quiet_on; (repeat (go_big_quiet_step (fail))); refine wpQuiet_nil ?_
            refine ⟨_, _, _, _, _, _, rfl, .inl ⟨rfl, ?_, ?_⟩⟩
            · intro LL W hL hA hC
              refine ⟨?_⟩; go_simp; simp only [movesToUpon]
              exact ⟨⟨(fun e => by cases e), (fun e => by cases e), fun _ => ⟨_, rfl⟩, (fun e => by cases e), (fun e => by cases e)⟩, hC.add hFL ((Below.refl _ W).alloc (Nat.le_refl _) _) ⟨_, rfl, Blk.new _ _ _⟩⟩
            · intro K' hK'; dsimp only at hK'; rw [g10]; go_big_quiet_op; go_big_quiet_on; (repeat (go_big_quiet_step (fail))); refine wpQuiet_nil ?_
              refine ⟨_, _, _, _, _, _, rfl, .inl ⟨rfl, ?_, ?_⟩⟩
              · intro LL W hL hA hC
                obtain ⟨g0, hg0, K0⟩ : ∃ g, G 10 = .slice (some ⟨g, 0, none⟩) 1 1 ∧ Blk W g 40 #[.int .i64 p, .int .i64 b] := hC.fact 10 (hA 10 (by kernel_rfl))
                rw [g10] at hg0
                injection hg0 with f1 f2 f3
                injection f1 with f1
                injection f1 with f1
                subst f1
                have R : RefAt W (some ⟨gl, 0, none⟩) 1 1 [(p, b)] := by
                  refine ⟨rfl, Nat.le_refl _, by decide, fun _ => ⟨gl, 0, rfl, K0.lt, fun i hi j v hv => ?_⟩⟩
                  obtain rfl : i = 0 := by omega
                  rw [show 0 + 0 * 2 + j = j by omega, K0.cell, ← hv]
                  match j with
                  | 0 => rfl
                  | 1 => rfl
                  | j + 2 => rfl
                refine ⟨?_⟩; go_simp; simp only [movesToUpon]
                refine (HRN.out W _ _ R).mono ?_
                rintro e w' ⟨v', rfl, own', hb'⟩
                obtain ⟨xb, yb, rfl⟩ := own_any own'
                exact ⟨_, rfl, ⟨(fun e => by cases e), (fun e => by cases e), (fun e => by cases e), fun _ => ⟨_, _, rfl⟩, (fun e => by cases e)⟩, hC.add hFL hb' (own_down own' hC.below.size)⟩
              · intro K' hK'; dsimp only at hK'; rw [g11]; go_big_quiet_op; go_big_quiet_on; (repeat (go_big_quiet_step (fail))); refine wpQuiet_nil ?_
                refine ⟨_, _, _, _, _, _, rfl, .inl ⟨rfl, ?_, ?_⟩⟩
                · intro LL W hL hA hC
                  have r2 : W.ownsRow w4.heap.size 3 1 (G 2) q (cellsK .i64 nums) := hC.fact 2 (hA 2 (by kernel_rfl))
                  have r11 : W.ownsRow w4.heap.size 3 1 (G 11) q (cellsK .i64 nums) := hC.fact 11 (hA 11 (by kernel_rfl))
                  rw [g2] at r2
                  rw [g11] at r11
                  obtain ⟨xa, ya, hv, SA⟩ := SliceOf.of_own r2 (fun i => .int .i64 (nums.getD i 0)) (fun i hi => cellsK_get .i64 nums i (by have := HQ.out; omega))
                  injection hv with f1 f2 f3
                  subst f1 f3
                  obtain ⟨xb, yb, hv, SB⟩ := SliceOf.of_own r11 (fun i => .int .i64 (nums.getD i 0)) (fun i hi => cellsK_get .i64 nums i (by have := HQ.out; omega))
                  injection hv with f1 f2 f3
                  subst f1 f3
                  refine ⟨?_⟩; go_simp; simp only [movesToUpon]
                  refine (law01_SameYes _ _ q _ _ (fun i => nums.getD i 0) W SA SB (by omega)).mono ?_
                  rintro e w' ⟨rfl, hb'⟩
                  exact ⟨_, rfl, ⟨(fun e => by cases e), (fun e => by cases e), (fun e => by cases e), (fun e => by cases e), fun _ => rfl⟩, hC.add hFL hb' trivial⟩
                · intro K' hK'; dsimp only at hK'; rw [g12]; go_big_quiet_op; go_big_quiet_on; (repeat (go_big_quiet_step (fail))); refine wpQuiet_nil ?_
                  intro LL w9 hL hC
                  have BE := below_then B04 hC.below (Nat.le_refl _)
                  clear hC hL hG g1 g2 g10 g11 g12 E4 hne
                  go_wp2_with fail
                  go_roundw
                  case rel => exact ⟨k + 1, by omega, by go_num, BE⟩
                  case measure => simp only [intOf]; omega
    · obtain rfl : k = n := by omega
      have j1 : ¬ (k : Int) < (k : Int) := by omega
      obtain ⟨nums, hnums⟩ : ∃ z, dd (flatP ps) = z := ⟨_, rfl⟩
      have hfl := flatP_len ps
      have hfd := foldd_len (flatP ps) []
      rw [HPL.out] at hfl
      rw [show (flatP ps).foldl ddp [] = nums from hnums] at hfd
      have hnu : U16s nums := fun x hx => flatP_u16 HOK.out x ((dd_mem _ x).1 (by rw [hnums]; exact hx))
      have HNU := Lib.hid (fun W a c (R : PairsAt W a k c ps) => nack_Numbers a0x0 a0x1 a k c ps W R (by omega) HOK.out)
      have HRN := Lib.hid (fun W a c (R : RefAt W a k c ps) => ref10_Numbers a k c ps W R (by omega) HOK.out)
      have HTO := Lib.hid (fun W a c (R : PairsAt W a k c ps) => law10_told a k c ps W R (by omega) HOK.out)
      rw [hnums] at HNU HRN
      obtain ⟨q, hq⟩ : ∃ q, nums.length = q := ⟨_, rfl⟩
      have HQ := Lib.hid hq
      rw [hq] at hfd HNU HRN
      simp at hfd
      have HIT := Lib.hid (fun W a c (S : SliceOf W a q c 1 (fun i => [.int .u16 (nums.getD i 0)])) => law01_Ints a q c (fun i => nums.getD i 0) W S (by omega) (fun i hi => by
        rw [List.getD_eq_getElem?_getD, List.getElem?_eq_getElem (by omega)]
        exact hnu _ (List.getElem_mem _)))
      rw [lst_getD2 nums q hq] at HIT
      have K4 := K3.below B K3.lt
      have P4 := P3.below B
      have B4 := below_then B03 B (Nat.le_refl _)
      clear hnums hnu hq k3
      go_upto_region 10 with fail
      clear j1
      have E4 := fun (gx : UWF (Facts wr (F10 wr.heap.size q k nums ps))) => (K4.below gx.holds.below K4.lt).cell
      simp at E4
      have hne := Facts.ne wr (F10 wr.heap.size q k nums ps)
      have hFL := F10_lasts wr.heap.size q k nums ps
      refine wp_region_free [(0, 1, some 1), (2, 0, some 2), (3, 2, some 5), (6, 0, some 6), (7, 0, some 7), (8, 1, none)] (Facts wr (F10 wr.heap.size q k nums ps)) (G10 q k) (fun z => if z = 7 then .bool true else if z = 5 then .slice none k 0 else .slice none q 0) (by kernel_rfl) (by kernel_rfl) ?_ ?_ ?_ ?_
      · intro z hz LL G W hC
        simp [moversI] at hz
        refine hC.quiet (fun v V => ?_)
        unfold F10
        split <;> first | trivial | omega
      · exact Facts.start _ _ _
      · intro z
        exact ⟨fun e => by subst e; exact ⟨_, _, rfl⟩, fun e => by subst e; exact ⟨_, _, rfl⟩, fun e => by subst e; exact ⟨_, _, rfl⟩, fun e => by subst e; exact ⟨_, _, rfl⟩, fun e => by subst e; rfl⟩
      · intro G hG
        obtain ⟨x1, y1, g1⟩ := (hG 1).a1 rfl
        obtain ⟨x2, y2, g2⟩ := (hG 2).a2 rfl
        obtain ⟨x5, y5, g5⟩ := (hG 5).a5 rfl
        obtain ⟨x6, y6, g6⟩ := (hG 6).a6 rfl
        have g7 := (hG 7).a7 rfl
        simp only [walkF, List.drop_zero, List.drop_succ_cons, List.take_succ_cons, List.take_zero, List.toList_toArray]; (repeat (go_big_quiet_step (fail))); refine wpQuiet_nil ?_
        refine ⟨_, _, _, _, _, _, rfl, .inl ⟨rfl, ?_, ?_⟩⟩
        · intro LL W hL hA hC
          refine ⟨?_⟩; go_simp; simp only [movesToUpon]
          refine (HNU.out W _ _ (P4.below hC.below)).mono ?_
          rintro e w' ⟨v', rfl, own', hb'⟩
          obtain ⟨xa, ya, rfl⟩ := own_any own'
          exact ⟨_, rfl, ⟨fun _ => ⟨_, _, rfl⟩, (fun e => by cases e), (fun e => by cases e), (fun e => by cases e), (fun e => by cases e)⟩, hC.add hFL hb' (own_down own' hC.below.size)⟩
        · intro K' hK'; dsimp only at hK'; rw [g1]; go_big_quiet_op; go_big_quiet_on; (repeat (go_big_quiet_step (fail))); refine wpQuiet_nil ?_
          refine ⟨_, _, _, _, _, _, rfl, .inl ⟨rfl, ?_, ?_⟩⟩
          · intro LL W hL hA hC
            have r1 : W.ownsRow wr.heap.size 28 1 (G 1) q (cellsK .u16 nums) := hC.fact 1 (hA 1 (by kernel_rfl))
            rw [g1] at r1
            obtain ⟨xa, ya, hv, SA⟩ := own_rowI r1 HQ.out
            injection hv with f1 f2 f3
            subst f1 f3
            refine ⟨?_⟩; go_simp; simp only [movesToUpon]
            refine (HIT.out W _ _ SA).mono ?_
            rintro e w' ⟨v', rfl, own', hb'⟩
            obtain ⟨xb, yb, rfl⟩ := own_any own'
            exact ⟨_, rfl, ⟨(fun e => by cases e), fun _ => ⟨_, _, rfl⟩, (fun e => by cases e), (fun e => by cases e), (fun e => by cases e)⟩, hC.add hFL hb' (own_down own' hC.below.size)⟩
          · intro K' hK'; dsimp only at hK'; rw [g2]; go_big_quiet_op; go_big_quiet_on; (repeat (go_big_quiet_step (fail))); refine wpQuiet_nil ?_
            refine ⟨_, _, _, _, _, _, rfl, .inl ⟨rfl, ?_, ?_⟩⟩
            · intro LL W hL hA hC
              refine ⟨?_⟩; go_simp; simp only [movesToUpon]
              refine (HTO.out W _ _ (P4.below hC.below)).mono ?_
              rintro e w' ⟨v', rfl, own', hb'⟩
              obtain ⟨xb, yb, rfl⟩ := own_any own'
              exact ⟨_, rfl, ⟨(fun e => by cases e), (fun e => by cases e), fun _ => ⟨_, _, rfl⟩, (fun e => by cases e), (fun e => by cases e)⟩, hC.add hFL hb' (own_down own' hC.below.size)⟩
            · intro K' hK'; dsimp only at hK'; rw [g5]; go_big_quiet_op; go_big_quiet_on; (repeat (go_big_quiet_step (fail))); refine wpQuiet_nil ?_
              refine ⟨_, _, _, _, _, _, rfl, .inl ⟨rfl, ?_, ?_⟩⟩
              · intro LL W hL hA hC
                have r5 : W.ownsRow wr.heap.size 40 2 (G 5) k (rowQ ps) := hC.fact 5 (hA 5 (by kernel_rfl))
                rw [g5] at r5
                obtain ⟨xa, ya, hv, R⟩ := RefAt.of_own r5 HPL.out
                injection hv with f1 f2 f3
                subst f1 f3
                refine ⟨?_⟩; go_simp; simp only [movesToUpon]
                refine (HRN.out W _ _ R).mono ?_
                rintro e w' ⟨v', rfl, own', hb'⟩
                obtain ⟨xb, yb, rfl⟩ := own_any own'
                exact ⟨_, rfl, ⟨(fun e => by cases e), (fun e => by cases e), (fun e => by cases e), fun _ => ⟨_, _, rfl⟩, (fun e => by cases e)⟩, hC.add hFL hb' (own_down own' hC.below.size)⟩
              · intro K' hK'; dsimp only at hK'; rw [g6]; go_big_quiet_op; go_big_quiet_on; (repeat (go_big_quiet_step (fail))); refine wpQuiet_nil ?_
                refine ⟨_, _, _, _, _, _, rfl, .inl ⟨rfl, ?_, ?_⟩⟩
                · intro LL W hL hA hC
                  have r2 : W.ownsRow wr.heap.size 3 1 (G 2) q (cellsK .i64 nums) := hC.fact 2 (hA 2 (by kernel_rfl))
                  have r6 : W.ownsRow wr.heap.size 3 1 (G 6) q (cellsK .i64 nums) := hC.fact 6 (hA 6 (by kernel_rfl))
                  rw [g2] at r2
                  rw [g6] at r6
                  obtain ⟨xa, ya, hv, SA⟩ := SliceOf.of_own r2 (fun i => .int .i64 (nums.getD i 0)) (fun i hi => cellsK_get .i64 nums i (by have := HQ.out; omega))
                  injection hv with f1 f2 f3
                  subst f1 f3
                  obtain ⟨xb, yb, hv, SB⟩ := SliceOf.of_own r6 (fun i => .int .i64 (nums.getD i 0)) (fun i hi => cellsK_get .i64 nums i (by have := HQ.out; omega))
                  injection hv with f1 f2 f3
                  subst f1 f3
                  refine ⟨?_⟩; go_simp; simp only [movesToUpon]
                  refine (law01_SameYes _ _ q _ _ (fun i => nums.getD i 0) W SA SB (by omega)).mono ?_
                  rintro e w' ⟨rfl, hb'⟩
                  exact ⟨_, rfl, ⟨(fun e => by cases e), (fun e => by cases e), (fun e => by cases e), (fun e => by cases e), fun _ => rfl⟩, hC.add hFL hb' trivial⟩
                · intro K' hK'; dsimp only at hK'; rw [g7]; go_big_quiet_op; go_big_quiet_on; (repeat (go_big_quiet_step (fail))); refine wpQuiet_nil ?_
                  intro LL w9 hL hC
                  have BE := below_then B4 hC.below (Nat.le_refl _)
                  clear hC hL hG g1 g2 g5 g6 g7 E4 hne
                  go_wp2_with fail
                  go_ret
                  exact ⟨rfl, BE⟩
end Go.Proofs.Ytmmoejnjajmnpaa
