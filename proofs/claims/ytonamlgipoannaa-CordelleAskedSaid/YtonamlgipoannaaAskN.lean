/- Package nack: Ask, and a nack's Numbers. No condition but the numbers' bounds. (Printed by gen_askn.py.) -/
import Derived.Test.YtonamlgipoannaaNackP
namespace Go.Proofs.Ytonamlgipoannaa
open Go.RowKit BigFrame
attribute [local go_sem ↓] Go.wp_at_zero Go.wp_at_succ

theorem wf_u16 {x : Int} (h : (Lit.int .u16 x).wf = true) : 0 ≤ x ∧ x ≤ 65535 := by
  simp [Lit.wf, IntKind.min, IntKind.max, IntKind.signed, IntKind.bits] at h
  omega
theorem lst_mem {e : Nat → Int} {n : Nat} {x : Int} : x ∈ lst e n ↔ ∃ i, i < n ∧ e i = x := by
  unfold lst
  simp [List.mem_map, List.mem_range]
theorem lst_getD (l : List Int) : lst (fun i => l.getD i 0) l.length = l := by
  unfold lst
  apply List.ext_getElem
  · simp
  · intro i h1 h2
    simp [h2]
/-- Each once, as they come first. -/
def ddp (acc : List Int) (x : Int) : List Int := if x ∈ acc then acc else acc ++ [x]
def dd (l : List Int) : List Int := l.foldl ddp []
theorem dst_dd (e : Nat → Int) : ∀ k, dst e k = dd (lst e k)
  | 0 => rfl
  | k + 1 => by
    unfold dd
    rw [lst_succ, List.foldl_append, show dst e (k + 1) = ddp (dst e k) (e k) from rfl, dst_dd e k]
    rfl
theorem dd_snoc (l : List Int) (x : Int) : dd (l ++ [x]) = ddp (dd l) x := by unfold dd; rw [List.foldl_append]; rfl
theorem foldd_nodup : ∀ (l acc : List Int), (acc ++ l).Nodup → l.foldl ddp acc = acc ++ l
  | [], acc, _ => by simp
  | x :: l, acc, h => by
    have hx : x ∉ acc := fun hm => by
      rw [List.nodup_append] at h
      exact h.2.2 x hm x List.mem_cons_self rfl
    rw [List.foldl_cons, show ddp acc x = acc ++ [x] from if_neg hx, foldd_nodup l (acc ++ [x]) (by simpa using h)]
    simp
theorem dd_nodup {l : List Int} (h : l.Nodup) : dd l = l := foldd_nodup l [] h
theorem ddp_len (acc : List Int) (x : Int) : (ddp acc x).length ≤ acc.length + 1 := by unfold ddp; split <;> simp
theorem foldd_len : ∀ (l acc : List Int), (l.foldl ddp acc).length ≤ acc.length + l.length
  | [], acc => by simp
  | x :: l, acc => by
    have := foldd_len l (ddp acc x)
    have := ddp_len acc x
    rw [List.foldl_cons, List.length_cons]
    omega
theorem foldd_mem : ∀ (l acc : List Int) (x : Int), x ∈ l.foldl ddp acc ↔ x ∈ acc ∨ x ∈ l
  | [], acc, x => by simp
  | y :: l, acc, x => by
    rw [List.foldl_cons, foldd_mem l]
    unfold ddp
    split
    · rename_i h
      constructor
      · rintro (h1 | h1)
        · exact .inl h1
        · exact .inr (List.mem_cons_of_mem _ h1)
      · rintro (h1 | h1)
        · exact .inl h1
        · rcases List.mem_cons.1 h1 with rfl | h1
          · exact .inl h
          · exact .inr h1
    · simp [or_assoc]
theorem dd_mem (l : List Int) (x : Int) : x ∈ dd l ↔ x ∈ l := by unfold dd; rw [foldd_mem]; simp
/-- All numbers of pairs, one pair behind the other. -/
def flatP (l : List (Int × Nat)) : List Int := l.flatMap fun x => numsB x.1 x.2 16
theorem flatP_snoc (l : List (Int × Nat)) (x : Int × Nat) : flatP (l ++ [x]) = flatP l ++ numsB x.1 x.2 16 := by simp [flatP]
theorem flatP_len (l : List (Int × Nat)) : (flatP l).length ≤ 17 * l.length := by
  have := cntP_le l l.length
  unfold cntP at this
  rwa [List.take_length] at this
def PairsOk (l : List (Int × Nat)) : Prop := ∀ x ∈ l, (0 ≤ x.1 ∧ x.1 ≤ 65535) ∧ x.2 < 65536
theorem flatP_u16 {l : List (Int × Nat)} (h : PairsOk l) : U16s (flatP l) := fun x hx => by
  obtain ⟨y, hy, hx⟩ := List.mem_flatMap.1 hx
  exact nums_u16 (h y hy).1 _ _ x hx
theorem lst_getD2 (l : List Int) (n : Nat) (h : l.length = n) : lst (fun i => l.getD i 0) n = l := by subst h; exact lst_getD l
theorem dst_list (l : List Int) (n : Nat) (h : l.length = n) : dst (fun i => l.getD i 0) n = dd l := by rw [dst_dd, lst_getD2 l n h]
/-- The document's pairs as cells. -/
theorem own_down {W : World} {B B' e z n : Nat} {v : Value} {xs : List Value} (h : W.ownsRow B e z v n xs) (hB : B' ≤ B) : W.ownsRow B' e z v n xs := by
  refine ⟨h.1, ?_⟩
  rcases h.2 with h | ⟨g', cap, cur, h, hb, rest⟩
  · exact .inl h
  · exact .inr ⟨g', cap, cur, h, Nat.le_trans hB hb, rest⟩
set_option maxRecDepth 8000 in
set_option maxHeartbeats 8000000 in
theorem nack_Numbers (fr ab : Int) (a : Option Addr) (n c : Nat) (l : List (Int × Nat)) (w : World) (P : PairsAt w a n c l) (hn : n ≤ 1000) (hok : PairsOk l) :
    Calls Try.prog 38 #[.agg #[.int .u32 fr, .int .u32 ab, .slice a n c]] w (OwnsRes w 90 (dd (flatP l)).length (cellsK .u16 (dd (flatP l)))) := by
  obtain ⟨i0, hi0, hz0, hz1, hz2⟩ := info_parts (show (Try.prog.info? 90).map (fun i => (i.zero, i.size, i.bytes)) = some (some (.int .u16 0), 1, 2) by kernel_rfl)
  have HL := Lib.hid P.1
  have HOK := Lib.hid hok
  have K1 := Blk.new w 86 #[.int .u32 fr, .int .u32 ab, .slice a n c]
  have B1 : Below w.heap.size w (w.alloc (.cells #[.int .u32 fr, .int .u32 ab, .slice a n c] 86)) := (Below.refl _ w).alloc (Nat.le_refl _) _
  clear hok
  go_enter Try.func38, Try.ntmps38
  go_upto_region 1 with fail
  generalize w.alloc (.cells #[.int .u32 fr, .int .u32 ab, .slice a n c] 86) = w1 at *
  have k1 := K1.cell
  simp at k1
  have P1 := P.below B1
  go_wp2_with fail
  go_loopw [3, 9] (fun x3 x9 wr => ∃ (k m : Nat), k ≤ n ∧ x9 = .int .i64 k ∧ m = (flatP (l.take k)).length ∧ (∃ ao co, x3 = .slice ao m co) ∧ wr.ownsRow w1.heap.size 90 1 x3 m (cellsK .u16 (flatP (l.take k))) ∧ Below w1.heap.size w1 wr ∧ Below w.heap.size w wr) (fun _ x9 _ => n - (intOf x9).toNat)
  case atStart => exact ⟨0, 0, by omega, rfl, rfl, ⟨_, _, rfl⟩, ⟨rfl, .inl ⟨rfl, rfl⟩⟩, Below.refl _ _, B1⟩
  case round =>
    obtain ⟨k, m, hk, rfl, hm, ⟨ao, co, rfl⟩, own, B, B0⟩ := hrel
    have hml := flatP_len (l.take k)
    rw [List.length_take, ← hm] at hml
    by_cases hlt : k < n
    · have hkl : k < l.length := by have := HL.out; omega
      obtain ⟨x, hx⟩ : ∃ x, l[k]? = some x := ⟨_, List.getElem?_eq_getElem hkl⟩
      obtain ⟨p, b⟩ := x
      obtain ⟨bb, off, rfl, hbb, hcell⟩ := P1.get (by omega)
      obtain ⟨d0, d1⟩ := hcell k _ hx
      have e0 := (B.cell (p := ⟨bb, off + k * 2, none⟩) hbb).trans d0
      have e1 := (B.cell (p := ⟨bb, off + k * 2 + 1, none⟩) hbb).trans d1
      obtain ⟨⟨p0, p1⟩, hb⟩ := HOK.out _ (List.mem_of_getElem? hx)
      simp only at e0 e1 p0 p1 hb
      have htk : flatP (l.take (k + 1)) = flatP (l.take k) ++ numsB p b 16 := by rw [List.take_add_one, hx]; exact flatP_snoc _ _
      have HTK := Lib.hid htk
      have HM := Lib.hid hm
      have i1 : (0 : Int) ≤ (k : Int) := by omega
      have i2 : (k : Int) < (n : Int) := by omega
      have wk : IntKind.i64.wrap ((k : Int) + 1) = ((k + 1 : Nat) : Int) := by rw [IntWalk.i64_in _ (by omega)]; omega
      have K4 := Blk.new wr 129 #[.int .u16 p, .int .u16 (b : Int)]
      have B4 : Below wr.heap.size wr (wr.alloc (.cells #[.int .u16 p, .int .u16 (b : Int)] 129)) := (Below.refl _ wr).alloc (Nat.le_refl _) _
      have B04 := below_then B B4 (Nat.le_refl _)
      have BB4 := below_then B0 B4 (Nat.le_refl _)
      have own4 := ownsRow_alloc own (.cells #[.int .u16 p, .int .u16 (b : Int)] 129)
      have HNU := Lib.hid (fun W => pair_Numbers p b ⟨p0, p1⟩ hb W)
      have hq := numsB_len p b 16
      obtain ⟨q, hqq⟩ : ∃ q, (numsB p b 16).length = q := ⟨_, rfl⟩
      rw [hqq] at HNU hq
      have HQ := Lib.hid hqq
      clear hx hcell d0 d1 hkl htk own hm hqq
      go_upto_region 5 with fail
      clear e0 e1
      obtain ⟨gp, hgp⟩ : ∃ gp, wr.heap.size = gp := ⟨_, rfl⟩
      rw [hgp] at K4 ⊢
      generalize wr.alloc (.cells #[.int .u16 p, .int .u16 (b : Int)] 129) = w4 at *
      have k4 := K4.cell
      simp at k4
      clear hgp B4
      go_wp2_with fail
      refine (HNU.out w4).mono ?_
      rintro e' w5 ⟨v5, rfl, own5, B5⟩
      obtain ⟨a5, c5, rfl⟩ := own_any own5
      have own4' := own_at2 own4 (w' := w5) (fun j hj => B5.block j (own4.lt j hj).2)
      have B15 := below_then B04 B5 (Nat.le_refl _)
      have BB5 := below_then BB4 B5 (Nat.le_refl _)
      have s5 := B15.size
      have hnews : 0 < q → ∃ a0, a5 = some a0 ∧ ∀ j u, (cellsK .u16 (numsB p b 16))[j]? = some u → w5.cell? (a0.add j) = some u := fun hq0 => by
        obtain ⟨g5, rfl, hg5, hc5, _, _⟩ := own_row_open own5 HQ.out hq0
        refine ⟨_, rfl, fun j u hu => ?_⟩
        have hj := (List.getElem?_eq_some_iff.1 hu).1
        rw [cellsK_len] at hj
        have hadd : (⟨g5, 0, none⟩ : Addr).add j = ⟨g5, j, none⟩ := by unfold Addr.add; split <;> simp_all
        rw [hadd, hc5 j _ (List.getElem?_eq_getElem hj), ← hu, cellsK_some .u16 _ j _ (List.getElem?_eq_getElem hj)]
      have hone : ∀ u ∈ cellsK .u16 (numsB p b 16), u.oneCell' = true := fun u hu => by
        obtain ⟨y, _, rfl⟩ := List.mem_map.1 hu
        rfl
      have hnl : (cellsK .u16 (numsB p b 16)).length = q * 1 := by rw [cellsK_len, HQ.out, Nat.mul_one]
      clear k4 own4 BB4 B04
      go_wp2_with (at_builtin; refine wpList_append_sl rfl _ _ 82 rfl w1.heap.size 90 i0 (.int .u16 0) 1 2 Try.underlying82 hi0 hz0 hz1 hz2 rfl (by decide) _ _ _ rfl own4' a5 q c5 (cellsK .u16 (numsB p b 16)) rfl hnl hnews hone (by rw [maxLen_eq]; omega) (by omega) s5 ?_; intro v6 w6 own6 hgrow6 hat6 hsh6; obtain ⟨a6, c6, rfl⟩ := hsh6)
      have B16 : Below w1.heap.size w1 w6 := B15.grown hgrow6 s5 (fun j hj => (own4'.lt j hj).1)
      go_roundw
      case rel =>
        refine ⟨k + 1, m + q, by omega, by go_num, by rw [HTK.out, List.length_append, HM.out, HQ.out], ⟨_, _, rfl⟩, ?_, B16, below_then B1 B16 (Nat.le_refl _)⟩
        rw [HTK.out]
        have e2 : cellsK .u16 (flatP (l.take k) ++ numsB p b 16) = cellsK .u16 (flatP (l.take k)) ++ cellsK .u16 (numsB p b 16) := by simp [cellsK]
        rw [e2]
        exact own6
      case measure => simp only [intOf]; omega
    · obtain rfl : k = n := by omega
      have j1 : ¬ (k : Int) < (k : Int) := by omega
      have hall : l.take k = l := by have := HL.out; rw [← this]; exact List.take_length
      rw [hall] at own hm
      obtain ⟨ao', co', hv, SO⟩ := own_rowI own hm.symm
      injection hv with f1 f2 f3
      subst f1 f3
      have hfu := flatP_u16 HOK.out
      have HD := Lib.hid (serial_Distinct ao m co (fun i => (flatP l).getD i 0) wr SO (by omega) (fun i hi => by
        rw [List.getD_eq_getElem?_getD, List.getElem?_eq_getElem (by omega)]
        exact hfu _ (List.getElem_mem _)))
      rw [dst_list (flatP l) m hm.symm] at HD
      clear SO hfu hm own
      go_wp2_with fail
      refine HD.out.mono ?_
      rintro e' w7 ⟨v7, rfl, own7, B7⟩
      obtain ⟨a7, c7, rfl⟩ := own_any own7
      go_wp2_with fail
      go_ret
      refine ⟨_, rfl, ⟨own7.1, ?_⟩, below_then B0 B7 (Nat.le_refl _)⟩
      have s0 := B0.size
      rcases own7.2 with h | ⟨g', cap, cur, h, hb, rest⟩
      · exact .inl h
      · exact .inr ⟨g', cap, cur, h, by omega, rest⟩
set_option maxRecDepth 8000 in
set_option maxHeartbeats 4000000 in
theorem nack_Ask (fr ab : Int) (a : Option Addr) (l c : Nat) (e : Nat → Int) (w : World) (S : SliceOf w a l c 1 (fun i => [.int .u16 (e i)])) (hl : l ≤ 10000) (he : ∀ i, i < l → 0 ≤ e i ∧ e i ≤ 65535) :
    Calls Try.prog 36 #[.int .u32 fr, .int .u32 ab, .slice a l c] w fun e' w' => ∃ v, e' = .returned (.agg #[.int .u32 fr, .int .u32 ab, v]) ∧ (∃ ao co, v = .slice ao (pairsL (dst e l)).length co) ∧ w'.ownsRow w.heap.size 129 2 v (pairsL (dst e l)).length (rowP (pairsL (dst e l))) ∧ Below w.heap.size w w' := by
  have K1 := Blk.new w 86 #[.int .u32 0, .int .u32 0, .slice none 0 0]
  have B1 : Below w.heap.size w (w.alloc (.cells #[.int .u32 0, .int .u32 0, .slice none 0 0] 86)) := (Below.refl _ w).alloc (Nat.le_refl _) _
  have HNP := Lib.hid (fun W S => nack_Pairs a l c e W S hl he)
  obtain ⟨ps, hps⟩ : ∃ m, pairsL (dst e l) = m := ⟨_, rfl⟩
  rw [hps] at HNP ⊢
  obtain ⟨m, hm⟩ : ∃ m, ps.length = m := ⟨_, rfl⟩
  rw [hm] at HNP ⊢
  clear hps hm
  go_enter Try.func36, Try.ntmps36
  go_upto_region 1 with fail
  generalize w.alloc (.cells #[.int .u32 0, .int .u32 0, .slice none 0 0] 86) = w1 at *
  go_wp2_with fail
  refine (HNP.out w1 (S.below B1)).mono ?_
  rintro e' w2 ⟨v, rfl, own, B2⟩
  obtain ⟨av, cv, rfl⟩ := own_any own
  have K2 := K1.below B2 K1.lt
  have B12 := below_then B1 B2 (Nat.le_refl _)
  have k2 := K2.cell
  have f2 := K2.frozen
  simp at k2
  have s1 := B1.size
  obtain ⟨w3, e3, K3, B3, hk3⟩ := three_set K2 rfl (.int .u32 fr) (.int .u32 ab) (.slice av m cv) w.heap.size (Nat.le_refl _)
  have own3 := own_at2 own (w' := w3) (fun j hj => hk3 j (by have := (own.lt j hj).1; have := K1.lt; omega))
  have k3 := K3.cell
  simp at k3
  go_wp2_with fail
  refine bodyPost_ret (v := .agg #[.int .u32 fr, .int .u32 ab, .slice av m cv]) ?_ rfl ⟨_, rfl, ⟨_, _, rfl⟩, own_down own3 s1, B12.trans B3⟩
  simp [results, Try.results36, go_sem, k3]
theorem dst_flat {e : Nat → Int} {n : Nat} (he : ∀ i, i < n → 0 ≤ e i ∧ e i ≤ 65535) (x : Int) : x ∈ dd (flatP (pairsL (dst e n))) ↔ ∃ i, i < n ∧ e i = x := by
  rw [dd_mem, show x ∈ flatP (pairsL (dst e n)) ↔ x ∈ dst e n from (pairsL_perm (dst_u16 he) (dst_nodup e n)).mem_iff, dst_mem]
end Go.Proofs.Ytonamlgipoannaa
