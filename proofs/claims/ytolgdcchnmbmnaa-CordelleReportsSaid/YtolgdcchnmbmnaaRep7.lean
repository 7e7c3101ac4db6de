/- Package piece: one, Split, of what was packed. No condition but the sizes. -/
import Derived.Test.YtolgdcchnmbmnaaRep4
import Derived.Test.YtolgdcchnmbmnaaPenZ
import Derived.Test.YtolgdcchnmbmnaaSub3
namespace Go.Proofs.Ytolgdcchnmbmnaa
open Go.RowKit BigFrame
attribute [local go_sem ↓] Go.wp_at_zero Go.wp_at_succ
attribute [local go_sem] i64_and31

theorem bytP_eq (n k : Int) (b : ByteArray) (r : List Int) : bytP ⟨n, k, b⟩ ++ r = beI ((128 + n) % 4294967296) 1 ++ (beI (k % 4294967296) 1 ++ (beI ((b.size / 4 : Nat) % 4294967296) 2 ++ (bytesI b ++ r))) := by
  unfold bytP encP rawAll beAll
  simp [List.range_succ]
set_option maxRecDepth 8000 in
set_option maxHeartbeats 8000000 in
theorem pc_one (g : Nat) (xn xk : Int) (xb : ByteArray) (r : List Int) (w : World) (I : InZ w g (bytP ⟨xn, xk, xb⟩ ++ r)) (hok : PcR.Ok ⟨xn, xk, xb⟩) (hr : r.length + xb.size ≤ 80000) :
    Calls Try.prog 21 #[.pointer (some ⟨g, 0, none⟩)] w fun e w' => e = .returned (.agg #[.int .i64 xn, .int .i64 xk, .string xb]) ∧ InZ w' g r ∧ OldBut w w' g := by
  rw [bytP_eq] at I
  obtain ⟨h1, h2, h3, h4, h5, h6⟩ := hok
  simp only at h1 h2 h3 h4 h5 h6
  obtain ⟨q, hq⟩ : ∃ q, 128 + xn = q := ⟨_, rfl⟩
  obtain ⟨sz, hsz⟩ : ∃ z, xb.size = z := ⟨_, rfl⟩
  rw [hsz] at I h5 h6 hr
  obtain ⟨m, hm⟩ : ∃ m : Int, ((sz / 4 : Nat) : Int) = m := ⟨_, rfl⟩
  rw [hq, hm, Int.emod_eq_of_lt (a := q) (by omega) (by omega), Int.emod_eq_of_lt (a := xk) (by omega) (by omega), Int.emod_eq_of_lt (a := m) (by omega) (by omega)] at I
  have q32 : q % 32 = xn := by omega
  have q5 : q / 32 = 4 := by omega
  have wm : IntKind.i64.wrap (4 * m) = (sz : Int) := by rw [IntWalk.i64_in _ (by omega)]; omega
  obtain ⟨L, hL⟩ : ∃ L, beI q 1 ++ (beI xk 1 ++ (beI m 2 ++ (bytesI xb ++ r))) = L := ⟨_, rfl⟩
  obtain ⟨ll, hll⟩ : ∃ ll, L.length = ll := ⟨_, rfl⟩
  have hl4 : (4 : Int) ≤ (ll : Int) := by rw [← hll, ← hL]; simp [beI_len]; omega
  have HLF := Lib.hid (fun W (I : InZ W g L) => penZ_Left g L W I)
  rw [hll] at HLF
  have R1 := Lib.hid (fun W (I : InZ W g L) => penZ_U8 g q (beI xk 1 ++ (beI m 2 ++ (bytesI xb ++ r))) W (by rw [hL]; exact I) (by omega) (by omega) (by simp [beI_len, bytesI_len, hsz]; omega))
  have R2 := Lib.hid (fun W (I : InZ W g _) => penZ_U8 g xk (beI m 2 ++ (bytesI xb ++ r)) W I (by omega) (by omega) (by simp [beI_len, bytesI_len, hsz]; omega))
  have R3 := Lib.hid (fun W (I : InZ W g _) => penZ_U16 g m (bytesI xb ++ r) W I (by omega) (by omega) (by simp [bytesI_len, hsz]; omega))
  have R4 := Lib.hid (fun W (I : InZ W g _) => penZ_Raw g xb sz r W I hsz (by omega))
  have HK := Lib.hid (fun W => pc_kind xk h3 h4 W)
  rw [hL] at I
  clear hq hsz hm hL hll h5
  have K0 := Blk.new w 25 #[.int .i64 0, .int .i64 0, .string ⟨#[]⟩]
  have B0 : Below w.heap.size w (w.alloc (.cells #[.int .i64 0, .int .i64 0, .string ⟨#[]⟩] 25)) := (Below.refl _ w).alloc (Nat.le_refl _) _
  have I0 := I.below B0
  have gl := I.lt
  have O0 : OldBut w (w.alloc (.cells #[.int .i64 0, .int .i64 0, .string ⟨#[]⟩] 25)) g := .of_below B0
  go_enter Try.func21, Try.ntmps21
  go_upto_region 1 with fail
  generalize w.alloc (.cells #[.int .i64 0, .int .i64 0, .string ⟨#[]⟩] 25) = w1 at *
  have hl1 := K0.lt
  clear B0 I
  go_wp2_with fail
  refine (HLF.out w1 I0).mono ?_
  rintro e w1' ⟨rfl, rfl⟩
  go_wp2_with fail
  refine (R1.out w1 I0).mono ?_
  rintro e w2 ⟨rfl, I2, O2⟩
  go_wp2_with fail
  refine (R2.out w2 I2).mono ?_
  rintro e w4 ⟨rfl, I4, O4⟩
  have O14 := O2.trans O4
  have K4 := O14.blk K0 (by omega)
  have O04 := O0.trans O14
  have s4 := O14.below.size
  have Ka := Blk.new w4 25 #[.int .i64 xn, .int .i64 xk, .string ⟨#[]⟩]
  have Ba : Below w4.heap.size w4 (w4.alloc (.cells #[.int .i64 xn, .int .i64 xk, .string ⟨#[]⟩] 25)) := (Below.refl _ w4).alloc (Nat.le_refl _) _
  have I5 := I4.below Ba
  have K5 := K4.below Ba K4.lt
  have O05 := O04.trans (OldBut.of_below (g := g) Ba)
  have n3g : w4.heap.size ≠ g := by have := I4.lt; omega
  have n3w : w4.heap.size ≠ w.heap.size := by omega
  have n3l : w.heap.size ≤ w4.heap.size := by omega
  clear I0 O0 I2 O2 O4 I4 O14 K4 O04 Ba K0
  go_upto_region 6 with fail
  obtain ⟨ga, hga⟩ : ∃ ga, w4.heap.size = ga := ⟨_, rfl⟩
  rw [hga] at Ka n3g n3w n3l ⊢
  generalize w4.alloc (.cells #[.int .i64 xn, .int .i64 xk, .string ⟨#[]⟩] 25) = w5 at *
  clear hga
  go_wp2_with fail
  refine (R3.out w5 I5).mono ?_
  rintro e w6 ⟨rfl, I6, O6⟩
  have Kb := O6.blk Ka n3g
  have K6 := O6.blk K5 (by omega)
  have O06 := O05.trans O6
  clear I5 O6 Ka K5 O05
  have cb := Kb.cell
  simp at cb
  go_wp2_with fail
  refine (HK.out w6).mono ?_
  rintro e w6' ⟨rfl, rfl⟩
  go_wp2_with fail
  refine (R4.out w6 I6).mono ?_
  rintro e w7 ⟨rfl, I7, O7⟩
  have Kc := O7.blk Kb n3g
  have K7 := O7.blk K6 (by omega)
  have O07 := O06.trans O7
  clear I6 O7 Kb K6 O06 cb
  have cc := Kc.cell
  have fc := Kc.frozen
  simp at cc
  have Kd := Kc.set_ 2 (.string xb)
  simp at Kd
  have hk8 : ∀ k, k ≠ ga → (w7.setCell ⟨ga, 2, none⟩ (.string xb)).heap[k]? = w7.heap[k]? := fun k hk => Below.heap_setCell _ ⟨ga, 2, none⟩ _ k hk
  have B8 : Below 0 w7 (w7.setCell ⟨ga, 2, none⟩ (.string xb)) := (Below.refl _ _).setCell (Nat.zero_le _) _
  have O08 := O07.new_ hk8 n3l B8
  have I8 := I7.at_ (hk8 g (Ne.symm n3g))
  have K8 : Blk (w7.setCell ⟨ga, 2, none⟩ (.string xb)) w.heap.size 25 _ := (hk8 _ (Ne.symm n3w)).trans K7
  clear I7 O07 K7 hk8 B8
  go_upto_region 12 with fail
  clear cc fc Kc
  generalize w7.setCell ⟨ga, 2, none⟩ (.string xb) = w8 at *
  have cd := Kd.cell
  have cw := K8.cell
  have fw := K8.frozen
  simp at cd cw
  obtain ⟨w9, e9, K9, B9, hk9⟩ := three_set K8 rfl (.int .i64 xn) (.int .i64 xk) (.string xb) w.heap.size (Nat.le_refl _)
  have c9 := K9.cell
  simp at c9
  have O09 := O08.new_ hk9 (Nat.le_refl _) (B9.mono (Nat.zero_le _))
  have I9 := I8.at_ (hk9 g (by omega))
  go_wp2_with fail
  refine bodyPost_ret (v := .agg #[.int .i64 xn, .int .i64 xk, .string xb]) ?_ rfl ⟨rfl, I9, O09⟩
  simp [results, Try.results21, go_sem, c9]
def lenV : Value → Nat
  | .slice _ n _ => n
  | _ => 0
theorem bytP_len (x : PcR) : 4 ≤ (bytP x).length := by
  unfold bytP encP
  simp [beAll_len]
  omega
theorem bytP_size (x : PcR) : x.b.size ≤ (bytP x).length := by
  unfold bytP encP rawAll
  simp [beAll_len, bytesI_len]
  omega
theorem info_pc : ∃ i, Try.prog.info? 25 = some i ∧ i.zero = some (.agg #[.int .i64 0, .int .i64 0, .string ByteArray.empty]) ∧ i.size = 3 ∧ i.bytes = 32 := by
  have h : (Try.prog.info? 25).map (fun i => (i.zero, i.size, i.bytes)) = some (some (.agg #[.int .i64 0, .int .i64 0, .string ByteArray.empty]), 3, 32) := by kernel_rfl
  obtain ⟨i, hi, he⟩ := Option.map_eq_some_iff.1 h
  simp only [Prod.mk.injEq] at he
  exact ⟨i, hi, he.1, he.2.1, he.2.2⟩
set_option maxRecDepth 8000 in
set_option maxHeartbeats 8000000 in
theorem pc_Split (s : ByteArray) (l : List PcR) (n : Nat) (hn : l.length = n) (hs : bytesI s = l.flatMap bytP) (hok : ∀ x ∈ l, x.Ok) (htot : (l.flatMap bytP).length ≤ 70000) (hn1 : n ≤ 1000) (w : World) :
    Calls Try.prog 7 #[.string s] w fun e w' => ∃ a c, e = .returned (.tuple #[.slice a n c, .int .i64 0]) ∧ w'.ownsRow w.heap.size 25 3 (.slice a n c) n (rowG PcR.cells l) ∧ Below w.heap.size w w' := by
  obtain ⟨i0, hi0, hz0, hz1, hz2⟩ := info_pc
  have HOF := Lib.hid (fun W => penZ_Of s _ hs W)
  have HN := Lib.hid hn
  have HOK := Lib.hid hok
  have HT := Lib.hid htot
  clear hn hs hok htot
  go_enter Try.func7, Try.ntmps7
  go_wp2_with fail
  refine (HOF.out w).mono ?_
  rintro e w2 ⟨g, rfl, hg, I2, B2⟩
  clear HOF
  go_wp2_with fail
  go_loopw [5] (fun s5 wr => ∃ (k : Nat) (av : Option Addr) (cv : Nat), k ≤ n ∧ s5 = .slice av k cv ∧ InZ wr g ((l.drop k).flatMap bytP) ∧ wr.ownsRow w.heap.size 25 3 (.slice av k cv) k (rowG PcR.cells (l.take k)) ∧ Below w.heap.size w wr) (fun s5 _ => n - lenV s5)
  case atStart => exact ⟨0, none, 0, by omega, rfl, by simpa using I2, ⟨rfl, .inl ⟨rfl, rfl⟩⟩, B2⟩
  case round =>
    clear I2 B2
    obtain ⟨k, av, cv, hk, rfl, I, own, B⟩ := hrel
    by_cases hlt : k < n
    · have hkl : k < l.length := by have := HN.out; omega
      obtain ⟨x, hx⟩ : ∃ x, l[k]? = some x := ⟨_, List.getElem?_eq_getElem hkl⟩
      have hox := HOK.out x (List.mem_of_getElem? hx)
      have hdr : l.drop k = x :: l.drop (k + 1) := by
        have h2 := (List.getElem?_eq_some_iff.1 hx).2
        rw [List.drop_eq_getElem_cons hkl, h2]
      have hrw : Hid (rowG PcR.cells (l.take (k + 1)) = rowG PcR.cells (l.take k) ++ x.cells) := Lib.hid (by rw [List.take_add_one, hx, rowG_append]; simp [rowG])
      have htk : ((l.drop k).flatMap bytP).length ≤ 70000 := by
        have h := HT.out
        rw [← List.take_append_drop k l, List.flatMap_append, List.length_append] at h
        omega
      rw [hdr, List.flatMap_cons] at I htk
      obtain ⟨r, hr⟩ : ∃ r, (l.drop (k + 1)).flatMap bytP = r := ⟨_, rfl⟩
      rw [hr] at I htk
      have HR := Lib.hid hr
      have hxl := bytP_len x
      have hxs := bytP_size x
      obtain ⟨L, hL⟩ : ∃ L, bytP x ++ r = L := ⟨_, rfl⟩
      obtain ⟨ll, hll⟩ : ∃ ll, L.length = ll := ⟨_, rfl⟩
      have hl0 : (0 : Int) < (ll : Int) := by rw [← hll, ← hL, List.length_append]; omega
      rw [List.length_append] at htk
      obtain ⟨xn, xk, xb⟩ := x
      simp only at hxs
      have HP := Lib.hid (fun W (I : InZ W g L) => pc_one g xn xk xb r W (by rw [hL]; exact I) hox (by omega))
      have HLF := Lib.hid (penZ_Left g L wr (by rw [← hL]; exact I))
      rw [hll] at HLF
      rw [hL] at I
      have no_g : (Value.slice av k cv).ownBlock ≠ some g := by obtain ⟨s9, _, I9⟩ := I; exact own_ne_blk own I9.blk (by decide)
      have sB := B.size
      clear hx hdr hr hxl hxs hL hll hox htk hkl
      go_wp2_with fail
      refine HLF.out.mono ?_
      rintro e' w' ⟨rfl, rfl⟩
      go_wp2_with fail
      refine (HP.out wr I).mono ?_
      rintro e w4 ⟨rfl, I4, O4⟩
      have s4 := O4.below.size
      have own4 := own_at own (w' := w4) (fun j hj => O4.keep j (own.lt j hj).2 (fun e => no_g (by rw [hj, e])))
      have B4 : Below w.heap.size w w4 := B.trans (O4.down sB hg)
      have kb := Blk.new w4 25 #[.int .i64 xn, .int .i64 xk, .string xb]
      have hnew := World.news_of_block kb
      have Bb : Below w4.heap.size w4 (w4.alloc (.cells #[.int .i64 xn, .int .i64 xk, .string xb] 25)) := (Below.refl _ _).alloc (Nat.le_refl _) _
      have own5 := own_at own4 (w' := w4.alloc (.cells #[.int .i64 xn, .int .i64 xk, .string xb] 25)) (fun j hj => Bb.block j (own4.lt j hj).2)
      have I5 := I4.below Bb
      have HI5 := Lib.hid I5
      have no_g5 : (Value.slice av k cv).ownBlock ≠ some g := no_g
      have B5 := below_then B4 Bb (Nat.le_refl _)
      have hgl5 := I5.lt
      clear HP HLF I I4 O4 own own4 B4 kb Bb I5 B
      go_wp2_with (at_builtin; refine wpList_append_lies _ rfl _ _ 33 rfl w.heap.size 25 i0 (.agg #[.int .i64 0, .int .i64 0, .string ByteArray.empty]) 3 32 Try.underlying33 hi0 hz0 hz1 hz2 rfl (by decide) _ _ _ rfl own5 ⟨w4.heap.size, 0, none⟩ 1 1 [.int .i64 xn, .int .i64 xk, .string xb] rfl rfl hnew (by simp [Value.oneCell']) (by omega) (by rw [maxLen_eq]; omega) (by omega) (by simp; omega) _ rfl ?_; intro g6 cap6 w6 own6 hgrow hat hlt6)
      have I6 : InZ w6 g r := HI5.out.at_ (hgrow.block g hgl5 (fun e => no_g5 e.symm))
      have B6 := B5.grown hgrow (by simp; omega) (fun j hj => (own5.lt j hj).1)
      go_roundw
      case rel => exact ⟨k + 1, _, _, by omega, rfl, by rw [HR.out]; exact I6, by rw [hrw.out]; exact own6, B6⟩
      case measure => simp only [lenV]; omega
    · obtain rfl : k = n := by omega
      have hall : l.take k = l := by have := HN.out; rw [← this]; exact List.take_length
      have hnil : l.drop k = [] := by have := HN.out; rw [← this]; exact List.drop_length
      rw [hall] at own
      rw [hnil] at I
      have I0 : InZ wr g [] := I
      have HLF := Lib.hid (penZ_Left g [] wr I0)
      have HER := Lib.hid (penZ_Err g [] wr I0)
      clear hall hnil I
      go_wp2_with fail
      refine HLF.out.mono ?_
      rintro e' w' ⟨rfl, rfl⟩
      go_wp2_with fail
      refine HER.out.mono ?_
      rintro e' w' ⟨rfl, rfl⟩
      go_wp2_with fail
      refine bodyPost_ret (v := .tuple #[.slice av k cv, .int .i64 0]) ?_ rfl ⟨av, cv, rfl, own, B⟩
      simp [results, Try.results7, go_sem]
end Go.Proofs.Ytolgdcchnmbmnaa
