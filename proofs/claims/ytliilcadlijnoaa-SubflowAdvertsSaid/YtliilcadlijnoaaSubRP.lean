/- The document's piece of adverts; what was written is read again. No condition but how many. (Printed by gen_subad.py.) -/
import Derived.Test.YtliilcadlijnoaaSubflowApart
import Derived.Laws.Concat
namespace Go.Proofs.Ytliilcadlijnoaa
open Go.RowKit BigFrame
attribute [local go_sem ↓] Go.wp_at_zero Go.wp_at_succ

/-- Parts that were written are read again. -/
theorem decs_flat {α : Type} {s : Nat} {dec : List Int → α} {byt : α → List Int} {may : α → Bool} {path : α → Int} (hpos : 0 < s) (hlen : ∀ x, (byt x).length = s) (hback : ∀ x r, may x = true → dec (byt x ++ r) = x) (hmax : ∀ x, may x = true → path x ≤ 15) :
    ∀ (l : List α) (last : Int) (k : Nat), (okG may path last l).isSome = true → 15 ≤ last + k → decs s dec k (l.flatMap byt) = l
  | [], last, k, _, _ => decs_none (by simpa using hpos)
  | x :: l, last, k, h, hk => by
    unfold okG at h
    rw [List.foldl_cons] at h
    have hx : may x = true ∧ last < path x := by
      by_cases h2 : may x = true ∧ last < path x
      · exact h2
      · have : okS may path (some last) x = none := by unfold okS; simp [h2]
        rw [this, okS_none] at h
        cases h
    have he : okS may path (some last) x = some (path x) := by unfold okS; simp [hx]
    rw [he] at h
    have h15 := hmax x hx.1
    obtain ⟨k', rfl⟩ : ∃ k', k = k' + 1 := ⟨k - 1, by omega⟩
    rw [List.flatMap_cons]
    show (if s ≤ (byt x ++ l.flatMap byt).length then _ else _) = _
    rw [if_pos (by rw [List.length_append, hlen]; omega), hback x _ hx.1]
    have hd : (byt x ++ l.flatMap byt).drop s = l.flatMap byt := by rw [← hlen x, List.drop_left]
    rw [hd, decs_flat hpos hlen hback hmax l (path x) k' h (by omega)]
theorem decA_byt (x : AdR) (r : List Int) (h : AdR.may x = true) : decA (bytA x ++ r) = x := by
  unfold AdR.may at h
  simp only [decide_eq_true_eq] at h
  obtain ⟨h1, h2, h3, h4⟩ := h
  rw [bytA_eq x (by omega)]
  obtain ⟨p, u, q⟩ := x
  simp only at h1 h2 h3 h4
  unfold decA n2
  simp
  omega
theorem pieceA_back {src : Int} {l : List AdR} {b : List Int} (hs : 0 ≤ src ∧ src < 4294967296) (h : pieceA src l = some b) : src4 b = src ∧ decs 4 decA 15 (b.drop 4) = l ∧ b.length ≤ 10000 ∧ Bytes b ∧ 4 ≤ b.length := by
  have hb := pieceA_bytes src l b h
  unfold pieceA bodyA at h
  split at h
  · rename_i hok
    injection h with h
    have hd : b.drop 4 = l.flatMap bytA := by rw [← h, List.drop_left' (beI_len _ _)]
    have hdec : decs 4 decA 15 (l.flatMap bytA) = l := decs_flat (by decide) bytA_len decA_byt (fun x hx => by unfold AdR.may at hx; simp only [decide_eq_true_eq] at hx; omega) l 0 15 hok (by decide)
    have hl : l.length ≤ 15 := by rw [← hdec]; exact decs_len _ _
    have hbl : b.length = 4 + l.length * 4 := by rw [← h, List.length_append, beI_len, flat_len bytA 4 bytA_len]
    refine ⟨?_, by rw [hd, hdec], by omega, hb, by omega⟩
    unfold src4
    rw [if_pos (by omega), ← h, beI_four]
    unfold n4
    simp
    omega
  · cases h
set_option maxRecDepth 8000 in
set_option maxHeartbeats 8000000 in
theorem ref11_Piece (src : Int) (hs : 0 ≤ src ∧ src < 4294967296) (a : Option Addr) (n c : Nat) (l : List AdR) (w : World) (A : AdAt w a n c l) (hn : n ≤ 1000) :
    Calls Try.prog 8 #[.int .i64 src, .slice a n c] w fun e w' => e = .returned (pcV 2 (pieceA src l)) ∧ Below w.heap.size w w' := by
  have HL := Lib.hid A.len
  have SA : SliceOf w a n c 3 (fun i => [.int .i64 (l.getD i zAd).p, .bool (l.getD i zAd).u, .int .i64 (l.getD i zAd).r]) := A.row
  have K1 := Blk.new w 35 #[.int .i64 0, .int .i64 0, .string ⟨#[]⟩]
  have B1 : Below w.heap.size w (w.alloc (.cells #[.int .i64 0, .int .i64 0, .string ⟨#[]⟩] 35)) := (Below.refl _ w).alloc (Nat.le_refl _) _
  have HP1 := Lib.hid (fun W => ref03_Put src 4 W hs (by decide))
  obtain ⟨s1, hs1⟩ : ∃ z, strOfNums (beI src 4) = z := ⟨_, rfl⟩
  rw [hs1] at HP1
  have HS1 := Lib.hid hs1
  clear hs1
  go_enter Try.func8, Try.ntmps8
  go_upto_region 1 with fail
  generalize w.alloc (.cells #[.int .i64 0, .int .i64 0, .string ⟨#[]⟩] 35) = w1 at *
  go_wp2_with fail
  refine (HP1.out _).mono ?_
  rintro e w2 ⟨rfl, B2⟩
  have K2 := K1.below B2 K1.lt
  have B02 := below_then B1 B2 (Nat.le_refl _)
  clear K1 B1 B2
  go_wp2_with fail
  go_loopw [5, 6, 14] (fun x5 x6 x14 wr => ∃ (k : Nat) (z : ByteArray) (last : Int), k ≤ n ∧ x14 = .int .i64 k ∧ x5 = .string z ∧ x6 = .int .i64 last ∧ okF AdR.may AdR.p (l.take k) = some last ∧ 0 ≤ last ∧ z = strOfNums (beI src 4 ++ (l.take k).flatMap bytA) ∧ Blk wr w.heap.size 35 #[.int .i64 0, .int .i64 0, .string ⟨#[]⟩] ∧ Below w.heap.size w wr) (fun _ _ x14 _ => n - (intOf x14).toNat)
  case atStart => exact ⟨0, s1, 0, by omega, rfl, rfl, rfl, rfl, Int.le_refl _, by simpa using HS1.out.symm, K2, B02⟩
  case round =>
    clear K2 B02
    obtain ⟨k, z, last, hk, rfl, rfl, rfl, hF, hl0, hz, K, B⟩ := hrel
    have HZ := Lib.hid hz
    have HF := Lib.hid hF
    clear hz hF
    by_cases hlt : k < n
    · obtain ⟨b1, o1, rfl, l1, hc1⟩ := SA.at3y (by omega)
      have hkl : k < l.length := by have := HL.out; omega
      obtain ⟨x, hx⟩ : ∃ x, l[k]? = some x := ⟨_, List.getElem?_eq_getElem hkl⟩
      have hd := hc1 k hlt
      rw [getD_of hx] at hd
      have HSN := Lib.hid (okF_snoc AdR.may AdR.p l k _ hx)
      have HFS := Lib.hid (flat_snoc bytA l k _ hx)
      have hzl : z.size ≤ 10000 := by rw [HZ.out, strOfNums_size, List.length_append, beI_len, flat_len bytA 4 bytA_len, List.length_take]; omega
      obtain ⟨p, uf, r⟩ := x
      simp only at hd
      obtain ⟨d0, d1, d2⟩ := hd
      have D0 := (B.cell (p := ⟨b1, o1 + k * 3, none⟩) l1).trans d0
      have D1 := (B.cell (p := ⟨b1, o1 + k * 3 + 1, none⟩) l1).trans d1
      have D2 := (B.cell (p := ⟨b1, o1 + k * 3 + 2, none⟩) l1).trans d2
      have p0 : (0 : Int) ≤ (k : Int) := by omega
      have p1 : (k : Int) < (n : Int) := by omega
      have wk : IntKind.i64.wrap ((k : Int) + 1) = ((k + 1 : Nat) : Int) := by rw [IntWalk.i64_in _ (by omega)]; omega
      have Ka := Blk.new wr 30 #[.int .i64 p, .bool uf, .int .i64 r]
      have Ba : Below wr.heap.size wr (wr.alloc (.cells #[.int .i64 p, .bool uf, .int .i64 r] 30)) := (Below.refl _ wr).alloc (Nat.le_refl _) _
      have K3 := K.below Ba K.lt
      have BW := below_then B Ba (Nat.le_refl _)
      clear hx hc1 d0 d1 d2 hkl K
      go_upto_region 6 with fail
      clear D0 D1 D2
      generalize wr.alloc (.cells #[.int .i64 p, .bool uf, .int .i64 r] 30) = wa at *
      have ca := Ka.cell
      have c8 := K3.cell
      have f8 := K3.frozen
      simp at ca c8
      have hBAD : ¬ (AdR.may ⟨p, uf, r⟩ = true ∧ last < p) → pieceA src l = none := fun hb => by
        have hno : okF AdR.may AdR.p l = none := okF_none (k := k + 1) (by rw [HSN.out, HF.out]; unfold okS; simp [hb])
        unfold pieceA bodyA
        rw [hno]; rfl
      have HBAD := Lib.hid hBAD
      have hMAY : AdR.may ⟨p, uf, r⟩ = decide (1 ≤ p ∧ p ≤ 15 ∧ 0 ≤ r ∧ r ≤ 65535) := rfl
      have HMAY := Lib.hid hMAY
      clear hBAD hMAY
      by_cases hb3 : p ≤ last
      · obtain ⟨wS, eS, KS, BS, hkS⟩ := three_set K3 rfl (.int .i64 0) (.int .i64 0) (.string ⟨#[]⟩) w.heap.size (Nat.le_refl _)
        have cS := KS.cell
        simp at cS
        have BE := BW.trans BS
        have HNO := Lib.hid (HBAD.out (by rw [HMAY.out]; intro h; simp at h; omega))
        go_wp2_with fail
        refine bodyPost_ret (v := .agg #[.int .i64 0, .int .i64 0, .string ⟨#[]⟩]) ?_ rfl ⟨by rw [HNO.out]; rfl, BE⟩
        simp [results, Try.results8, go_sem, cS]
      · skip
        by_cases hb4 : 15 < p
        · obtain ⟨wS, eS, KS, BS, hkS⟩ := three_set K3 rfl (.int .i64 0) (.int .i64 0) (.string ⟨#[]⟩) w.heap.size (Nat.le_refl _)
          have cS := KS.cell
          simp at cS
          have BE := BW.trans BS
          have HNO := Lib.hid (HBAD.out (by rw [HMAY.out]; intro h; simp at h; omega))
          go_wp2_with fail
          refine bodyPost_ret (v := .agg #[.int .i64 0, .int .i64 0, .string ⟨#[]⟩]) ?_ rfl ⟨by rw [HNO.out]; rfl, BE⟩
          simp [results, Try.results8, go_sem, cS]
        · skip
          by_cases hb5 : r < 0
          · obtain ⟨wS, eS, KS, BS, hkS⟩ := three_set K3 rfl (.int .i64 0) (.int .i64 0) (.string ⟨#[]⟩) w.heap.size (Nat.le_refl _)
            have cS := KS.cell
            simp at cS
            have BE := BW.trans BS
            have HNO := Lib.hid (HBAD.out (by rw [HMAY.out]; intro h; simp at h; omega))
            go_wp2_with fail
            refine bodyPost_ret (v := .agg #[.int .i64 0, .int .i64 0, .string ⟨#[]⟩]) ?_ rfl ⟨by rw [HNO.out]; rfl, BE⟩
            simp [results, Try.results8, go_sem, cS]
          · skip
            by_cases hb6 : 65535 < r
            · obtain ⟨wS, eS, KS, BS, hkS⟩ := three_set K3 rfl (.int .i64 0) (.int .i64 0) (.string ⟨#[]⟩) w.heap.size (Nat.le_refl _)
              have cS := KS.cell
              simp at cS
              have BE := BW.trans BS
              have HNO := Lib.hid (HBAD.out (by rw [HMAY.out]; intro h; simp at h; omega))
              go_wp2_with fail
              refine bodyPost_ret (v := .agg #[.int .i64 0, .int .i64 0, .string ⟨#[]⟩]) ?_ rfl ⟨by rw [HNO.out]; rfl, BE⟩
              simp [results, Try.results8, go_sem, cS]
            · skip
              have hpb : 1 ≤ p ∧ p ≤ 15 := by omega
              have hm : AdR.may ⟨p, uf, r⟩ = true := by rw [HMAY.out]; simp; omega
              obtain ⟨t1, ht1⟩ : ∃ z, strOfNums (beI p 1) = z := ⟨_, rfl⟩
              obtain ⟨t2, ht2⟩ : ∃ z, strOfNums (beI r 2) = z := ⟨_, rfl⟩
              have HQ1 := Lib.hid (fun W => ref03_Put p 1 W (by omega) (by decide))
              have HQ2 := Lib.hid (fun W => ref03_Put r 2 W (by omega) (by decide))
              rw [ht1] at HQ1
              rw [ht2] at HQ2
              have z1' : t1.size ≤ 1 := by rw [← ht1, strOfNums_size, beI_len]; exact Nat.le_refl _
              have z2' : t2.size ≤ 2 := by rw [← ht2, strOfNums_size, beI_len]; exact Nat.le_refl _
              have HNF := Lib.hid (show okF AdR.may AdR.p (l.take (k + 1)) = some p by rw [HSN.out, HF.out]; unfold okS; simp [hm]; omega)
              have hby : bytA ⟨p, uf, r⟩ = beI p 1 ++ ([if uf then 1 else 0] ++ beI r 2) := by
                rw [bytA_eq _ (by show 0 ≤ p ∧ p ≤ 255; omega)]
                have e1 := be1 p (by omega)
                have e2 : p % 4294967296 = p := by omega
                rw [e2] at e1
                rw [e1, beI_two]
                have e3 : r % 4294967296 = r := by omega
                simp [e3]
              have HBY := Lib.hid hby
              have HT1 := Lib.hid ht1
              have HT2 := Lib.hid ht2
              clear hm hby ht1 ht2 c8 f8
              cases uf
              · obtain ⟨us, hus⟩ : ∃ u : ByteArray, (⟨#[0]⟩ : ByteArray) = u := ⟨_, rfl⟩
                have hus1 : us.size ≤ 1 := by rw [← hus]; exact Nat.le_refl _
                have HT := Lib.hid (show z ++ ((t1 ++ us) ++ t2) = strOfNums (beI src 4 ++ (l.take (k + 1)).flatMap bytA) by
                  rw [HFS.out, HBY.out, HZ.out, ← HT1.out, ← HT2.out, ← hus]
                  have e1 : (⟨#[0]⟩ : ByteArray) = strOfNums [0] := rfl
                  rw [e1, str_app2, str_app2, str_app2]
                  simp)
                have y12 : ¬ maxLen < t1.size + us.size := by rw [maxLen_eq]; omega
                have y13 : t1.size + us.size ≤ maxLen := by rw [maxLen_eq]; omega
                have y22 : ¬ maxLen < t1.size + us.size + t2.size := by rw [maxLen_eq]; omega
                have y23 : t1.size + us.size + t2.size ≤ maxLen := by rw [maxLen_eq]; omega
                have y32 : ¬ maxLen < z.size + (t1.size + us.size + t2.size) := by rw [maxLen_eq]; omega
                have y33 : z.size + (t1.size + us.size + t2.size) ≤ maxLen := by rw [maxLen_eq]; omega
                go_upto_region 12 with fail
                rw [hus]
                clear hus
                have E0 := fun (gx : Ext wa) => gx.cell (Ka.cell 0) Ka.lt
                have E2 := fun (gx : Ext wa) => gx.cell (Ka.cell 2) Ka.lt
                simp at E0 E2
                refine wp_region_ext (by kernel_rfl) (by kernel_rfl) ?_; (repeat (go_big_quiet_step ((first | (go_at_call 22; with_reducible exact calls_ext _ (HQ1.out _)) | (go_at_call 22; with_reducible exact calls_ext _ (HQ2.out _)))))); refine wpQuiet_nil ?_; rintro _ ⟨gq, rfl⟩
                have BX := gq.below
                generalize gq.world = w5 at *
                have K6 := K3.below BX K3.lt
                have BE := below_then BW BX (Nat.le_refl _)
                clear E0 E2 ca Ka K3
                go_wp2_with fail
                go_roundw
                case rel => exact ⟨k + 1, _, p, by omega, by go_num, rfl, rfl, HNF.out, by omega, HT.out, K6, BE⟩
                case measure => simp only [intOf]; omega
              · obtain ⟨us, hus⟩ : ∃ u : ByteArray, (⟨#[1]⟩ : ByteArray) = u := ⟨_, rfl⟩
                have hus1 : us.size ≤ 1 := by rw [← hus]; exact Nat.le_refl _
                have HT := Lib.hid (show z ++ ((t1 ++ us) ++ t2) = strOfNums (beI src 4 ++ (l.take (k + 1)).flatMap bytA) by
                  rw [HFS.out, HBY.out, HZ.out, ← HT1.out, ← HT2.out, ← hus]
                  have e1 : (⟨#[1]⟩ : ByteArray) = strOfNums [1] := rfl
                  rw [e1, str_app2, str_app2, str_app2]
                  simp)
                have y12 : ¬ maxLen < t1.size + us.size := by rw [maxLen_eq]; omega
                have y13 : t1.size + us.size ≤ maxLen := by rw [maxLen_eq]; omega
                have y22 : ¬ maxLen < t1.size + us.size + t2.size := by rw [maxLen_eq]; omega
                have y23 : t1.size + us.size + t2.size ≤ maxLen := by rw [maxLen_eq]; omega
                have y32 : ¬ maxLen < z.size + (t1.size + us.size + t2.size) := by rw [maxLen_eq]; omega
                have y33 : z.size + (t1.size + us.size + t2.size) ≤ maxLen := by rw [maxLen_eq]; omega
                go_upto_region 12 with fail
                rw [hus]
                clear hus
                have E0 := fun (gx : Ext wa) => gx.cell (Ka.cell 0) Ka.lt
                have E2 := fun (gx : Ext wa) => gx.cell (Ka.cell 2) Ka.lt
                simp at E0 E2
                refine wp_region_ext (by kernel_rfl) (by kernel_rfl) ?_; (repeat (go_big_quiet_step ((first | (go_at_call 22; with_reducible exact calls_ext _ (HQ1.out _)) | (go_at_call 22; with_reducible exact calls_ext _ (HQ2.out _)))))); refine wpQuiet_nil ?_; rintro _ ⟨gq, rfl⟩
                have BX := gq.below
                generalize gq.world = w5 at *
                have K6 := K3.below BX K3.lt
                have BE := below_then BW BX (Nat.le_refl _)
                clear E0 E2 ca Ka K3
                go_wp2_with fail
                go_roundw
                case rel => exact ⟨k + 1, _, p, by omega, by go_num, rfl, rfl, HNF.out, by omega, HT.out, K6, BE⟩
                case measure => simp only [intOf]; omega
    · obtain rfl : k = n := by omega
      have j1 : ¬ (k : Int) < (k : Int) := by omega
      have hall : l.take k = l := by have := HL.out; rw [← this]; exact List.take_length
      have hF := HF.out
      have hz := HZ.out
      rw [hall] at hF hz
      have hpv : pieceA src l = some (beI src 4 ++ l.flatMap bytA) := by unfold pieceA bodyA; rw [hF]; rfl
      have HPV := Lib.hid hpv
      have HZ2 := Lib.hid hz
      have c8 := K.cell
      have f8 := K.frozen
      simp at c8
      obtain ⟨wS, eS, KS, BS, hkS⟩ := three_set K rfl (.int .i64 2) (.int .i64 211) (.string z) w.heap.size (Nat.le_refl _)
      have cS := KS.cell
      simp at cS
      have BE := B.trans BS
      clear hall hF hz hpv
      go_wp2_with fail
      refine bodyPost_ret (v := .agg #[.int .i64 2, .int .i64 211, .string z]) ?_ rfl ⟨by rw [HPV.out, HZ2.out]; rfl, BE⟩
      simp [results, Try.results8, go_sem, cS]
end Go.Proofs.Ytliilcadlijnoaa
