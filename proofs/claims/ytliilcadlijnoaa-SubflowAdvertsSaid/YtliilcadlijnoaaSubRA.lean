/- The document's ToAdverts. No condition but the text's size. -/
import Derived.Test.YtliilcadlijnoaaSubP
namespace Go.Proofs.Ytliilcadlijnoaa
open Go.RowKit BigFrame
attribute [local go_sem ↓] Go.wp_at_zero Go.wp_at_succ

theorem idxB (s : ByteArray) (i : Nat) (h : i < s.size) : ((s[i]'h).toNat : Int) = (bytesI s).getD i 0 := by
  unfold bytesI
  rw [List.getD_eq_getElem?_getD, List.getElem?_map, List.getElem?_eq_getElem (by rw [Array.length_toList]; exact h)]
  rfl
/-- The number of a part of a text. -/
theorem getB (u : ByteArray) (l : List Int) (hb : bytesI u = l) (v : Int) (hv : (l.length = 1 ∧ n1 l = v) ∨ (l.length = 2 ∧ n2 l = v) ∨ (l.length = 3 ∧ n3 l = v) ∨ (l.length = 4 ∧ n4 l = v)) (w : World) :
    Calls Try.prog 29 #[.string u] w fun e w' => e = .returned (.int .i64 v) ∧ w = w' := by
  have hl := bytesI_len u
  rw [hb] at hl
  have H := ref03_Get u w (by omega)
  rw [← hl] at H
  rcases hv with ⟨h, hv⟩ | ⟨h, hv⟩ | ⟨h, hv⟩ | ⟨h, hv⟩
  · obtain ⟨a, r, rfl⟩ := cut1 (l := l) (by omega)
    rw [h, numS_one hb] at H
    rw [← hv]
    exact H
  · obtain ⟨a, b, r, rfl⟩ := cut2 (l := l) (by omega)
    rw [h, numS_two hb] at H
    rw [← hv]
    exact H
  · obtain ⟨a, b, c, r, rfl⟩ := cut3 (l := l) (by omega)
    rw [h, numS_three hb] at H
    rw [← hv]
    exact H
  · obtain ⟨a, b, c, d, r, rfl⟩ := cut4 (l := l) (by omega)
    rw [h, numS_four hb] at H
    rw [← hv]
    exact H
theorem info_rad : ∃ i, Try.prog.info? 30 = some i ∧ i.zero = some (.agg #[.int .i64 0, .bool false, .int .i64 0]) ∧ i.size = 3 ∧ i.bytes = 24 := by
  have h : (Try.prog.info? 30).map (fun i => (i.zero, i.size, i.bytes)) = some (some (.agg #[.int .i64 0, .bool false, .int .i64 0]), 3, 24) := by kernel_rfl
  obtain ⟨i, hi, he⟩ := Option.map_eq_some_iff.1 h
  simp only [Prod.mk.injEq] at he
  exact ⟨i, hi, he.1, he.2.1, he.2.2⟩
theorem RdAt.of_own {W : World} {B n : Nat} {v : Value} {l : List AdR} (h : W.ownsRow B 30 3 v n (rowG cellsA l)) (hl : l.length = n) : ∃ a c, v = .slice a n c ∧ AdAt W a n c l := by
  obtain ⟨a, c, e, S⟩ := SliceOf.of_rowG (f := cellsA) (s := 3) (fun _ => rfl) zAd h hl
  exact ⟨a, c, e, hl, S⟩
/-- While one part is put behind the others. -/
def StRA (w0 : World) (B m : Nat) (r : Int) (xs ce : List Value) (k : Nat) (G : Nat → Value) (W : World) : Prop :=
  match k with
  | 0 => W = w0.drew
  | 1 => W = w0.drew
  | 2 => W = w0.drew.alloc (.cells ce.toArray 30) ∧ G 15 = .slice (some ⟨w0.heap.size, 0, none⟩) 1 1
  | 3 => ∃ g4 cap, G 16 = .slice (some ⟨g4, 0, none⟩) (m + 1) cap ∧ W.ownsRow B 30 3 (.slice (some ⟨g4, 0, none⟩) (m + 1) cap) (m + 1) (xs ++ ce) ∧ Below B w0 W
  | _ => False
structure GRA (m : Nat) (r : Int) (q : Nat) (v : Value) : Prop where
  a13 : q = 13 → v = .int .i64 r
  a15 : q = 15 → ∃ g, v = .slice (some ⟨g, 0, none⟩) 1 1
  a16 : q = 16 → ∃ g cap, v = .slice (some ⟨g, 0, none⟩) (m + 1) cap
/-- What the document's reading gives: its parts, or the error. -/
structure DocRes {α : Type} (At : World → Option Addr → Nat → Nat → List α → Prop) (f : Int) (d : Option (List α)) (e : Ending) (w' : World) : Prop where
  no : d = none → e = .returned (.tuple #[.int .i64 0, .slice none 0 0, .int .i64 1])
  yes : ∀ zs, d = some zs → ∃ a c, e = .returned (.tuple #[.int .i64 f, .slice a zs.length c, .int .i64 0]) ∧ At w' a zs.length c zs
theorem DocRes.err {α : Type} {At : World → Option Addr → Nat → Nat → List α → Prop} {f : Int} {d : Option (List α)} {w' : World} (h : d = none) : DocRes At f d (.returned (.tuple #[.int .i64 0, .slice none 0 0, .int .i64 1])) w' := ⟨fun _ => rfl, fun zs h2 => by rw [h] at h2; cases h2⟩
theorem DocRes.ok {α : Type} {At : World → Option Addr → Nat → Nat → List α → Prop} {f : Int} {d : Option (List α)} {w' : World} {zs : List α} {n : Nat} (h : d = some zs) (hn : zs.length = n) (a : Option Addr) (c : Nat) (H : At w' a n c zs) : DocRes At f d (.returned (.tuple #[.int .i64 f, .slice a n c, .int .i64 0])) w' := by
  subst h
  refine ⟨(fun h2 => by cases h2), fun z2 h2 => ?_⟩
  injection h2 with h2
  subst h2
  exact ⟨a, c, by rw [hn], by rw [hn]; exact H⟩
theorem docL_bad {α : Type} {s : Nat} {dec : List Int → α} {path : α → Int} {canon : List Int → Bool} {m : Nat} {last : Int} {l : List Int} (hm : 0 < m) (h : ¬ (last < path (dec l) ∧ path (dec l) ≤ 15 ∧ canon l = true)) : docL s dec path canon m last l = none := by
  cases m with
  | zero => omega
  | succ m => show (if _ then _ else _) = _; rw [if_neg h]
theorem docL_good {α : Type} {s : Nat} {dec : List Int → α} {path : α → Int} {canon : List Int → Bool} {m : Nat} {last : Int} {l : List Int} (h : last < path (dec l) ∧ path (dec l) ≤ 15 ∧ canon l = true) : docL s dec path canon (m + 1) last l = (docL s dec path canon m (path (dec l)) (l.drop s)).map (dec l :: ·) := by
  show (if _ then _ else _) = _; rw [if_pos h]
set_option maxRecDepth 8000 in
set_option maxHeartbeats 16000000 in
theorem ref11_ToA (s : ByteArray) (w : World) (hs : s.size ≤ 10000) (L : List Int) (hL : bytesI s = L) (d : Option (List AdR)) (hd : docR 4 0 decA AdR.p canA L = d) :
    Calls Try.prog 16 #[.agg #[.int .i64 2, .int .i64 211, .string s]] w fun e w' => Below w.heap.size w w' ∧ DocRes AdAt (n4 L) d e w' := by
  obtain ⟨iq, hq0, hq1, hq2, hq3⟩ := info_rad
  have K1 := Blk.new w 35 #[.int .i64 2, .int .i64 211, .string s]
  have B1 : Below w.heap.size w (w.alloc (.cells #[.int .i64 2, .int .i64 211, .string s] 35)) := (Below.refl _ w).alloc (Nat.le_refl _) _
  obtain ⟨z, hz⟩ : ∃ z, s.size = z := ⟨_, rfl⟩
  have hLl : L.length = z := by rw [← hL, bytesI_len, hz]
  have hLb : Bytes L := by rw [← hL]; exact bytesI_ok s
  have HL := Lib.hid hL
  have HLL := Lib.hid hLl
  have HLB := Lib.hid hLb
  have HZ := Lib.hid hz
  rw [hz] at hs
  have wz : (z : Int).tmod 4 = ((z % 4 : Nat) : Int) := by rw [Int.tmod_eq_emod_of_nonneg (by omega)]; omega
  obtain ⟨zm, hzm⟩ : ∃ x, z % 4 = x := ⟨_, rfl⟩
  rw [hzm] at wz
  have hz' : (s.size : Int) = (z : Int) := by rw [hz]
  unfold docR at hd
  simp only [Nat.mul_zero, Nat.add_zero, hLl] at hd
  by_cases hbad : z < 4 ∨ zm ≠ 0
  · have hd0 : d = none := by rw [← hd, if_neg (by omega)]
    subst hd0
    clear hd hz hzm hL hLl hLb
    go_enter Try.func16, Try.ntmps16
    go_upto_region 1 with fail
    generalize w.alloc (.cells #[.int .i64 2, .int .i64 211, .string s] 35) = w1 at *
    have k1 := K1.cell
    simp at k1
    by_cases h4 : z < 4
    · have e1 : (z : Int) < 4 := by omega
      go_wp2_with fail
      refine bodyPost_ret (v := .tuple #[.int .i64 0, .slice none 0 0, .int .i64 1]) ?_ rfl ⟨B1, DocRes.err rfl⟩
      simp [results, Try.results16, go_sem]
      try rfl
    · have e1 : ¬ (z : Int) < 4 := by omega
      have e2 : ((zm : Int) != 0) = true := by simp; omega
      go_wp2_with fail
      refine bodyPost_ret (v := .tuple #[.int .i64 0, .slice none 0 0, .int .i64 1]) ?_ rfl ⟨B1, DocRes.err rfl⟩
      simp [results, Try.results16, go_sem]
      try rfl
  · have h40 : 4 ≤ z := by omega
    have hz4 : z % 4 = 0 := by omega
    rw [if_pos (by omega)] at hd
    obtain ⟨M, hM⟩ : ∃ x, (z - 4) / 4 = x := ⟨_, rfl⟩
    rw [hM] at hd
    have hMz : z = 4 + 4 * M := by omega
    have e1 : ¬ (z : Int) < 4 := by omega
    have e2 : ((zm : Int) != 0) = false := by simp; omega
    have HD := Lib.hid hd
    have HMZ := Lib.hid hMz
    have HGF := Lib.hid (fun W => getB (s.extract 0 4) (L.take 4) (by rw [bytesI_extract, HL.out]; rfl) (n4 L) (.inr (.inr (.inr ⟨by rw [List.length_take]; omega, by obtain ⟨a, b, c, d, r, rfl⟩ := cut4 (l := L) (by omega); rfl⟩))) W)
    clear hd hz hzm hL hLl hLb hbad hM hz4
    go_enter Try.func16, Try.ntmps16
    go_upto_region 1 with fail
    generalize w.alloc (.cells #[.int .i64 2, .int .i64 211, .string s] 35) = w1 at *
    have k1 := K1.cell
    simp at k1
    have s1 := B1.size
    have ownl := own_down (own_lit w1 30 3) s1
    have Bl : Below w1.heap.size w1 (w1.alloc (.cells #[] 30)) := (Below.refl _ w1).alloc (Nat.le_refl _) _
    have B2 := below_then B1 Bl (Nat.le_refl _)
    go_upto_region 8 with fail
    clear k1
    generalize w1.alloc (.cells #[] 30) = w2 at *
    clear K1 B1 Bl
    go_wp2_with fail
    go_loopw [6, 7, 8] (fun x6 x7 x8 wr => ∃ (k : Nat) (out : List AdR) (m : Nat) (last : Int), k ≤ M ∧ x8 = .int .i64 ((4 + 4 * k : Nat) : Int) ∧ x7 = .int .i64 last ∧ d = (docL 4 decA AdR.p canA (M - k) last (L.drop (4 + 4 * k))).map (out ++ ·) ∧ out.length = m ∧ m = k ∧ (∃ av cv, x6 = .slice av m cv) ∧ wr.ownsRow w.heap.size 30 3 x6 m (rowG cellsA out) ∧ Below w.heap.size w wr) (fun _ _ x8 _ => z - (intOf x8).toNat)
    case atStart => exact ⟨0, [], 0, 0, by omega, rfl, rfl, by rw [← HD.out]; simp, rfl, rfl, ⟨_, _, rfl⟩, by simpa [rowG] using ownl, B2⟩
    case round =>
      clear ownl B2
      obtain ⟨k, out, m, last, hk, rfl, rfl, hdoc, hom, hmk, ⟨av, cv, rfl⟩, own, B⟩ := hrel
      have HDOC := Lib.hid hdoc
      have HOM := Lib.hid hom
      have HMK := Lib.hid hmk
      have hm5 : m ≤ 10000 := by have := HMZ.out; omega
      clear hdoc hom hmk
      obtain ⟨at', hat⟩ : ∃ x, 4 + 4 * k = x := ⟨_, rfl⟩
      rw [hat]
      have HAT := Lib.hid hat
      by_cases hlt : k < M
      · have ha4 : at' + 4 ≤ z := by have := HMZ.out; omega
        have p1 : (at' : Int) < (z : Int) := by omega
        obtain ⟨x0, x1, x2, x3, R, hR⟩ := cut4 (l := L.drop at') (by rw [List.length_drop, HLL.out]; omega)
        have hbt : Bytes (x0 :: x1 :: x2 :: x3 :: R) := fun y hy => HLB.out y (by rw [← hR] at hy; exact List.drop_subset _ _ hy)
        obtain ⟨x00, x01⟩ := hbt x0 (by simp)
        obtain ⟨x10, x11⟩ := hbt x1 (by simp)
        obtain ⟨x20, x21⟩ := hbt x2 (by simp)
        obtain ⟨x30, x31⟩ := hbt x3 (by simp)
        have hrec : decA (L.drop at') = ⟨x0, decide (x1 = 1), 256 * x2 + x3⟩ := by rw [hR]; rfl
        have hcan : canA (L.drop at') = decide (x1 ≤ 1) := by rw [hR]; rfl
        have HG1 := Lib.hid (fun W => getB (s.extract at' (at' + 1)) [x0] (by
          rw [bytesI_extract, HL.out, List.drop_take, hR]
          have : at' + 1 - at' = 1 := by omega
          rw [this]; rfl) x0 (.inl ⟨rfl, rfl⟩) W)
        have hdr2 : L.drop (at' + 2) = x2 :: x3 :: R := by rw [← List.drop_drop, hR]; rfl
        have HG2 := Lib.hid (fun W => getB (s.extract (at' + 2) (at' + 4)) [x2, x3] (by
          rw [bytesI_extract, HL.out, List.drop_take, hdr2]
          have : at' + 4 - (at' + 2) = 2 := by omega
          rw [this]; rfl) (256 * x2 + x3) (.inr (.inl ⟨rfl, rfl⟩)) W)
        have hlt1 : at' + 1 < s.size := by have := HZ.out; omega
        have hix : ((s[at' + 1]'hlt1).toNat : Int) = x1 := by
          rw [idxB, HL.out, ← getD_drop, hR]; rfl
        obtain ⟨r, hr⟩ : ∃ x, 256 * x2 + x3 = x := ⟨_, rfl⟩
        rw [hr] at HG2 hrec
        obtain ⟨ub, hub⟩ : ∃ x, (x1 == 1) = x := ⟨_, rfl⟩
        have hub2 : decide (x1 = 1) = ub := by rw [← hub]; rfl
        rw [hub2] at hrec
        have HREC := Lib.hid hrec
        have HCAN := Lib.hid hcan
        have HNX := Lib.hid (show L.drop (4 + 4 * (k + 1)) = (L.drop at').drop 4 by rw [List.drop_drop]; congr 1; have := HAT.out; omega)
        have w1' : IntKind.i64.wrap ((at' : Int) + 1) = ((at' + 1 : Nat) : Int) := by rw [IntWalk.i64_in _ (by omega)]; omega
        have w2' : IntKind.i64.wrap ((at' : Int) + 2) = ((at' + 2 : Nat) : Int) := by rw [IntWalk.i64_in _ (by omega)]; omega
        have w4' : IntKind.i64.wrap ((at' : Int) + 4) = ((at' + 4 : Nat) : Int) := by rw [IntWalk.i64_in _ (by omega)]; omega
        have c1 : (0 : Int) ≤ (at' : Int) := by omega
        have c2 : (at' : Int) ≤ ((at' + 1 : Nat) : Int) := by omega
        have c3 : ((at' + 1 : Nat) : Int) ≤ (z : Int) := by omega
        have c4 : ((at' + 1 : Nat) : Int) < (z : Int) := by omega
        have c5 : (0 : Int) ≤ ((at' + 1 : Nat) : Int) := by omega
        have c6 : ((at' + 2 : Nat) : Int) ≤ ((at' + 4 : Nat) : Int) := by omega
        have c7 : ((at' + 4 : Nat) : Int) ≤ (z : Int) := by omega
        have c8 : (0 : Int) ≤ ((at' + 2 : Nat) : Int) := by omega
        have hMk : M - k = (M - (k + 1)) + 1 := by omega
        have HMK2 := Lib.hid hMk
        clear hat hR hbt hrec hcan hdr2 hr hub2 hMk x00 x01 x20 x21 x30 x31
        have hBAD : ∀ (_ : ¬ (last < x0 ∧ x0 ≤ 15 ∧ decide (x1 ≤ 1) = true)), d = none := fun hb => by
          rw [HDOC.out, HAT.out, docL_bad (by omega) (by rw [HREC.out, HCAN.out]; exact hb)]
          rfl
        have HBAD := Lib.hid hBAD
        clear hBAD
        go_upto_region 11 with fail
        go_wp2_with fail
        refine (HG1.out wr).mono ?_
        rintro e w' ⟨rfl, rfl⟩
        by_cases hle : x0 ≤ last
        · have HD0 := Lib.hid (HBAD.out (by omega))
          go_wp2_with fail
          refine bodyPost_ret (v := .tuple #[.int .i64 0, .slice none 0 0, .int .i64 1]) ?_ rfl ⟨B, DocRes.err HD0.out⟩
          simp [results, Try.results16, go_sem]
          try rfl
        · by_cases h15 : 15 < x0
          · have HD0 := Lib.hid (HBAD.out (by omega))
            go_wp2_with fail
            refine bodyPost_ret (v := .tuple #[.int .i64 0, .slice none 0 0, .int .i64 1]) ?_ rfl ⟨B, DocRes.err HD0.out⟩
            simp [results, Try.results16, go_sem]
            try rfl
          · by_cases hx1 : 1 < x1
            · have HD0 := Lib.hid (HBAD.out (by intro h; simp at h; omega))
              go_wp2_with fail
              refine bodyPost_ret (v := .tuple #[.int .i64 0, .slice none 0 0, .int .i64 1]) ?_ rfl ⟨B, DocRes.err HD0.out⟩
              simp [results, Try.results16, go_sem]
              try rfl
            · have HDG := Lib.hid (show d = (docL 4 decA AdR.p canA (M - (k + 1)) x0 (L.drop (4 + 4 * (k + 1)))).map ((out ++ [⟨x0, ub, r⟩]) ++ ·) by
                rw [HDOC.out, HMK2.out, HAT.out, docL_good (by rw [HREC.out, HCAN.out]; simp; omega), HREC.out, HNX.out, Option.map_map]
                congr 1
                funext q
                simp)
              have hrow2 := Lib.hid (show rowG cellsA out ++ [.int .i64 x0, .bool ub, .int .i64 r] = rowG cellsA (out ++ [⟨x0, ub, r⟩]) by rw [rowG_append]; rfl)
              have sB := B.size
              go_upto_region 15 with fail
              have hne : Nonempty (UWF (Phase [13, 15, 16] (StRA wr w.heap.size m r (rowG cellsA out) [.int .i64 x0, .bool ub, .int .i64 r]))) := Phase.ne (G := fun _ => undef) (W := wr.drew) rfl
              refine wp_region_free [(0, 13, some 13), (14, 1, some 15), (16, 0, some 16), (17, 1, none)] (Phase [13, 15, 16] (StRA wr w.heap.size m r (rowG cellsA out) [.int .i64 x0, .bool ub, .int .i64 r])) (GRA m r) (fun y => if y = 13 then .int .i64 r else if y = 15 then .slice (some ⟨0, 0, none⟩) 1 1 else .slice (some ⟨0, 0, none⟩) (m + 1) 0) (by kernel_rfl) (by kernel_rfl) ?_ ?_ ?_ ?_
              · intro y hy LL G W hC
                simp [moversI] at hy
                exact hC.quiet (fun i e => by have := List.mem_of_getElem? e; simp at this; omega)
              · exact Phase.start rfl
              · intro y
                exact ⟨fun e => by subst e; rfl, fun e => by subst e; exact ⟨_, rfl⟩, fun e => by subst e; exact ⟨_, _, rfl⟩⟩
              · intro G hG
                have y13 := (hG 13).a13 rfl
                obtain ⟨gl, y15⟩ := (hG 15).a15 rfl
                obtain ⟨gr, gc, y16⟩ := (hG 16).a16 rfl
                simp only [walkF, List.drop_zero, List.drop_succ_cons, List.take_succ_cons, List.take_zero, List.toList_toArray]; (repeat (go_big_quiet_step (fail))); refine wpQuiet_nil ?_
                refine ⟨_, _, _, _, _, _, rfl, .inl ⟨rfl, ?_, ?_⟩⟩
                · intro LL W hL hA hC
                  have hst : W = wr.drew := hC.at 0 13 rfl hL (fun m' h0 _ => absurd h0 (by omega))
                  subst hst
                  refine ⟨?_⟩; go_simp; simp only [movesToUpon]
                  refine (HG2.out wr.drew).mono ?_
                  rintro e w' ⟨rfl, rfl⟩
                  exact ⟨_, rfl, ⟨fun _ => rfl, (fun e => by cases e), (fun e => by cases e)⟩, hC.next (by decide) 0 13 rfl hL (fun m' h0 _ => absurd h0 (by omega)) rfl⟩
                · intro K' hK'; dsimp only at hK'; rw [y13]; go_big_quiet_op; go_big_quiet_on; (repeat (go_big_quiet_step (fail))); refine wpQuiet_nil ?_
                  refine ⟨_, _, _, _, _, _, rfl, .inl ⟨rfl, ?_, ?_⟩⟩
                  · intro LL W hL hA hC
                    have hp : ∀ m', 0 < 1 → [13, 15, 16][1 - 1]? = some m' → LL m' = true := fun m' _ h => by
                      simp at h; subst h; exact hA 13 (by kernel_rfl)
                    have hst : W = wr.drew := hC.at 1 15 rfl hL hp
                    subst hst
                    refine ⟨?_⟩; go_simp; simp only [movesToUpon]
                    exact ⟨⟨(fun e => by cases e), fun _ => ⟨_, rfl⟩, (fun e => by cases e)⟩, hC.next (by decide) 1 15 rfl hL hp ⟨rfl, upF_same _ _ _⟩⟩
                  · intro K' hK'; dsimp only at hK'; rw [y15]; go_big_quiet_op; go_big_quiet_on; (repeat (go_big_quiet_step (fail))); refine wpQuiet_nil ?_
                    refine ⟨_, _, _, _, _, _, rfl, .inl ⟨rfl, ?_, ?_⟩⟩
                    · intro LL W hL hA hC
                      have hp : ∀ m', 0 < 2 → [13, 15, 16][2 - 1]? = some m' → LL m' = true := fun m' _ h => by
                        simp at h; subst h; exact hA 15 (by kernel_rfl)
                      obtain ⟨rfl, hg15⟩ : W = wr.drew.alloc (.cells #[.int .i64 x0, .bool ub, .int .i64 r] 30) ∧ G 15 = .slice (some ⟨wr.heap.size, 0, none⟩) 1 1 := hC.at 2 16 rfl hL hp
                      rw [y15] at hg15
                      injection hg15 with f1 f2 f3
                      injection f1 with f1
                      injection f1 with f1
                      subst f1
                      have own2 : wr.drew.ownsRow w.heap.size 30 3 (.slice av m cv) m (rowG cellsA out) := own
                      have own3 := own_at own2 (w' := wr.drew.alloc (.cells #[.int .i64 x0, .bool ub, .int .i64 r] 30)) (fun j hj => Below.heap_alloc _ _ _ (own2.lt j hj).2)
                      have hnew := World.news_of_block (Blk.new wr.drew 30 #[.int .i64 x0, .bool ub, .int .i64 r])
                      obtain ⟨g4, cap4, w4, hrun, own4, hgrow4, _, hlt4⟩ := run_append_lies (P := Try.prog) _ 23 23 w.heap.size 30 iq (.agg #[.int .i64 0, .bool false, .int .i64 0]) 3 24 Try.underlying23 hq0 hq1 hq2 hq3 rfl (by decide) _ _ _ own3 ⟨wr.heap.size, 0, none⟩ 1 1 [.int .i64 x0, .bool ub, .int .i64 r] rfl hnew (by simp [Value.oneCell']) (by omega) (by rw [maxLen_eq]; omega) (by omega) (by simp; omega) _ rfl
                      have B4 : Below w.heap.size wr w4 := (((Below.refl _ wr).drew).alloc (by simpa using sB) _).grown hgrow4 (by simp; omega) (fun j hj => (own3.lt j hj).1)
                      refine MovesTo.append_ rfl rfl rfl hrun ?_
                      exact ⟨⟨(fun e => by cases e), (fun e => by cases e), fun _ => ⟨_, _, rfl⟩⟩, hC.next (by decide) 2 16 rfl hL hp ⟨g4, cap4, upF_same _ _ _, own4, B4⟩⟩
                    · intro K' hK'; dsimp only at hK'; rw [y16]; go_big_quiet_op; go_big_quiet_on; (repeat (go_big_quiet_step (fail))); refine wpQuiet_nil ?_
                      intro LL w9 hL hC
                      obtain ⟨g4, cap4, hg16, own4, B4⟩ : ∃ g4 cap, G 16 = .slice (some ⟨g4, 0, none⟩) (m + 1) cap ∧ w9.ownsRow w.heap.size 30 3 (.slice (some ⟨g4, 0, none⟩) (m + 1) cap) (m + 1) (rowG cellsA out ++ ([.int .i64 x0, .bool ub, .int .i64 r] : List Value)) ∧ Below w.heap.size wr w9 :=
                        hC.all (fun y hy => hL y (by
                          simp at hy
                          rcases hy with rfl | rfl | rfl <;> decide)) (fun k G W h => by
                          unfold StRA at h
                          split at h
                          all_goals first | exact h.elim | simp)
                      rw [y16] at hg16
                      injection hg16 with f1 f2 f3
                      injection f1 with f1
                      injection f1 with f1
                      subst f1 f3
                      have BE := B.trans B4
                      clear hC hL hG y13 y15 y16 hne
                      go_wp2_with fail
                      go_roundw
                      case rel => exact ⟨k + 1, out ++ [⟨x0, ub, r⟩], m + 1, x0, by omega, by have := HAT.out; go_num, rfl, HDG.out, by rw [List.length_append, HOM.out]; rfl, by have := HMK.out; omega, ⟨_, _, rfl⟩, by rw [← hrow2.out]; exact own4, BE⟩
                      case measure => simp only [intOf]; omega
      · obtain rfl : k = M := by omega
        have haz : at' = z := by have := HMZ.out; have := HAT.out; omega
        have p1 : ¬ (at' : Int) < (z : Int) := by omega
        have hdd : d = some out := by
          rw [HDOC.out, Nat.sub_self]
          show some (out ++ []) = some out
          rw [List.append_nil]
        have HDD := Lib.hid hdd
        have c1 : (4 : Int) ≤ (z : Int) := by omega
        clear hdd haz
        go_wp2_with fail
        refine (HGF.out wr).mono ?_
        rintro e w' ⟨rfl, rfl⟩
        obtain ⟨_, _, e9, SE⟩ := RdAt.of_own own HOM.out
        injection e9 with e9 e8 e7
        subst e9 e7
        go_wp2_with fail
        refine bodyPost_ret (v := .tuple #[.int .i64 (n4 L), .slice av m cv, .int .i64 0]) ?_ rfl ⟨B, DocRes.ok HDD.out HOM.out av cv SE⟩
        simp [results, Try.results16, go_sem]
        try rfl
end Go.Proofs.Ytliilcadlijnoaa
