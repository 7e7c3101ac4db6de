/- SubflowApart, walked. No condition. (Printed by gen_subapart.py.) -/
import Derived.Test.YtliilcadlijnoaaSubflowReads
import Derived.Test.YtliilcadlijnoaaPhR
namespace Go.Proofs.Ytliilcadlijnoaa
open Go.RowKit BigFrame
attribute [local go_sem ↓] Go.wp_at_zero Go.wp_at_succ

theorem SliceOf.newsG {α : Type} {f : α → List Value} {s : Nat} (hf : ∀ x, (f x).length = s) (hs : 0 < s) {w : World} {a : Option Addr} {n c : Nat} {l : List α} {z : α} (S : SliceOf w a n c s (fun i => f (l.getD i z))) (hl : l.length = n) : 0 < n → ∃ a0, a = some a0 ∧ ∀ j u, (rowG f l)[j]? = some u → w.cell? (a0.add j) = some u := fun hn => by
  obtain ⟨b, off, ha, hb, hc⟩ := S.2.2 hn
  refine ⟨_, ha, fun j u hu => ?_⟩
  have hj : j < n * s := by
    have := (List.getElem?_eq_some_iff.1 hu).1
    rwa [rowG_len hf, hl] at this
  have hdm := Nat.div_add_mod j s
  have hr := Nat.mod_lt j hs
  have hi : j / s < n := Nat.div_lt_of_lt_mul (by rw [Nat.mul_comm]; exact hj)
  have hli : l[j / s]? = some (l.getD (j / s) z) := by rw [List.getD_eq_getElem?_getD, List.getElem?_eq_getElem (by omega)]; rfl
  have hj2 : j / s * s + j % s = j := by rw [Nat.mul_comm]; exact hdm
  rw [← hj2, rowG_get hf l _ _ hli _ hr] at hu
  have := hc (j / s) hi (j % s) u hu
  have hadd : (⟨b, off, none⟩ : Addr).add j = ⟨b, off + j, none⟩ := by unfold Addr.add; split <;> simp_all
  rw [hadd]
  have e2 : off + j / s * s + j % s = off + j := by rw [Nat.add_assoc, hj2]
  rw [← e2]
  exact this
theorem rowG_one {α : Type} {f : α → List Value} (hf : ∀ x, ∀ u ∈ f x, u.oneCell' = true) (l : List α) : ∀ u ∈ rowG f l, u.oneCell' = true := fun u hu => by
  obtain ⟨x, _, h⟩ := List.mem_flatMap.1 hu
  exact hf x u h
theorem wfU32 {x : Int} (h : (Lit.int .u32 x).wf = true) : 0 ≤ x ∧ x < 4294967296 := by
  simp [Lit.wf, IntKind.min, IntKind.max, IntKind.signed, IntKind.bits] at h
  omega
/-- A piece of one kind is never of the other. -/
theorem pc_other {form : Int} (bo : Option (List Int)) : ∃ pf pk ps, pcV form bo = .agg #[.int .i64 pf, .int .i64 pk, .string ps] ∧ (pf = form ∨ pf = 0) := by
  cases bo with
  | none => exact ⟨0, 0, _, rfl, .inr rfl⟩
  | some l => exact ⟨form, 211, _, rfl, .inl rfl⟩
/-- While one advert is put behind the others. -/
def StAp (w0 : World) (Bw B ga m : Nat) (src : Int) (xs ce : List Value) (k : Nat) (G : Nat → Value) (W : World) : Prop :=
  match k with
  | 0 => W = w0.drew
  | 1 => W = w0.drew.alloc (.cells ce.toArray 31) ∧ G 6 = .slice (some ⟨w0.heap.size, 0, none⟩) 1 1
  | 2 => ∃ g4 cap, G 7 = .slice (some ⟨g4, 0, none⟩) (m + 1) cap ∧ W.ownsRow B 31 3 (.slice (some ⟨g4, 0, none⟩) (m + 1) cap) (m + 1) (xs ++ ce) ∧ Below B w0 W
  | 3 => ∃ g4 cap, G 7 = .slice (some ⟨g4, 0, none⟩) (m + 1) cap ∧ W.ownsRow B 31 3 (.slice (some ⟨g4, 0, none⟩) (m + 1) cap) (m + 1) (xs ++ ce) ∧ Below Bw w0 W ∧ Blk W ga 27 #[.int .u32 src, .slice (some ⟨g4, 0, none⟩) (m + 1) cap] ∧ ∀ q, q < B → q ≠ ga → W.heap[q]? = w0.heap[q]?
  | _ => False
theorem StAp.up {w0 : World} {Bw B ga m : Nat} {src : Int} {xs ce : List Value} {z : Nat} (h6 : z ≠ 6) (h7 : z ≠ 7) (k : Nat) (G : Nat → Value) (W : World) (u : Value) (h : StAp w0 Bw B ga m src xs ce k G W) : StAp w0 Bw B ga m src xs ce k (upF G z u) W := by
  unfold StAp at h ⊢
  rw [upF_ne _ _ (Ne.symm h6), upF_ne _ _ (Ne.symm h7)]
  exact h
theorem StAp.old {w0 : World} {Bw B ga m : Nat} {src : Int} {xs ce : List Value} {k : Nat} {G : Nat → Value} {W : World} (h : StAp w0 Bw B ga m src xs ce k G W) (hk : k ≤ 2) (hl : ga < w0.heap.size) (hB : ga < B) : W.heap[ga]? = w0.heap[ga]? := by
  match k, hk with
  | 0, _ => rw [show W = w0.drew from h]; rfl
  | 1, _ => rw [h.1]; exact Below.heap_alloc w0.drew _ _ hl
  | 2, _ =>
    obtain ⟨_, _, _, _, h1⟩ := h
    exact h1.block ga hB
theorem StAp.below {w0 : World} {Bw B ga m : Nat} {src : Int} {xs ce : List Value} {k : Nat} {G : Nat → Value} {W : World} (h : StAp w0 Bw B ga m src xs ce k G W) (hs : Bw ≤ w0.heap.size) (hB : Bw ≤ B) : Below Bw w0 W := by
  unfold StAp at h
  split at h
  · rw [h]; exact (Below.refl _ _).drew
  · rw [h.1]; exact ((Below.refl _ _).drew).alloc (by simpa using hs) _
  · obtain ⟨_, _, _, _, h1⟩ := h; exact h1.mono hB
  · obtain ⟨_, _, _, _, h1, _⟩ := h; exact h1
  · exact h.elim
structure GAp (m : Nat) (sv : Value) (q : Nat) (v : Value) : Prop where
  a1 : q = 1 → v = sv
  a6 : q = 6 → ∃ g, v = .slice (some ⟨g, 0, none⟩) 1 1
  a7 : q = 7 → ∃ g cap, v = .slice (some ⟨g, 0, none⟩) (m + 1) cap
set_option maxRecDepth 8000 in
set_option maxHeartbeats 16000000 in
theorem SubflowApart_walk (a0x0 : Int) (a0x1a : Option Addr) (a0x1l a0x1c : Nat) (a0x1e0 : Nat → Int) (a0x1e1 : Nat → Int) (a0x1e2 : Nat → Int) (a0x1e3 : Nat → Int) (a0x1e4 : Nat → Int) (a0x1e5 : Nat → Int) (a0x1e6 : Nat → Int) (a0x1e7 : Nat → Int) (a1 : Int) (a2a : Option Addr) (a2l a2c : Nat) (a2e0 : Nat → Int) (a2e1 : Nat → Bool) (a2e2 : Nat → Int) (w : World) (a0x0w0 : (Lit.int .u32 a0x0).wf = true) (a0x1S : SliceOf w a0x1a a0x1l a0x1c 8 (fun j => [.int .i64 (a0x1e0 j), .int .i64 (a0x1e1 j), .int .i64 (a0x1e2 j), .int .u32 (a0x1e3 j), .int .u32 (a0x1e4 j), .int .u32 (a0x1e5 j), .int .u32 (a0x1e6 j), .int .u32 (a0x1e7 j)])) (a0x1F0 : ∀ j, j < a0x1l → (Lit.int .i64 (a0x1e0 j)).wf = true) (a0x1F1 : ∀ j, j < a0x1l → (Lit.int .i64 (a0x1e1 j)).wf = true) (a0x1F2 : ∀ j, j < a0x1l → (Lit.int .i64 (a0x1e2 j)).wf = true) (a0x1F3 : ∀ j, j < a0x1l → (Lit.int .u32 (a0x1e3 j)).wf = true) (a0x1F4 : ∀ j, j < a0x1l → (Lit.int .u32 (a0x1e4 j)).wf = true) (a0x1F5 : ∀ j, j < a0x1l → (Lit.int .u32 (a0x1e5 j)).wf = true) (a0x1F6 : ∀ j, j < a0x1l → (Lit.int .u32 (a0x1e6 j)).wf = true) (a0x1F7 : ∀ j, j < a0x1l → (Lit.int .u32 (a0x1e7 j)).wf = true) (a1w : (Lit.int .u32 a1).wf = true) (a2S : SliceOf w a2a a2l a2c 3 (fun i => [.int .i64 (a2e0 i), .bool (a2e1 i), .int .i64 (a2e2 i)])) (a2F0 : ∀ i, i < a2l → (Lit.int .i64 (a2e0 i)).wf = true) (a2F1 : ∀ i, i < a2l → (Lit.int .i64 (a2e2 i)).wf = true) :
    Calls Try.prog 5 #[.agg #[.int .u32 a0x0, .slice a0x1a a0x1l a0x1c], .int .u32 a1, .slice a2a a2l a2c] w fun e w' => e = .returned (.bool true) ∧ Below w.heap.size w w' := by
  obtain ⟨iq, hq0, hq1, hq2, hq3⟩ := info_ln
  obtain ⟨ip, hp0, hp1, hp2, hp3⟩ := info_ad
  have hs0 := wfU32 a0x0w0
  have hs1 := wfU32 a1w
  obtain ⟨m, hm⟩ : ∃ m : Nat, min a0x1l 15 = m := ⟨_, rfl⟩
  have hm15 : m ≤ 15 ∧ m ≤ a0x1l := by omega
  have hm1 : (if 15 < (a0x1l : Int) then 15 else (a0x1l : Int)) = (m : Int) := by rw [← hm]; split <;> omega
  have hm2 : min (a0x1l : Int) 15 = (m : Int) := by omega
  obtain ⟨xs, hxs⟩ : ∃ xs : List LnR, ((List.range m).map fun i => ⟨a0x1e0 i, a0x1e1 i, a0x1e2 i, a0x1e3 i, a0x1e4 i, a0x1e5 i, a0x1e6 i, a0x1e7 i⟩) = xs := ⟨_, rfl⟩
  have hxl : xs.length = m := by rw [← hxs]; simp
  have hxok : LnOk xs := fun x hx => by
    rw [← hxs] at hx
    obtain ⟨i, hi, rfl⟩ := List.mem_map.1 hx
    have hi2 : i < a0x1l := by have := List.mem_range.1 hi; omega
    exact ⟨wfU32 (a0x1F3 i hi2), wfU32 (a0x1F4 i hi2), wfU32 (a0x1F5 i hi2), wfU32 (a0x1F6 i hi2), wfU32 (a0x1F7 i hi2)⟩
  have SX : SliceOf w a0x1a m a0x1c 8 (fun i => cellsL (xs.getD i zLn)) := by
    refine ⟨Nat.le_trans hm15.2 a0x1S.1, a0x1S.2.1, fun hp => ?_⟩
    obtain ⟨b, off, ha, hb, hc⟩ := a0x1S.2.2 (by omega)
    refine ⟨b, off, ha, hb, fun i hi j u hu => hc i (by omega) j u ?_⟩
    have : xs.getD i zLn = ⟨a0x1e0 i, a0x1e1 i, a0x1e2 i, a0x1e3 i, a0x1e4 i, a0x1e5 i, a0x1e6 i, a0x1e7 i⟩ := by
      rw [← hxs, List.getD_eq_getElem?_getD, List.getElem?_map, List.getElem?_range hi]; rfl
    have hu2 : (cellsL (xs.getD i zLn))[j]? = some u := hu
    rw [this] at hu2
    exact hu2
  have HSX := Lib.hid SX
  have HXL := Lib.hid hxl
  have HXO := Lib.hid hxok
  have HS2 := Lib.hid a2S
  have hcap := a0x1S.1
  have hcm := a0x1S.2.1
  have h2l := a2S.size_le
  rw [maxLen_eq] at hcm
  have nl : (m : Int) ≤ (a0x1c : Int) := by omega
  have nl2 : (0 : Int) ≤ (m : Int) := by omega
  clear hm hxs hxok SX a0x0w0 a0x1S a0x1F0 a0x1F1 a0x1F2 a0x1F3 a0x1F4 a0x1F5 a0x1F6 a0x1F7 a1w a2S a2F0 a2F1
  have K0 := Blk.new w 47 #[.int .u32 a0x0, .slice a0x1a a0x1l a0x1c]
  have B0 : Below w.heap.size w (w.alloc (.cells #[.int .u32 a0x0, .slice a0x1a a0x1l a0x1c] 47)) := (Below.refl _ w).alloc (Nat.le_refl _) _
  go_enter Try.func5, Try.ntmps5
  go_upto_region 1 with fail
  generalize w.alloc (.cells #[.int .u32 a0x0, .slice a0x1a a0x1l a0x1c] 47) = w0 at *
  go_wp2_with fail
  refine (law11_awake _).mono ?_
  rintro e w1 ⟨rfl, B1⟩
  have K1 := K0.below B1 K0.lt
  have B01 := below_then B0 B1 (Nat.le_refl _)
  have s1 := B01.size
  clear K0 B0 B1
  have ownl := own_down (own_lit w1 67 8) s1
  have Bl : Below w1.heap.size w1 (w1.alloc (.cells #[] 67)) := (Below.refl _ w1).alloc (Nat.le_refl _) _
  have K2 := K1.below Bl K1.lt
  have B02 := below_then B01 Bl (Nat.le_refl _)
  have k1 := K1.cell
  have k2 := K2.cell
  simp at k1 k2
  have hnews := SliceOf.newsG (f := cellsL) (s := 8) (fun _ => rfl) (by decide) (HSX.out.below (below_then B02 (Below.refl _ _) (Nat.le_refl _))) HXL.out
  have hrl : (rowG cellsL xs).length = m * 8 := by rw [rowG_len (f := cellsL) (s := 8) (fun _ => rfl), HXL.out]
  have s2 := B02.size
  clear Bl B01
  go_upto_region 4 with (at_builtin; refine wpList_append_sl rfl _ _ 45 rfl w.heap.size 67 iq (.agg zLnA) 8 48 Try.underlying45 hq0 hq1 hq2 hq3 rfl (by decide) _ 0 [] rfl ownl a0x1a m a0x1c (rowG cellsL xs) rfl hrl hnews (rowG_one (fun x u hu => by simp [cellsL] at hu; rcases hu with rfl | rfl | rfl | rfl | rfl | rfl | rfl | rfl <;> rfl) xs) (by rw [maxLen_eq]; omega) (by omega) s2 ?_; intro v6 w6 own6 hgrow6 hat6 hsh6; obtain ⟨a6, c6, rfl⟩ := hsh6; have K6 : Blk w6 w.heap.size 47 _ := (hgrow6.block _ K2.lt (own_ne_blk ownl K2 (by decide)).symm).trans K2; have k6 := K6.cell; have f6 := K6.frozen; simp at k6)
  have B6 : Below w.heap.size w w6 := B02.grown hgrow6 s2 (fun j hj => (ownl.lt j hj).1)
  have K7 := K6.set_ 1 (.slice a6 (0 + m) c6)
  simp at K7
  have n6 := own_ne_blk own6 K6 (by decide)
  have own7 := own_at own6 (w' := w6.setCell ⟨w.heap.size, 1, none⟩ (.slice a6 (0 + m) c6)) (fun j hj => Below.heap_setCell _ ⟨w.heap.size, 1, none⟩ _ j (fun e => n6 (by rw [hj]; exact congrArg some e)))
  have B7 := B6.setCell (p := ⟨w.heap.size, 1, none⟩) (Nat.le_refl _) (.slice a6 (0 + m) c6)
  simp only [Nat.zero_add, List.nil_append] at own7 K7 B7
  clear k1 k2 K1 K2 ownl hnews hrl B02 hgrow6 hat6 own6 n6 B6
  generalize w6.setCell ⟨w.heap.size, 1, none⟩ (.slice a6 m c6) = w7 at *
  clear K6 k6 f6
  obtain ⟨_, _, e9, SL⟩ := LnAt.of_own own7 HXL.out
  injection e9 with e9 e8 e7
  subst e9 e7
  have Ka := Blk.new w7 27 #[.int .u32 a1, .slice none 0 0]
  have Ba : Below w7.heap.size w7 (w7.alloc (.cells #[.int .u32 a1, .slice none 0 0] 27)) := (Below.refl _ w7).alloc (Nat.le_refl _) _
  have K8 := K7.below Ba K7.lt
  have own8 := own_lasts own7 Ba
  have SL8 := SL.below Ba
  have B8 := below_then B7 Ba (Nat.le_refl _)
  have s7 := B7.size
  have hga0 : w.heap.size < w7.heap.size := K7.lt
  go_upto_region 5 with fail
  obtain ⟨ga, hga⟩ : ∃ ga, w7.heap.size = ga := ⟨_, rfl⟩
  rw [hga] at Ka hga0 ⊢
  generalize w7.alloc (.cells #[.int .u32 a1, .slice none 0 0] 27) = w8 at *
  clear own7 SL K7 Ba B7 s7 hga
  have hgz : ga < w8.heap.size := Ka.lt
  have n8a := own_ne_blk own8 Ka (by decide)
  obtain ⟨wz, hwz⟩ : ∃ wl, wl = w8 := ⟨_, rfl⟩
  subst hwz
  go_wp2_with fail
  go_loopw [8] (fun x8 wr => ∃ (k : Nat) (out : List AdR) (av : Option Addr) (cv : Nat), k ≤ 15 ∧ k ≤ a2l ∧ x8 = .int .i64 k ∧ out.length = k ∧ Blk wr ga 27 #[.int .u32 a1, .slice av k cv] ∧ wr.ownsRow wz.heap.size 31 3 (.slice av k cv) k (rowG cellsA out) ∧ (∀ q, q < wz.heap.size → q ≠ ga → wr.heap[q]? = wz.heap[q]?) ∧ wz.heap.size ≤ wr.heap.size ∧ Below w.heap.size w wr) (fun x8 _ => 15 - (intOf x8).toNat)
  case atStart => exact ⟨0, [], none, 0, by omega, by omega, rfl, rfl, Ka, ⟨rfl, .inl ⟨rfl, rfl⟩⟩, (fun _ _ _ => rfl), Nat.le_refl _, B8⟩
  case round =>
    clear Ka B8
    obtain ⟨k, out, av, cv, hk15, hka, rfl, hol, Kr, own, hkeep, hsz, B⟩ := hrel
    have HOL := Lib.hid hol
    clear hol
    by_cases hgo : k < a2l ∧ k < 15
    · obtain ⟨hlt, h15⟩ := hgo
      obtain ⟨bb, off, rfl, hbb, hcell⟩ := HS2.out.at3y (by omega)
      obtain ⟨hc0, hc1, hc2⟩ := hcell k hlt
      obtain ⟨x0, hx0⟩ : ∃ x, a2e0 k = x := ⟨_, rfl⟩
      obtain ⟨ub, hx1⟩ : ∃ x, a2e1 k = x := ⟨_, rfl⟩
      obtain ⟨r, hx2⟩ : ∃ x, a2e2 k = x := ⟨_, rfl⟩
      rw [hx0] at hc0
      rw [hx1] at hc1
      rw [hx2] at hc2
      clear hx0 hx1 hx2 hcell
      have i0 : (0 : Int) ≤ (k : Int) := by omega
      have i1 : (k : Int) < (a2l : Int) := by omega
      have i2 : (k : Int) < 15 := by omega
      have wk : IntKind.i64.wrap ((k : Int) + 1) = ((k + 1 : Nat) : Int) := by rw [IntWalk.i64_in _ (by omega)]; omega
      have hrow2 := Lib.hid (show rowG cellsA out ++ [.int .i64 x0, .bool ub, .int .i64 r] = rowG cellsA (out ++ [⟨x0, ub, r⟩]) by rw [rowG_append]; rfl)
      have sB := B.size
      have hgl := Kr.lt
      have no_a := own_ne_blk own Kr (by decide)
      go_upto_region 8 with fail
      have hne : Nonempty (UWF (PhR [6, 7, 9] [1] 9 (StAp wr w.heap.size wz.heap.size ga k a1 (rowG cellsA out) [.int .i64 x0, .bool ub, .int .i64 r]))) := PhR.ne (G := fun _ => undef) (W := wr.drew) rfl
      have EB := fun (gx : UWF (PhR [6, 7, 9] [1] 9 (StAp wr w.heap.size wz.heap.size ga k a1 (rowG cellsA out) [.int .i64 x0, .bool ub, .int .i64 r]))) => (show Below w.heap.size wr gx.world from by
        obtain ⟨kk, _, h⟩ := gx.holds.ph
        exact StAp.below h sB (by omega))
      have E0 := fun gx => ((EB gx).cell (p := ⟨bb, off + k * 3, none⟩) hbb).trans ((B.cell (p := ⟨bb, off + k * 3, none⟩) hbb).trans hc0)
      have E1 := fun gx => ((EB gx).cell (p := ⟨bb, off + k * 3 + 1, none⟩) hbb).trans ((B.cell (p := ⟨bb, off + k * 3 + 1, none⟩) hbb).trans hc1)
      have E2 := fun gx => ((EB gx).cell (p := ⟨bb, off + k * 3 + 2, none⟩) hbb).trans ((B.cell (p := ⟨bb, off + k * 3 + 2, none⟩) hbb).trans hc2)
      refine wp_region_free [(0, 1, some 1), (2, 4, some 6), (7, 0, some 7), (8, 1, some 9), (10, 0, none)] (PhR [6, 7, 9] [1] 9 (StAp wr w.heap.size wz.heap.size ga k a1 (rowG cellsA out) [.int .i64 x0, .bool ub, .int .i64 r])) (GAp k (.slice av k cv)) (fun y => if y = 1 then .slice av k cv else if y = 6 then .slice (some ⟨0, 0, none⟩) 1 1 else .slice (some ⟨0, 0, none⟩) (k + 1) 0) (by kernel_rfl) (by kernel_rfl) ?_ ?_ ?_ ?_
      · intro z hz LL G W hC
        simp [moversI] at hz
        exact hC.quiet (by simp; omega) (by simp; omega) (by simp)
      · exact PhR.start rfl
      · intro z
        exact ⟨fun e => by subst e; rfl, fun e => by subst e; exact ⟨_, rfl⟩, fun e => by subst e; exact ⟨_, _, rfl⟩⟩
      · intro G hG
        have y1 := (hG 1).a1 rfl
        obtain ⟨gl, y6⟩ := (hG 6).a6 rfl
        obtain ⟨gr, gc, y7⟩ := (hG 7).a7 rfl
        simp only [walkF, List.drop_zero, List.drop_succ_cons, List.take_succ_cons, List.take_zero, List.toList_toArray]; (repeat (go_big_quiet_step (fail))); refine wpQuiet_nil ?_
        refine ⟨_, _, _, _, _, _, rfl, .inl ⟨rfl, ?_, ?_⟩⟩
        · intro LL W hL hA hC
          obtain ⟨⟨kk, hk1, hst⟩, hC'⟩ := hC.load 2 rfl (z := 1) (by simp) (by simp) hL (StAp.up (by decide) (by decide))
          have kn : Blk W ga 27 _ := (hst.old hk1 hgl hgz).trans Kr
          have cn := kn.cell
          simp at cn
          refine ⟨?_⟩; go_simp; simp only [movesToUpon]
          exact ⟨⟨fun _ => rfl, (fun e => by cases e), (fun e => by cases e)⟩, hC' _⟩
        · intro K' hK'; dsimp only at hK'; rw [y1]; go_big_quiet_op; go_big_quiet_on; (repeat (go_big_quiet_step (fail))); refine wpQuiet_nil ?_
          refine ⟨_, _, _, _, _, _, rfl, .inl ⟨rfl, ?_, ?_⟩⟩
          · intro LL W hL hA hC
            have hst : W = wr.drew := hC.ph.at 0 6 rfl hL (fun m' h0 _ => absurd h0 (by omega))
            subst hst
            refine ⟨?_⟩; go_simp; simp only [movesToUpon]
            exact ⟨⟨(fun e => by cases e), fun _ => ⟨_, rfl⟩, (fun e => by cases e)⟩, hC.next (by decide) 0 6 rfl hL (fun m' h0 _ => absurd h0 (by omega)) (by simp) (fun e => by cases e) ⟨rfl, upF_same _ _ _⟩⟩
          · intro K' hK'; dsimp only at hK'; rw [y6]; go_big_quiet_op; go_big_quiet_on; (repeat (go_big_quiet_step (fail))); refine wpQuiet_nil ?_
            refine ⟨_, _, _, _, _, _, rfl, .inl ⟨rfl, ?_, ?_⟩⟩
            · intro LL W hL hA hC
              have hp : ∀ m', 0 < 1 → [6, 7, 9][1 - 1]? = some m' → LL m' = true := fun m' _ h => by
                simp at h; subst h; exact hA 6 (by kernel_rfl)
              obtain ⟨rfl, hg6⟩ : W = wr.drew.alloc (.cells #[.int .i64 x0, .bool ub, .int .i64 r] 31) ∧ G 6 = .slice (some ⟨wr.heap.size, 0, none⟩) 1 1 := hC.ph.at 1 7 rfl hL hp
              rw [y6] at hg6
              injection hg6 with f1 f2 f3
              injection f1 with f1
              injection f1 with f1
              subst f1
              have own2 : wr.drew.ownsRow wz.heap.size 31 3 (.slice av k cv) k (rowG cellsA out) := own
              have own3 := own_at own2 (w' := wr.drew.alloc (.cells #[.int .i64 x0, .bool ub, .int .i64 r] 31)) (fun j hj => Below.heap_alloc _ _ _ (own2.lt j hj).2)
              have hnew := World.news_of_block (Blk.new wr.drew 31 #[.int .i64 x0, .bool ub, .int .i64 r])
              obtain ⟨g4, cap4, w4, hrun, own4, hgrow4, _, hlt4⟩ := run_append_lies (P := Try.prog) _ 25 25 wz.heap.size 31 ip (.agg #[.int .i64 0, .bool false, .int .i64 0]) 3 24 Try.underlying25 hp0 hp1 hp2 hp3 rfl (by decide) _ _ _ own3 ⟨wr.heap.size, 0, none⟩ 1 1 [.int .i64 x0, .bool ub, .int .i64 r] rfl hnew (by simp [Value.oneCell']) (by omega) (by rw [maxLen_eq]; omega) (by omega) (by simp; omega) _ rfl
              have B4 : Below wz.heap.size wr w4 := (((Below.refl _ wr).drew).alloc (by simpa using hsz) _).grown hgrow4 (by simp; omega) (fun j hj => (own3.lt j hj).1)
              refine MovesTo.append_ rfl rfl rfl hrun ?_
              exact ⟨⟨(fun e => by cases e), (fun e => by cases e), fun _ => ⟨_, _, rfl⟩⟩, hC.next (by decide) 1 7 rfl hL hp (by simp) (fun e => by cases e) ⟨g4, cap4, upF_same _ _ _, own4, B4⟩⟩
            · intro K' hK'; dsimp only at hK'; rw [y7]; go_big_quiet_op; go_big_quiet_on; (repeat (go_big_quiet_step (fail))); refine wpQuiet_nil ?_
              refine ⟨_, _, _, _, _, _, rfl, .inl ⟨rfl, ?_, ?_⟩⟩
              · intro LL W hL hA hC
                have hp : ∀ m', 0 < 2 → [6, 7, 9][2 - 1]? = some m' → LL m' = true := fun m' _ h => by
                  simp at h; subst h; exact hA 7 (by kernel_rfl)
                obtain ⟨g4, cap4, hg7, own4, B4⟩ : ∃ g4 cap, G 7 = .slice (some ⟨g4, 0, none⟩) (k + 1) cap ∧ W.ownsRow wz.heap.size 31 3 (.slice (some ⟨g4, 0, none⟩) (k + 1) cap) (k + 1) (rowG cellsA out ++ ([.int .i64 x0, .bool ub, .int .i64 r] : List Value)) ∧ Below wz.heap.size wr W := hC.ph.at 2 9 rfl hL hp
                have hg7' := hg7
                rw [y7] at hg7'
                injection hg7' with f1 f2 f3
                injection f1 with f1
                injection f1 with f1
                subst f1 f3
                have kn : Blk W ga 27 _ := (B4.block ga hgz).trans Kr
                have cn := kn.cell
                have fn := kn.frozen
                simp at cn
                have kn5 := kn.set_ 1 (.slice (some ⟨gr, 0, none⟩) (k + 1) gc)
                simp at kn5
                have nr := own_ne_blk own4 kn (by decide)
                have hk5 : ∀ q, q ≠ ga → (W.setCell ⟨ga, 1, none⟩ (.slice (some ⟨gr, 0, none⟩) (k + 1) gc)).heap[q]? = W.heap[q]? := fun q hq => Below.heap_setCell _ ⟨ga, 1, none⟩ _ q hq
                have own5 := own_at own4 (w' := W.setCell ⟨ga, 1, none⟩ (.slice (some ⟨gr, 0, none⟩) (k + 1) gc)) (fun j hj => hk5 j (fun e => nr (by rw [hj, e])))
                have B5 : Below w.heap.size wr (W.setCell ⟨ga, 1, none⟩ (.slice (some ⟨gr, 0, none⟩) (k + 1) gc)) := (B4.mono (by omega)).setCell (p := ⟨ga, 1, none⟩) (by show w.heap.size ≤ ga; omega) _
                refine ⟨?_⟩; go_simp; simp only [movesToUpon]
                refine ⟨⟨(fun e => by cases e), (fun e => by cases e), (fun e => by cases e)⟩, hC.next (by decide) 2 9 rfl hL hp (by simp) (fun _ r hr => hA r (by
                  simp at hr
                  subst hr
                  kernel_rfl)) ⟨gr, gc, by rw [upF_ne _ _ (by decide)]; exact y7, own5, B5, kn5, fun q h1 h2 => (hk5 q h2).trans (B4.block q h1)⟩⟩
              · intro K' hK'; dsimp only at hK'; go_big_quiet_op; go_big_quiet_on; (repeat (go_big_quiet_step (fail))); refine wpQuiet_nil ?_
                intro LL w9 hL hC
                obtain ⟨g4, cap4, hg7, own9, B9, k9, h9⟩ : ∃ g4 cap, G 7 = .slice (some ⟨g4, 0, none⟩) (k + 1) cap ∧ w9.ownsRow wz.heap.size 31 3 (.slice (some ⟨g4, 0, none⟩) (k + 1) cap) (k + 1) (rowG cellsA out ++ ([.int .i64 x0, .bool ub, .int .i64 r] : List Value)) ∧ Below w.heap.size wr w9 ∧ Blk w9 ga 27 #[.int .u32 a1, .slice (some ⟨g4, 0, none⟩) (k + 1) cap] ∧ ∀ q, q < wz.heap.size → q ≠ ga → w9.heap[q]? = wr.heap[q]? :=
                  hC.ph.all (fun y hy => hL y (by
                    simp at hy
                    rcases hy with rfl | rfl | rfl <;> decide)) (fun k G W h => by
                    unfold StAp at h
                    split at h
                    all_goals first | exact h.elim | simp)
                have s9 := B9.size
                have BE := B.trans B9
                clear hC hL hG y1 y6 y7 hne EB E0 E1 E2
                go_wp2_with fail
                go_roundw
                case rel => exact ⟨k + 1, out ++ [⟨x0, ub, r⟩], _, _, by omega, by omega, by go_num, by rw [List.length_append, HOL.out]; rfl, k9, by rw [← hrow2.out]; exact own9, (fun q h1 h2 => (h9 q h1 h2).trans (hkeep q h1 h2)), by omega, BE⟩
                case measure => simp only [intOf]; omega
    · have hex : ((k : Int) < (a2l : Int) ∧ ¬ (k : Int) < 15) ∨ ¬ (k : Int) < (a2l : Int) := by omega
      clear hgo
      obtain ⟨_, _, e9, SA⟩ := AdAt.of_own own HOL.out
      injection e9 with e9 e8 e7
      subst e9 e7
      have K8r : Blk wr w.heap.size 47 _ := (hkeep _ K8.lt (by omega)).trans K8
      have own8r := own_at own8 (w' := wr) (fun j hj => hkeep j (own8.lt j hj).2 (fun e => n8a (by rw [hj, e])))
      obtain ⟨_, _, e9, SLr⟩ := LnAt.of_own own8r HXL.out
      injection e9 with e9 e8 e7
      subst e9 e7
      have HPL := Lib.hid (ln_Piece a0x0 hs0 a6 m c6 xs wr SLr (by omega) HXO.out)
      obtain ⟨pf, pk, ps, hpv, hpf⟩ := pc_other (form := 1) (pieceL a0x0 xs)
      rw [hpv] at HPL
      have HT5 := Lib.hid (fun W => sub_ToA5 pf pk ps (.inr (by omega)) W)
      obtain ⟨qf, qk, qs, hqv, hqf⟩ := pc_other (form := 2) (pieceA a1 out)
      have HPA := Lib.hid (fun W (q : AdAt W av k cv out) => ad_Piece a1 hs1 av k cv out W q (by omega))
      rw [hqv] at HPA
      have HT6 := Lib.hid (fun W => sub_ToL5 qf qk qs (.inr (by omega)) W)
      have k8 := K8r.cell
      simp at k8
      clear hpv hpf hqv hqf SLr own8r own hkeep
      rcases hex with ⟨j1, j2⟩ | j1
      all_goals
        go_upto_region 9 with fail
        clear j1
        try clear j2
        go_wp2_with fail
        refine HPL.out.mono ?_
        rintro e w2 ⟨rfl, B2⟩
        have SA2 := SA.below B2
        have Kr2 := Kr.below B2 Kr.lt
        have BB2 := below_then B B2 (Nat.le_refl _)
        go_wp2_with fail
        refine (HT5.out w2).mono ?_
        rintro e w3 ⟨rfl, B3⟩
        have SA3 := SA2.below B3
        have Kr3 := Kr2.below B3 Kr2.lt
        have BB3 := below_then BB2 B3 (Nat.le_refl _)
        have B4 : Below w3.heap.size w3 (w3.alloc (.cells #[.int .u32 0, .slice none 0 0] 27)) := (Below.refl _ w3).alloc (Nat.le_refl _) _
        have SA4 := SA3.below B4
        have Kr4 := Kr3.below B4 Kr3.lt
        have BB4 := below_then BB3 B4 (Nat.le_refl _)
        go_upto_region 10 with fail
        clear k8 B2 B3 B4 SA2 SA3 Kr2 Kr3 BB2 BB3
        generalize w3.alloc (.cells #[.int .u32 0, .slice none 0 0] 27) = w4 at *
        have k4 := Kr4.cell
        simp at k4
        go_wp2_with fail
        refine (HPA.out w4 SA4).mono ?_
        rintro e w5 ⟨rfl, B5⟩
        have BB5 := below_then BB4 B5 (Nat.le_refl _)
        go_wp2_with fail
        refine (HT6.out w5).mono ?_
        rintro e w6 ⟨rfl, B6⟩
        have B7 : Below w6.heap.size w6 (w6.alloc (.cells #[.int .u32 0, .slice none 0 0] 47)) := (Below.refl _ w6).alloc (Nat.le_refl _) _
        have BE := below_then (below_then BB5 B6 (Nat.le_refl _)) B7 (Nat.le_refl _)
        go_wp2_with fail
        go_ret
        exact ⟨rfl, BE⟩
end Go.Proofs.Ytliilcadlijnoaa
