/- The statement SplitBack, walked: it returns true. No condition but the frame's. -/
import Derived.Test.YtagponhnkodjhaaSplit6
import Derived.Laws.MakeOwn
namespace Go.Proofs.Ytagponhnkodjhaa
open Go.RowKit BigFrame
attribute [local go_sem ↓] Go.wp_at_zero Go.wp_at_succ

/-- The parts of which h are there. -/
def dOf (s : ByteArray) (n : Nat) (h : Nat → Bool) : Nat → ByteArray := fun i => if h i then partB s n i else ByteArray.empty
theorem dOf_upd (s : ByteArray) (n : Nat) (h : Nat → Bool) (k : Nat) : updN (dOf s n h) k (partB s n k) = dOf s n (updN h k true) := by
  funext i
  unfold updN dOf
  by_cases e : i = k
  · subst e; simp
  · simp [e]
theorem all_of_cnt (c : Nat) (h : Nat → Bool) (hc : lacksL c h = []) : cntH c h = c ∧ ∀ i, i < c → h i = true := by
  have := lacks_len c h
  rw [hc] at this
  refine ⟨by simpa using this, fun i hi => ?_⟩
  cases e : h i with
  | true => rfl
  | false =>
    exfalso
    have hm : i ∈ lacksL c h := by unfold lacksL; exact List.mem_filter.2 ⟨List.mem_range.2 hi, by rw [e]; rfl⟩
    rw [hc] at hm
    cases hm
theorem cat_all (s : ByteArray) (n c : Nat) (h : Nat → Bool) (hh : ∀ i, i < c → h i = true) (hp : ∀ k, k < c → k * n ≤ s.size) :
    ∀ k, k ≤ c → catD k (dOf s n h) = (s.extract 0 (min s.size (k * n))).data.toList := by
  intro k
  induction k with
  | zero => intro _; simp [catD]
  | succ k ih =>
    intro hk
    rw [catD_succ, ih (by omega), ← all_next s n k (hp k (by omega))]
    have : dOf s n h k = partB s n k := by unfold dOf; rw [hh k (by omega)]; rfl
    rw [this]
    simp
theorem upd_same {α : Type} (h : Nat → α) (k : Nat) (x : α) (hk : h k = x) : updN h k x = h := by
  funext j
  unfold updN
  split
  · rename_i e
    rw [e, hk]
  · rfl
theorem own_open {w : World} {B e n : Nat} {v : Value} {xs : List Value} (h : w.ownsRow B e 1 v n xs) :
    ∃ a cap, v = .slice a n cap ∧ (0 < n → ∃ g, a = some ⟨g, 0, none⟩ ∧ B ≤ g ∧ g < w.heap.size ∧ ∀ w' : World, w'.heap[g]? = w.heap[g]? → ∀ i x, xs[i]? = some x → w'.cell? ⟨g, i, none⟩ = some x) := by
  have hlen := h.1
  rcases h.2 with ⟨rfl, rfl⟩ | ⟨g, cap, cur, rfl, hb, hg, hn, hm, hs, hx⟩
  · exact ⟨none, 0, rfl, fun h => absurd h (by omega)⟩
  · refine ⟨_, cap, rfl, fun hp => ⟨g, rfl, hb, ?_, fun w' hw i x hi => ?_⟩⟩
    · rcases Nat.lt_or_ge g w.heap.size with hlt | hge
      · exact hlt
      · rw [Array.getElem?_eq_none hge] at hg; cases hg
    · have hi' : i < n := by
        have := (List.getElem?_eq_some_iff.1 hi).1
        omega
      have := World.ownsRow.cellAt h i (by omega)
      rw [hi] at this
      have e : w'.cell? ⟨g, i, none⟩ = w.cell? ⟨g, i, none⟩ := by simp [World.cell?, hw]
      rw [e]
      exact this
/-- What is lacking is put, one behind the other. -/
def fillH (c : Nat) (h : Nat → Bool) (m : Nat) : Nat → Bool := fun i => h i || (((lacksL c h).take m).contains i)
theorem fillH_0 (c : Nat) (h : Nat → Bool) : fillH c h 0 = h := by funext i; simp [fillH]
theorem lacks_get (c : Nat) (h : Nat → Bool) (m k : Nat) (hm : (lacksL c h)[m]? = some k) : k < c ∧ h k = false := by
  have := List.mem_of_getElem? hm
  unfold lacksL at this
  have := List.mem_filter.1 this
  exact ⟨List.mem_range.1 this.1, by simpa using this.2⟩
theorem lacks_nodup (c : Nat) (h : Nat → Bool) : (lacksL c h).Nodup := List.Pairwise.filter _ List.nodup_range
theorem fillH_next (c : Nat) (h : Nat → Bool) (m k : Nat) (hm : (lacksL c h)[m]? = some k) : fillH c h m k = false ∧ updN (fillH c h m) k true = fillH c h (m + 1) := by
  have hk := lacks_get c h m k hm
  have hlt : m < (lacksL c h).length := (List.getElem?_eq_some_iff.1 hm).1
  have ht : (lacksL c h).take (m + 1) = (lacksL c h).take m ++ [k] := by
    rw [List.take_add_one, hm]
    rfl
  have hnd := lacks_nodup c h
  have hnot : k ∉ (lacksL c h).take m := by
    have : ((lacksL c h).take (m + 1)).Nodup := List.Sublist.nodup (List.take_sublist _ _) hnd
    rw [ht] at this
    have := List.nodup_append.1 this
    intro hmem
    exact this.2.2 k hmem k (by simp) rfl
  refine ⟨?_, ?_⟩
  · unfold fillH
    rw [hk.2]
    simpa using hnot
  · funext i
    unfold updN fillH
    rw [ht]
    by_cases e : i = k
    · subst e; simp
    · simp [e]
theorem fillH_all (c : Nat) (h : Nat → Bool) : lacksL c (fillH c h (lacksL c h).length) = [] := by
  unfold lacksL
  rw [List.filter_eq_nil_iff]
  intro i hi
  unfold fillH
  have ht : (lacksL c h).take (lacksL c h).length = lacksL c h := List.take_length
  have ht2 : (lacksL c h).take ((List.range c).filter fun i => !h i).length = lacksL c h := ht
  rw [ht2]
  cases e : h i with
  | true => simp
  | false =>
    have : i ∈ lacksL c h := by unfold lacksL; exact List.mem_filter.2 ⟨hi, by rw [e]; rfl⟩
    simp [this]
theorem natCells_get (l : List Nat) (i k : Nat) (h : l[i]? = some k) : (natCells l)[i]? = some (.int .i64 (k : Int)) := by
  unfold natCells
  simp [h]

set_option maxRecDepth 100000 in
set_option maxHeartbeats 4000000 in
theorem SplitBack_walk (a0 : ByteArray) (a1 : Int) (a2a : Option Addr) (a2l a2c : Nat) (a2e0 : Nat → Int) (w : World) (a0w : a0.size ≤ maxLen) (a1w : (Lit.int .i64 a1).wf = true) (a2S : SliceOf w a2a a2l a2c 1 (fun i => [.int .i64 (a2e0 i)])) (a2F0 : ∀ i, i < a2l → (Lit.int .i64 (a2e0 i)).wf = true) :
    Calls Try.prog 5 #[.string a0, .int .i64 a1, .slice a2a a2l a2c] w fun e w' => e = .returned (.bool true) ∧ Below w.heap.size w w' := by
  clear a1w a2F0
  obtain ⟨i0, hi0, hz0, hz1, hz2⟩ := info_parts (show (Try.prog.info? 4).map (fun i => (i.zero, i.size, i.bytes)) = some (some (.bool false), 1, 1) by kernel_rfl)
  obtain ⟨s, hs⟩ : ∃ s, cutB a0 400 = s := ⟨_, rfl⟩
  have hs6 : s.size ≤ 400 := by rw [← hs]; exact (cutB_size a0 400).1
  have HC := Lib.hid (fun W => law02_Cut a0 s 400 a0w (by omega) hs W)
  obtain ⟨n, hn⟩ : ∃ n : Nat, clipI a1 1 1472 = (n : Int) := ⟨(clipI a1 1 1472).toNat, by have := clip_bd a1 1 1472 (by omega); omega⟩
  have hb := clip_bd a1 1 1472 (by omega)
  rw [hn] at hb
  obtain ⟨m, hm⟩ : ∃ m, (if 1472 < a1 then 1472 else a1) = m := ⟨_, rfl⟩
  have hm2 : (if 1 < m then m else 1) = (n : Int) := by rw [← hn, ← hm]; unfold clipI; split <;> split <;> omega
  have hm3 : max 1 (min a1 1472) = (n : Int) := hn
  have wn : IntKind.i64.wrap (255 * (n : Int)) = 255 * (n : Int) := IntWalk.i64_in _ (by omega)
  obtain ⟨b1, b2⟩ := hb
  have HN := Lib.hid hn
  have hol := a2S.size_le
  clear hs hn a0w
  by_cases hok : s.size ≤ n * 255
  rotate_left
  · have j3 : decide (255 * (n : Int) < (s.size : Int)) = true := by simp; omega
    have hok2 : n * 255 < s.size := by omega
    have HOK := Lib.hid hok2
    clear hok hok2
    go_enter Try.func5, Try.ntmps5
    go_wp2_with fail
    refine (law23_awake w).mono ?_
    rintro e w1 ⟨rfl, B1⟩
    go_wp2_with fail
    refine (HC.out _).mono ?_
    rintro e w' ⟨rfl, rfl⟩
    go_wp2_with fail
    refine (split_SplitNo s a1 n (by omega) HN.out HOK.out w1).mono ?_
    rintro e w2 ⟨rfl, rfl⟩
    go_wp2_with fail
    go_ret
    exact ⟨rfl, B1⟩
  · clear hm hm2 hm3 wn
    go_enter Try.func5, Try.ntmps5
    go_wp2_with fail
    refine (law23_awake w).mono ?_
    rintro e w1 ⟨rfl, B1⟩
    go_wp2_with fail
    refine (HC.out _).mono ?_
    rintro e w' ⟨rfl, rfl⟩
    go_wp2_with fail
    refine (split_Split s a1 n (by omega) HN.out hok w1).mono ?_
    rintro e w2 ⟨v, rfl, own, hb2⟩
    have B2 := below_then B1 hb2 (Nat.le_refl _)
    obtain ⟨c, hc⟩ : ∃ c, countB s n = c := ⟨_, rfl⟩
    rw [hc] at own
    obtain ⟨f1, f2, f3, f4⟩ := count_facts s n (by omega) hok
    rw [hc] at f1 f2 f3 f4
    obtain ⟨a, cp, rfl, S⟩ := SliceOf.of_own own (fun i => .string (partB s n i)) (fun i hi => partCells_get s n c i hi)
    have n0 : ((c : Int) == 0) = false := by simp; omega
    have n1 : ¬ ((c : Int) = 0) := by omega
    have HF3 := Lib.hid f3
    have HCC := Lib.hid hc
    have S2 := a2S.below B2
    clear own hb2 f3 hc a2S
    obtain ⟨lb, loff, rfl, hlb, hlcell⟩ := S.at1 (by omega)
    have HLC := Lib.hid hlcell
    clear hlcell S
    have hmk : ∀ W : World, (Instr.makeSlice 31 (.int .i64 (c : Int)) (.int .i64 (c : Int))).run Try.prog W = .ok (.slice (some ⟨W.heap.size, 0, none⟩) c c) (W.alloc (.cells (rowV c (fun _ => .bool false)) 4)) := fun W => by
      have h := run_make (P := Try.prog) W 31 4 i0 (.bool false) Try.underlying31 hi0 hz0 .i64 .i64 (c : Int) (c : Int) (by omega) (by omega) (by rw [hz2]; omega) (by omega)
      simp only [Int.toNat_natCast] at h
      rw [h, hz1, Nat.mul_one]
      show _ = Result.ok _ (W.alloc (.cells (rowV c (fun _ => .bool false)) 4))
      rw [← madeV]
      rfl
    have HMK := Lib.hid hmk
    clear hmk
    go_wp2_with fail
    refine (frame_New 1 c 0 c (by unfold clipI; omega) w2).mono ?_
    rintro e w3 ⟨rfl, hF, hb3⟩
    have hmk := HMK.out
    have B3 := below_then B2 hb3 (Nat.le_refl _)
    have hgl := hF.lt
    go_wp2_with fail
    clear hmk
    have k3 := Blk.new w3 4 (rowV c (fun _ => .bool false))
    have hF2 := hF.below ((Below.refl _ w3).alloc (Nat.le_refl _) (.cells (rowV c (fun _ => .bool false)) 4))
    have hBn : Below w2.heap.size w2 (w3.alloc (.cells (rowV c (fun _ => .bool false)) 4)) := hb3.alloc hb3.size _
    have hw2 := B2.size
    have hd0 : (fun _ => ByteArray.empty) = dOf s n (fun _ => false) := by funext i; simp [dOf]
    rw [hd0] at hF2
    have hgs : w2.heap.size + 1 < w3.heap.size := hgl.1
    clear hF hgl hd0 hb3
    obtain ⟨gh, hgh⟩ : ∃ gh, w3.heap.size = gh := ⟨_, rfl⟩
    rw [hgh] at k3 hgs ⊢
    generalize w3.alloc (.cells (rowV c (fun _ => .bool false)) 4) = w4 at *
    go_loopw [10] (fun x wr => ∃ (i : Nat) (h : Nat → Bool), i ≤ 40 ∧ x = .int .i64 i ∧ FrameIs wr (w2.heap.size + 1) w2.heap.size 1 0 c h (dOf s n h) ∧ Blk wr gh 4 (rowV c (fun i => .bool (h i))) ∧ Below w2.heap.size w2 wr) (fun x _ => 40 - (intOf x).toNat)
    case atStart => exact ⟨0, fun _ => false, by omega, rfl, hF2, k3, hBn⟩
    case round =>
      clear k3 hBn hF2
      obtain ⟨i, h, hi, rfl, hF, kb, hB⟩ := hrel
      have hgl := hF.lt
      have hghlt := kb.lt
      by_cases hlt : i < a2l ∧ i < 40
      · obtain ⟨hl1, hl2⟩ := hlt
        obtain ⟨ob, ooff, rfl, hob, hocell⟩ := (S2.below hB).at1 (by omega)
        have o1 := hocell i hl1
        clear hocell
        obtain ⟨x, hx⟩ : ∃ x, a2e0 i = x := ⟨_, rfl⟩
        rw [hx] at o1
        clear hx
        obtain ⟨m, hm⟩ : ∃ m : Nat, x % 65536 = (m : Int) := ⟨(x % 65536).toNat, by omega⟩
        have hand : bits .and .i64 x 65535 = (m : Int) := by rw [i64_and65535, hm]
        obtain ⟨k, hk⟩ : ∃ k, m % c = k := ⟨_, rfl⟩
        have hkc : k < c := by rw [← hk]; exact Nat.mod_lt _ (by omega)
        have hr1 : (m : Int) % (c : Int) = (k : Int) := by rw [← hk]; simp
        have hr2 : (m : Int).tmod (c : Int) = (k : Int) := by rw [Int.tmod_eq_emod_of_nonneg (by omega), hr1]
        have m0 : (0 : Int) ≤ (m : Int) := by omega
        have p0 : (0 : Int) ≤ (k : Int) := by omega
        have p1 : (k : Int) < (c : Int) := by omega
        have q0 : (0 : Int) ≤ (i : Int) := by omega
        have q1 : (i : Int) < (a2l : Int) := by omega
        have q2 : (i : Int) < 40 := by omega
        have wi : IntKind.i64.wrap ((i : Int) + 1) = ((i + 1 : Nat) : Int) := by rw [IntWalk.i64_in _ (by omega)]; omega
        have l1 := (hB.cell (p := ⟨lb, loff + k, none⟩) hlb).trans (HLC.out k hkc)
        have hup := dOf_upd s n h k
        obtain ⟨p, hp⟩ : ∃ p, partB s n k = p := ⟨_, rfl⟩
        rw [hp] at l1 hup
        have hps : p.size ≤ 100000 := by rw [← hp]; unfold partB; simp; omega
        have HUP := Lib.hid hup
        clear hp hk hm hup
        obtain ⟨bk, hbk⟩ : ∃ bk, h k = bk := ⟨_, rfl⟩
        cases bk
        · have HP := Lib.hid (frame_Put (w2.heap.size + 1) w2.heap.size 1 0 c h (dOf s n h) k p wr hF hkc f2 hbk hps)
          have hr : putRes c h = 1 ∨ putRes c h = 2 := by unfold putRes; split <;> simp
          obtain ⟨r, hre⟩ : ∃ r, putRes c h = r := ⟨_, rfl⟩
          rw [hre] at HP hr
          have hr3 : (r == 3) = false := by simp; omega
          have hr4 : decide (r = 3) = false := by simp; omega
          have hr5 : ¬ r = 3 := by omega
          have HBK := Lib.hid hbk
          clear hbk hre hr hF
          go_wp2_with fail
          refine HP.out.mono ?_
          rintro e w5 ⟨rfl, hF5, hk1, hk2⟩
          have kb5 : Blk w5 gh 4 (rowV c (fun i => .bool (h i))) := (hk2 gh hghlt (by omega) (by omega)).trans kb
          have B5 : Below w2.heap.size w2 w5 := hB.trans (hk1 _ (by omega) (Nat.le_refl _) hB.size)
          have c5 := kb5.cell k
          have z5 := kb5.frozen k
          rw [rowV_get _ _ _ hkc, HBK.out] at c5
          clear hk1 hk2 kb hB HP
          go_wp2_with fail
          go_roundw
          case rel =>
            refine ⟨i + 1, updN h k true, by omega, by go_num, ?_, ?_, B5.setCell (show w2.heap.size ≤ gh by omega) _⟩
            · rw [HUP.out] at hF5
              exact hF5.kept (Below.heap_setCell _ _ _ _ (show w2.heap.size + 1 ≠ gh by omega)) (Below.heap_setCell _ _ _ _ (show w2.heap.size ≠ gh by omega))
            · have := kb5.set_ k (.bool true)
              rw [rowV_set, updN_map h k true Value.bool] at this
              exact this
          case measure => simp only [intOf]; omega
        · have HP := Lib.hid (frame_PutTwice (w2.heap.size + 1) w2.heap.size 1 0 c h (dOf s n h) k p wr hF hkc f2 hbk)
          have HBK := Lib.hid hbk
          clear hbk hF
          go_wp2_with fail
          refine HP.out.mono ?_
          rintro e w5 ⟨rfl, hF5, hk1⟩
          have kb5 : Blk w5 gh 4 (rowV c (fun i => .bool (h i))) := kb.below hk1 hghlt
          have B5 : Below w2.heap.size w2 w5 := hB.trans (hk1.mono hB.size)
          have c5 := kb5.cell k
          have z5 := kb5.frozen k
          rw [rowV_get _ _ _ hkc, HBK.out] at c5
          clear hk1 kb hB HP
          go_wp2_with fail
          go_roundw
          case rel =>
            have hsame : updN h k true = h := upd_same h k true HBK.out
            refine ⟨i + 1, h, by omega, by go_num, ?_, ?_, B5.setCell (show w2.heap.size ≤ gh by omega) _⟩
            · exact hF5.kept (Below.heap_setCell _ _ _ _ (show w2.heap.size + 1 ≠ gh by omega)) (Below.heap_setCell _ _ _ _ (show w2.heap.size ≠ gh by omega))
            · have := kb5.set_ k (.bool true)
              rw [rowV_set, updN_map h k true Value.bool, hsame] at this
              exact this
          case measure => simp only [intOf]; omega
      · have hexit : ((i : Int) < (a2l : Int) ∧ ¬ (i : Int) < 40) ∨ ¬ (i : Int) < (a2l : Int) := by omega
        have q0 : (0 : Int) ≤ (i : Int) := by omega
        have HL := Lib.hid (frame_Lacks (w2.heap.size + 1) w2.heap.size 1 0 c h (dOf s n h) wr hF f2)
        obtain ⟨ln, hln⟩ : ∃ ln, (lacksL c h).length = ln := ⟨_, rfl⟩
        have hll : ln ≤ c := by have := lacks_len c h; omega
        rw [hln] at HL
        have HLN := Lib.hid hln
        have HFIN : Hid (∀ h', lacksL c h' = [] → cntH c h' = c ∧ (⟨(catD c (dOf s n h')).toArray⟩ : ByteArray) = s) := Lib.hid (fun h' hh' => by
          obtain ⟨r1, r2⟩ := all_of_cnt c h' hh'
          refine ⟨r1, ?_⟩
          have hp : ∀ k, k < c → k * n ≤ s.size := fun k hk => by
            have : k * n ≤ (c - 1) * n := Nat.mul_le_mul_right n (by omega)
            rcases HF3.out with h3 | h3
            · have : k = 0 := by omega
              subst this; simp
            · omega
          rw [cat_all s n c h' r2 hp c (Nat.le_refl _), all_end s n c f4])
        clear hln hlt hi S2 f4
        rcases hexit with ⟨e1, e2⟩ | e1
        all_goals
          go_wp2_with fail
          refine HL.out.mono ?_
          rintro e w5 ⟨v, rfl, own, hb5⟩
          obtain ⟨va, vc, rfl, hrow⟩ := own_open own
          have kb5 : Blk w5 gh 4 (rowV c (fun i => .bool (h i))) := kb.below hb5 hghlt
          have hF5 := hF.below hb5
          have B5 : Below w2.heap.size w2 w5 := hB.trans (hb5.mono hB.size)
          have hs5 := hb5.size
          have HROW := Lib.hid hrow
          clear own hrow hb5 HL hF kb hB e1
          go_wp2_with fail
          go_loopw [83] (fun x wr => ∃ m : Nat, m ≤ ln ∧ x = .int .i64 m ∧ FrameIs wr (w2.heap.size + 1) w2.heap.size 1 0 c (fillH c h m) (dOf s n (fillH c h m)) ∧ Below w2.heap.size w2 wr ∧ w5.heap.size ≤ wr.heap.size ∧ (∀ j, j < w5.heap.size → j ≠ w2.heap.size + 1 → j ≠ w2.heap.size → wr.heap[j]? = w5.heap[j]?)) (fun x _ => ln - (intOf x).toNat)
          case atStart => exact ⟨0, by omega, rfl, by rw [fillH_0]; exact hF5, B5, Nat.le_refl _, fun _ _ _ _ => rfl⟩
          case round =>
            obtain ⟨m, hm, rfl, hFx, hBx, hsx, hox⟩ := hrel
            have HOX := Lib.hid hox
            clear hox
            by_cases hml : m < ln
            · obtain ⟨k, hk⟩ : ∃ k, (lacksL c h)[m]? = some k := ⟨_, List.getElem?_eq_getElem (by rw [HLN.out]; exact hml)⟩
              obtain ⟨hkc, hkf⟩ := lacks_get c h m k hk
              obtain ⟨hf1, hf2⟩ := fillH_next c h m k hk
              obtain ⟨vg, rfl, hv1, hv2, hv3⟩ := HROW.out (by omega)
              have r1 := hv3 wr (HOX.out vg hv2 (by omega) (by omega)) m _ (natCells_get _ m k hk)
              have kbx : Blk wr gh 4 (rowV c (fun i => .bool (h i))) := (HOX.out gh (by omega) (by omega) (by omega)).trans kb5
              have c5 := kbx.cell k
              rw [rowV_get _ _ _ hkc, hkf] at c5
              have l1 := (hBx.cell (p := ⟨lb, loff + k, none⟩) hlb).trans (HLC.out k hkc)
              have hup := dOf_upd s n (fillH c h m) k
              rw [hf2] at hup
              obtain ⟨p, hp⟩ : ∃ p, partB s n k = p := ⟨_, rfl⟩
              rw [hp] at l1 hup
              have hps : p.size ≤ 100000 := by rw [← hp]; unfold partB; simp; omega
              have HP := Lib.hid (frame_Put (w2.heap.size + 1) w2.heap.size 1 0 c (fillH c h m) (dOf s n (fillH c h m)) k p wr hFx hkc f2 hf1 hps)
              have hr : putRes c (fillH c h m) = 1 ∨ putRes c (fillH c h m) = 2 := by unfold putRes; split <;> simp
              obtain ⟨r, hre⟩ : ∃ r, putRes c (fillH c h m) = r := ⟨_, rfl⟩
              rw [hre, hf2, hup] at HP
              rw [hre] at hr
              have hr3 : (r == 4) = false := by simp; omega
              have hr4 : decide (r = 4) = false := by simp; omega
              have hr5 : ¬ r = 4 := by omega
              have p0 : (0 : Int) ≤ (k : Int) := by omega
              have p1 : (k : Int) < (c : Int) := by omega
              have p2 : decide ((k : Int) < 0) = false := by simp
              have p3 : decide ((c : Int) ≤ (k : Int)) = false := by simp; omega
              have s0 : (0 : Int) ≤ (m : Int) := by omega
              have s1 : (m : Int) < (ln : Int) := by omega
              have wm : IntKind.i64.wrap ((m : Int) + 1) = ((m + 1 : Nat) : Int) := by rw [IntWalk.i64_in _ (by omega)]; omega
              have hs0 := hBx.size
              clear hp hup hre hr hf1 hf2 hkf hk hv3 kbx hFx
              go_wp2_with fail
              refine HP.out.mono ?_
              rintro e w6 ⟨rfl, hF6, hk1, hk2⟩
              have B6 : Below w2.heap.size w2 w6 := hBx.trans (hk1 _ (by omega) (Nat.le_refl _) hBx.size)
              have hs6 := (hk1 0 (Nat.zero_le _) (Nat.zero_le _) (Nat.zero_le _)).size
              have HK2 := Lib.hid hk2
              clear hk1 hk2 HP
              go_wp2_with fail
              go_roundw
              case rel => exact ⟨m + 1, by omega, by go_num, hF6, B6, by omega, fun j h1 h2 h3 => (HK2.out j (by omega) h2 h3).trans (HOX.out j h1 h2 h3)⟩
              case measure => simp only [intOf]; omega
            · obtain rfl : m = ln := by omega
              obtain ⟨r1, r2⟩ := HFIN.out (fillH c h m) (by rw [← HLN.out]; exact fillH_all c h)
              have HD := Lib.hid (frame_Data (w2.heap.size + 1) w2.heap.size 1 0 c (fillH c h m) (dOf s n (fillH c h m)) wr hFx f2 r1)
              rw [r2] at HD
              have j1 : ¬ (m : Int) < (m : Int) := by omega
              clear r1 r2 hFx
              go_wp2_with fail
              refine HD.out.mono ?_
              rintro e w6 ⟨rfl, hb6⟩
              go_wp2_with fail
              go_ret
              exact ⟨rfl, B2.trans ((hBx.trans (hb6.mono hBx.size)).mono hw2)⟩
end Go.Proofs.Ytagponhnkodjhaa
