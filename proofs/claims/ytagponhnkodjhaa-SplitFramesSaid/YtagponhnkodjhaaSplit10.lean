/- The reference's Put: a part is kept, was, may not be. No condition but that the frame stands. -/
import Derived.Test.YtagponhnkodjhaaSplit8
import Derived.Laws.OwnMore
namespace Go.Proofs.Ytagponhnkodjhaa
open Go.RowKit Go.Maps Go.Shelf BigFrame
attribute [local go_sem ↓] Go.wp_at_zero Go.wp_at_succ

def rowL (n : Nat) (f : Nat → Value) : List Value := (List.range n).map f
theorem rowL_get (n : Nat) (f : Nat → Value) (i : Nat) (h : i < n) : (rowL n f)[i]? = some (f i) := by simp [rowL, h]
theorem rowL_len (n : Nat) (f : Nat → Value) : (rowL n f).length = n := by simp [rowL]
theorem rowL_set (n : Nat) (f : Nat → Value) (i : Nat) (x : Value) : (rowL n f).set i x = rowL n (updN f i x) := by
  have := rowV_set n f i x
  have h2 := congrArg Array.toList this
  simpa [rowV, rowL] using h2
theorem rowL_news {w : World} {b off n : Nat} {f : Nat → Value} (hc : ∀ i, i < n → w.cell? ⟨b, off + i, none⟩ = some (f i)) : ∀ j u, (rowL n f)[j]? = some u → w.cell? ((⟨b, off, none⟩ : Addr).add j) = some u := by
  intro j u hu
  have hj : j < n := by
    have := (List.getElem?_eq_some_iff.1 hu).1
    rwa [rowL_len] at this
  rw [rowL_get n f j hj] at hu
  have hadd : (⟨b, off, none⟩ : Addr).add j = ⟨b, off + j, none⟩ := by unfold Addr.add; split <;> simp_all
  rw [hadd, hc j hj, hu]
theorem own_lit (w : World) (E : TypeId) : (w.alloc (.cells #[] E)).ownsRow w.heap.size E 1 (.slice (some ⟨w.heap.size, 0, none⟩) 0 0) 0 [] := by
  have := World.ownsRow_lit (base := w.heap.size) (e := E) (size := 1) w #[] 0 (Nat.le_refl _) (by decide) (by simp)
  simpa using this
theorem own_keep {w w' : World} {B B' e n : Nat} {v : Value} {xs : List Value} (h : w.ownsRow B e 1 v n xs) (hb : Below w.heap.size w w') (hB : B' ≤ B) : w'.ownsRow B' e 1 v n xs := by
  refine ⟨h.1, ?_⟩
  rcases h.2 with hn | ⟨g, cap, cur, rfl, hbg, hg, r⟩
  · exact .inl hn
  · have hlt : g < w.heap.size := by
      rcases Nat.lt_or_ge g w.heap.size with hlt | hge
      · exact hlt
      · rw [Array.getElem?_eq_none hge] at hg; cases hg
    exact .inr ⟨g, cap, cur, rfl, Nat.le_trans hB hbg, (hb.block g hlt).trans hg, r⟩
theorem own_same {w w' : World} {B e n g cap : Nat} {xs : List Value} (h : w.ownsRow B e 1 (.slice (some ⟨g, 0, none⟩) n cap) n xs) (hk : w'.heap[g]? = w.heap[g]?) : w'.ownsRow B e 1 (.slice (some ⟨g, 0, none⟩) n cap) n xs := by
  refine ⟨h.1, ?_⟩
  rcases h.2 with hn | ⟨g', cap', cur, he, hbg, hg, r⟩
  · exact .inl hn
  · refine .inr ⟨g', cap', cur, he, hbg, ?_, r⟩
    injection he with he _ _
    injection he with he
    injection he with he _ _
    subst he
    rw [hk]; exact hg
theorem own_lt {w : World} {B e n g cap : Nat} {xs : List Value} (h : w.ownsRow B e 1 (.slice (some ⟨g, 0, none⟩) n cap) n xs) : B ≤ g ∧ g < w.heap.size := h.lt g rfl
theorem two_new (w : World) (A B : Array Value) (t u : TypeId) : Blk ((w.alloc (.cells A t)).alloc (.cells B u)) w.heap.size t A ∧ Blk ((w.alloc (.cells A t)).alloc (.cells B u)) (w.heap.size + 1) u B ∧ Below w.heap.size w ((w.alloc (.cells A t)).alloc (.cells B u)) :=
  ⟨(Blk.new w t A).alloc _, Blk.new1 w _ u B, ((Below.refl _ w).alloc (Nat.le_refl _) _).alloc (by simp) _⟩

/-- A slice outside the one block that has changed. -/
theorem SliceOf.moved {w w' : World} {a : Option Addr} {len cap size q : Nat} {E : Nat → List Value} (h : SliceOf w a len cap size E) (hk : ∀ b, b ≠ q → w'.heap[b]? = w.heap[b]?) (ha : 0 < len → ∃ b off, a = some ⟨b, off, none⟩ ∧ b ≠ q) : SliceOf w' a len cap size E := by
  refine ⟨h.1, h.2.1, fun hp => ?_⟩
  obtain ⟨b, off, he, hlt, hc⟩ := h.2.2 hp
  obtain ⟨b', off', he', hne⟩ := ha hp
  rw [he] at he'
  injection he' with he'
  injection he' with e1 e2
  subst e1
  have hb : w'.heap[b]? = w.heap[b]? := hk b hne
  refine ⟨b, off, he, ?_, fun i hi j v hv => ?_⟩
  · rcases Nat.lt_or_ge b w'.heap.size with hl | hg
    · exact hl
    · rw [Array.getElem?_eq_none hg, Array.getElem?_eq_getElem hlt] at hb; cases hb
  · rw [← hc i hi j v hv]
    exact World.cell?_of_block hb
set_option maxHeartbeats 4000000 in
theorem ref23_PutTwice (v : Value) (time first : Int) (c : Nat) (h : Nat → Bool) (d : Nat → ByteArray) (k : Nat) (s : ByteArray) (w : World) (R : RefV w v time first c h d) (hk : k < c) (hc : c ≤ 255) (hh : h k = true) :
    Calls Try.prog 16 #[v, .int .i64 (k : Int), .int .i64 (c : Int), .string s] w fun e w' => e = .returned (.tuple #[v, .int .i64 3]) ∧ Below w.heap.size w w' := by
  obtain ⟨ha, hcp, pa, pc, rfl, SH, SP⟩ := R
  obtain ⟨hb, ho, rfl, hhb, hcell⟩ := SH.at1 (by omega)
  have hx := hcell k hk
  rw [hh] at hx
  clear hcell SH SP
  obtain ⟨K4, K8, B1⟩ := two_new w #[.int .i64 time, .int .i64 first, .slice (some ⟨hb, ho, none⟩) c hcp, .slice pa c pc] #[.int .i64 0, .int .i64 0, .slice none 0 0, .slice none 0 0] 41 41
  have j1 : ((c : Int) != (c : Int)) = false := by simp
  have j2 : decide ((k : Int) < 0) = false := by simp
  have j3 : decide ((c : Int) ≤ (k : Int)) = false := by simp; omega
  have p0 : (0 : Int) ≤ (k : Int) := by omega
  have p1 : (k : Int) < (c : Int) := by omega
  go_enter Try.func16, Try.ntmps16
  go_upto_region 1 with fail
  generalize (w.alloc (.cells #[.int .i64 time, .int .i64 first, .slice (some ⟨hb, ho, none⟩) c hcp, .slice pa c pc] 41)).alloc (.cells #[.int .i64 0, .int .i64 0, .slice none 0 0, .slice none 0 0] 41) = w1 at *
  have c4 := K4.cell
  have c8 := K8.cell
  have f8 := K8.frozen
  simp at c4 c8
  have dd := (B1.cell (p := ⟨hb, ho + k, none⟩) hhb).trans hx
  go_upto_region 4 with fail
  obtain ⟨w2, e2, K2, B2, _⟩ := four_set K8 rfl (.int .i64 time) (.int .i64 first) (.slice (some ⟨hb, ho, none⟩) c hcp) (.slice pa c pc) w.heap.size (by omega)
  have c2 := K2.cell
  simp at c2
  go_wp2_with fail
  refine bodyPost_ret (v := .tuple #[.agg #[.int .i64 time, .int .i64 first, .slice (some ⟨hb, ho, none⟩) c hcp, .slice pa c pc], .int .i64 3]) ?_ rfl ⟨rfl, B1.trans B2⟩
  simp [results, Try.results16, go_sem, c2]
set_option maxHeartbeats 4000000 in
theorem ref23_PutBad (v : Value) (time first : Int) (c : Nat) (h : Nat → Bool) (d : Nat → ByteArray) (i pc0 : Int) (s : ByteArray) (w : World) (R : RefV w v time first c h d) (hbad : pc0 ≠ c ∨ i < 0 ∨ (c : Int) ≤ i) :
    Calls Try.prog 16 #[v, .int .i64 i, .int .i64 pc0, .string s] w fun e w' => e = .returned (.tuple #[v, .int .i64 4]) ∧ Below w.heap.size w w' := by
  obtain ⟨ha, hcp, pa, pc, rfl, SH, SP⟩ := R
  clear SH SP
  obtain ⟨K4, K8, B1⟩ := two_new w #[.int .i64 time, .int .i64 first, .slice ha c hcp, .slice pa c pc] #[.int .i64 0, .int .i64 0, .slice none 0 0, .slice none 0 0] 41 41
  obtain ⟨x1, j1⟩ : ∃ x1, (pc0 != (c : Int)) = x1 := ⟨_, rfl⟩
  obtain ⟨x2, j2⟩ : ∃ x2, decide (i < 0) = x2 := ⟨_, rfl⟩
  obtain ⟨x3, j3⟩ : ∃ x3, decide (pc0 ≤ i) = x3 := ⟨_, rfl⟩
  have hx : (x1 = true) ∨ (x1 = false ∧ x2 = true) ∨ (x1 = false ∧ x2 = false ∧ x3 = true) := by
    by_cases h1 : pc0 = c
    · subst h1
      by_cases h2 : i < 0
      · right; left; exact ⟨by rw [← j1]; simp, by rw [← j2]; simp [h2]⟩
      · right; right; exact ⟨by rw [← j1]; simp, by rw [← j2]; simp [h2], by rw [← j3]; simp; omega⟩
    · left; rw [← j1]; simp [h1]
  clear hbad
  rcases hx with rfl | ⟨rfl, rfl⟩ | ⟨rfl, rfl, rfl⟩
  all_goals
    go_enter Try.func16, Try.ntmps16
    go_upto_region 1 with fail
    generalize (w.alloc (.cells #[.int .i64 time, .int .i64 first, .slice ha c hcp, .slice pa c pc] 41)).alloc (.cells #[.int .i64 0, .int .i64 0, .slice none 0 0, .slice none 0 0] 41) = w1 at *
    have c4 := K4.cell
    have c8 := K8.cell
    have f8 := K8.frozen
    simp at c4 c8
    go_upto_region 2 with fail
    obtain ⟨w2, e2, K2, B2, _⟩ := four_set K8 rfl (.int .i64 time) (.int .i64 first) (.slice ha c hcp) (.slice pa c pc) w.heap.size (by omega)
    have c2 := K2.cell
    simp at c2
    go_wp2_with fail
    refine bodyPost_ret (v := .tuple #[.agg #[.int .i64 time, .int .i64 first, .slice ha c hcp, .slice pa c pc], .int .i64 4]) ?_ rfl ⟨rfl, B1.trans B2⟩
    simp [results, Try.results16, go_sem, c2]

set_option maxHeartbeats 4000000 in
theorem ref23_PutOk (v : Value) (time first : Int) (c : Nat) (h : Nat → Bool) (d : Nat → ByteArray) (k : Nat) (s : ByteArray) (w : World) (R : RefV w v time first c h d) (hk : k < c) (hc : c ≤ 255) (hh : h k = false) (hs : s.size ≤ 100000) :
    Calls Try.prog 16 #[v, .int .i64 (k : Int), .int .i64 (c : Int), .string s] w fun e w' => ∃ v', e = .returned (.tuple #[v', .int .i64 (putRes c h)]) ∧ RefV w' v' time first c (updN h k true) (updN d k s) ∧ Below w.heap.size w w' := by
  obtain ⟨i0, hi0, hz0, hz1, hz2⟩ := info_parts (show (Try.prog.info? 4).map (fun i => (i.zero, i.size, i.bytes)) = some (some (.bool false), 1, 1) by kernel_rfl)
  obtain ⟨i1, hi1, hy0, hy1, hy2⟩ := info_parts (show (Try.prog.info? 9).map (fun i => (i.zero, i.size, i.bytes)) = some (some (.string ByteArray.empty), 1, 16) by kernel_rfl)
  obtain ⟨ha, hcp, pa, pc, rfl, SH, SP⟩ := R
  obtain ⟨hb, ho, rfl, hhb, hcell⟩ := SH.at1 (by omega)
  obtain ⟨pb, po, rfl, hpb, pcell⟩ := SP.at1 (by omega)
  have hx := hcell k hk
  rw [hh] at hx
  clear SH SP
  have HC := Lib.hid hcell
  have PC := Lib.hid pcell
  have hcnt := cntH_upd c k h hk hh
  have hl := lacks_len c (updN h k true)
  have HLK := Lib.hid (fun W v (K : RefV W v time first c (updN h k true) (updN d k s)) => ref23_Lacks v time first c _ _ W K (by omega) hc)
  obtain ⟨ll, hll⟩ : ∃ ll, (lacksL c (updN h k true)).length = ll := ⟨_, rfl⟩
  rw [hll] at HLK hl
  obtain ⟨r, hr⟩ : ∃ r, putRes c h = r := ⟨_, rfl⟩
  have hr2 : r = if ll = 0 then 2 else 1 := by
    rw [← hr]; unfold putRes
    by_cases e : cntH c h + 1 = c
    · rw [if_pos e, if_pos (by omega)]
    · rw [if_neg e, if_neg (by omega)]
  rw [hr]
  clear hcell pcell hcnt hl hll hr
  obtain ⟨K4, K8, B1⟩ := two_new w #[.int .i64 time, .int .i64 first, .slice (some ⟨hb, ho, none⟩) c hcp, .slice (some ⟨pb, po, none⟩) c pc] #[.int .i64 0, .int .i64 0, .slice none 0 0, .slice none 0 0] 41 41
  have j1 : ((c : Int) != (c : Int)) = false := by simp
  have j2 : decide ((k : Int) < 0) = false := by simp
  have j3 : decide ((c : Int) ≤ (k : Int)) = false := by simp; omega
  have p0 : (0 : Int) ≤ (k : Int) := by omega
  have p1 : (k : Int) < (c : Int) := by omega
  have HR := Lib.hid hr2
  clear hr2
  go_enter Try.func16, Try.ntmps16
  go_upto_region 1 with fail
  generalize (w.alloc (.cells #[.int .i64 time, .int .i64 first, .slice (some ⟨hb, ho, none⟩) c hcp, .slice (some ⟨pb, po, none⟩) c pc] 41)).alloc (.cells #[.int .i64 0, .int .i64 0, .slice none 0 0, .slice none 0 0] 41) = w1 at *
  have c4 := K4.cell
  simp at c4
  have dd := (B1.cell (p := ⟨hb, ho + k, none⟩) hhb).trans hx
  go_upto_region 5 with fail
  clear c4 dd hx
  -- append of the marks
  have hs1 := K8.lt
  have own1 := own_lit w1 4
  have B1a : Below w.heap.size w (w1.alloc (.cells #[] 4)) := B1.alloc B1.size _
  have hn1 := rowL_news (w := w1.alloc (.cells #[] 4)) (f := fun i => .bool (h i)) (fun i hi => (B1a.cell (p := ⟨hb, ho + i, none⟩) hhb).trans (HC.out i hi))
  have c4 := (K4.alloc (.cells #[] 4)).cell
  simp at c4
  go_upto_region 6 with (at_builtin; refine wpList_append_lies _ rfl _ _ 31 rfl w1.heap.size 4 i0 (.bool false) 1 1 Try.underlying31 hi0 hz0 hz1 hz2 rfl (by decide) _ _ _ rfl own1 ⟨hb, ho, none⟩ c hcp (rowL c (fun i => .bool (h i))) rfl (by rw [rowL_len]; omega) hn1 (by intro u hu; obtain ⟨i, _, rfl⟩ := List.mem_map.1 hu; rfl) (by omega) (by rw [maxLen_eq]; omega) (by omega) (by simp) _ rfl ?_; intro g2 cap2 w2 own2 hgrow2 hat2 hlt2)
  have hg2 : (w1.alloc (.cells #[] 4)).grownBy w2 (some w1.heap.size) := hgrow2
  simp only [Nat.zero_add, List.nil_append] at own2
  clear hgrow2 hat2 c4 hn1
  have B2 : Below w1.heap.size w1 w2 := ((Below.refl _ w1).alloc (Nat.le_refl _) _).grown hg2 (by simp) (fun j hj => by injection hj with hj; omega)
  clear hg2 own1 B1a
  have K4 := K4.below B2 (by omega)
  have K8 := K8.below B2 hs1
  have B2w := below_then B1 B2 (Nat.le_refl _)
  have L2 := own_lt own2
  -- append of the texts
  have own1 := own_lit w2 9
  have B2a : Below w.heap.size w (w2.alloc (.cells #[] 9)) := B2w.alloc B2w.size _
  have hn1 := rowL_news (w := w2.alloc (.cells #[] 9)) (f := fun i => .string (d i)) (fun i hi => (B2a.cell (p := ⟨pb, po + i, none⟩) hpb).trans (PC.out i hi))
  have c4 := (K4.alloc (.cells #[] 9)).cell
  simp at c4
  go_upto_region 7 with (at_builtin; refine wpList_append_lies _ rfl _ _ 24 rfl w2.heap.size 9 i1 (.string ByteArray.empty) 1 16 Try.underlying24 hi1 hy0 hy1 hy2 rfl (by decide) _ _ _ rfl own1 ⟨pb, po, none⟩ c pc (rowL c (fun i => .string (d i))) rfl (by rw [rowL_len]; omega) hn1 (by intro u hu; obtain ⟨i, _, rfl⟩ := List.mem_map.1 hu; rfl) (by omega) (by rw [maxLen_eq]; omega) (by omega) (by simp) _ rfl ?_; intro g3 cap3 w3 own3 hgrow3 hat3 hlt3)
  have hg3 : (w2.alloc (.cells #[] 9)).grownBy w3 (some w2.heap.size) := hgrow3
  simp only [Nat.zero_add, List.nil_append] at own3
  clear hgrow3 hat3 c4 hn1
  have B3 : Below w2.heap.size w2 w3 := ((Below.refl _ w2).alloc (Nat.le_refl _) _).grown hg3 (by simp) (fun j hj => by injection hj with hj; omega)
  clear hg3 own1 B2a
  have hs2 := B2.size
  have K4 := K4.below B3 (by omega)
  have K8 := K8.below B3 (by omega)
  have B3w := below_then B2w B3 (Nat.le_refl _)
  have own2 := own_keep own2 B3 (Nat.le_refl _)
  have L3 := own_lt own3
  -- the mark and the text are stored
  have h2c := own2.cellAt k (by omega)
  rw [rowL_get _ _ _ hk] at h2c
  have h2f := own2.frozenAt k
  go_upto_region 8 with fail
  have own2' := (own2.stored k (.bool true)).1
  rw [rowL_set, updN_map h k true Value.bool] at own2'
  have hset4 : ∀ q, q ≠ g2 → (w3.setCell ⟨g2, k, none⟩ (.bool true)).heap[q]? = w3.heap[q]? := fun q hq => Below.heap_setCell _ ⟨g2, k, none⟩ _ q hq
  have B4w : Below w.heap.size w (w3.setCell ⟨g2, k, none⟩ (.bool true)) := B3w.setCell (show w.heap.size ≤ g2 by omega) _
  have hsz4 : (w3.setCell ⟨g2, k, none⟩ (.bool true)).heap.size = w3.heap.size := by simp [World.setCell]
  generalize w3.setCell ⟨g2, k, none⟩ (.bool true) = w4 at *
  have K4 : Blk w4 w.heap.size 41 _ := (hset4 _ (by omega)).trans K4
  have K8 : Blk w4 (w.heap.size + 1) 41 _ := (hset4 _ (by omega)).trans K8
  have own3 := own_same (w' := w4) own3 (hset4 _ (by omega))
  clear h2c h2f own2 hset4
  have h3c := own3.cellAt k (by omega)
  rw [rowL_get _ _ _ hk] at h3c
  have h3f := own3.frozenAt k
  go_upto_region 9 with fail
  have own3' := (own3.stored k (.string s)).1
  rw [rowL_set, updN_map d k s Value.string] at own3'
  have hset5 : ∀ q, q ≠ g3 → (w4.setCell ⟨g3, k, none⟩ (.string s)).heap[q]? = w4.heap[q]? := fun q hq => Below.heap_setCell _ ⟨g3, k, none⟩ _ q hq
  have B5w : Below w.heap.size w (w4.setCell ⟨g3, k, none⟩ (.string s)) := B4w.setCell (show w.heap.size ≤ g3 by omega) _
  have hsz5 : (w4.setCell ⟨g3, k, none⟩ (.string s)).heap.size = w4.heap.size := by simp [World.setCell]
  generalize w4.setCell ⟨g3, k, none⟩ (.string s) = w5 at *
  have K4 : Blk w5 w.heap.size 41 _ := (hset5 _ (by omega)).trans K4
  have K8 : Blk w5 (w.heap.size + 1) 41 _ := (hset5 _ (by omega)).trans K8
  have own2 := own_same (w' := w5) own2' (hset5 _ (by omega))
  clear h3c h3f own3 hset5 own2'
  -- the frame's fields
  have c4 := K4.cell
  have f4 := K4.frozen
  simp at c4
  go_upto_region 10 with fail
  have K4' := K4.set_ 2 (.slice (some ⟨g2, 0, none⟩) c cap2)
  simp at K4'
  have hset6 : ∀ q, q ≠ w.heap.size → (w5.setCell ⟨w.heap.size, 2, none⟩ (.slice (some ⟨g2, 0, none⟩) c cap2)).heap[q]? = w5.heap[q]? := fun q hq => Below.heap_setCell _ ⟨w.heap.size, 2, none⟩ _ q hq
  have B6w : Below w.heap.size w (w5.setCell ⟨w.heap.size, 2, none⟩ (.slice (some ⟨g2, 0, none⟩) c cap2)) := B5w.setCell (Nat.le_refl _) _
  have hsz6 : (w5.setCell ⟨w.heap.size, 2, none⟩ (.slice (some ⟨g2, 0, none⟩) c cap2)).heap.size = w5.heap.size := by simp [World.setCell]
  generalize w5.setCell ⟨w.heap.size, 2, none⟩ (.slice (some ⟨g2, 0, none⟩) c cap2) = w6 at *
  have K8 : Blk w6 (w.heap.size + 1) 41 _ := (hset6 _ (by omega)).trans K8
  have own2 := own_same (w' := w6) own2 (hset6 _ (by omega))
  have own3 := own_same (w' := w6) own3' (hset6 _ (by omega))
  clear c4 f4 K4 hset6 own3'
  have c4 := K4'.cell
  have f4 := K4'.frozen
  simp at c4
  go_upto_region 11 with fail
  have K4 := K4'.set_ 3 (.slice (some ⟨g3, 0, none⟩) c cap3)
  simp at K4
  have hset7 : ∀ q, q ≠ w.heap.size → (w6.setCell ⟨w.heap.size, 3, none⟩ (.slice (some ⟨g3, 0, none⟩) c cap3)).heap[q]? = w6.heap[q]? := fun q hq => Below.heap_setCell _ ⟨w.heap.size, 3, none⟩ _ q hq
  have B7w : Below w.heap.size w (w6.setCell ⟨w.heap.size, 3, none⟩ (.slice (some ⟨g3, 0, none⟩) c cap3)) := B6w.setCell (Nat.le_refl _) _
  have hsz7 : (w6.setCell ⟨w.heap.size, 3, none⟩ (.slice (some ⟨g3, 0, none⟩) c cap3)).heap.size = w6.heap.size := by simp [World.setCell]
  generalize w6.setCell ⟨w.heap.size, 3, none⟩ (.slice (some ⟨g3, 0, none⟩) c cap3) = w7 at *
  have K8 : Blk w7 (w.heap.size + 1) 41 _ := (hset7 _ (by omega)).trans K8
  have own2 := own_same (w' := w7) own2 (hset7 _ (by omega))
  have own3 := own_same (w' := w7) own3 (hset7 _ (by omega))
  clear c4 f4 K4' hset7
  obtain ⟨_, _, e1, S1⟩ := SliceOf.of_own own2 (fun i => .bool (updN h k true i)) (fun i hi => rowL_get _ _ _ hi)
  obtain ⟨_, _, e3, S3⟩ := SliceOf.of_own own3 (fun i => .string (updN d k s i)) (fun i hi => rowL_get _ _ _ hi)
  injection e1 with e1 _ e1c
  injection e3 with e3 _ e3c
  subst e1 e3 e1c e3c
  have R7 : RefV w7 (.agg #[.int .i64 time, .int .i64 first, .slice (some ⟨g2, 0, none⟩) c cap2, .slice (some ⟨g3, 0, none⟩) c cap3]) time first c (updN h k true) (updN d k s) := ⟨_, _, _, _, rfl, S1, S3⟩
  have HL := HLK.out _ _ R7
  have c4 := K4.cell
  simp at c4
  clear own2 own3 S1 S3 B1 B2 B2w B3 B3w B4w B5w B6w
  have hs7 : w.heap.size + 1 < w7.heap.size := K8.lt
  go_wp2_with fail
  refine HL.mono ?_
  rintro e w8 ⟨v8, rfl, own8, hb8⟩
  obtain ⟨va, vc, rfl, _⟩ := own_open own8
  have B8 := below_then B7w hb8 (Nat.le_refl _)
  have R8 := R7.below hb8
  have K4 := K4.below hb8 K4.lt
  have K8 := K8.below hb8 K8.lt
  clear own8 HL c4 R7
  have c4 := K4.cell
  have c8 := K8.cell
  have f8 := K8.frozen
  simp at c4 c8
  obtain ⟨w9, e9, K9, B9, _⟩ := four_set K8 rfl (.int .i64 time) (.int .i64 first) (.slice (some ⟨g2, 0, none⟩) c cap2) (.slice (some ⟨g3, 0, none⟩) c cap3) w.heap.size (by omega)
  have c9 := K9.cell
  simp at c9
  have hrr := HR.out
  have hk9 : ∀ q, q ≠ w.heap.size + 1 → w9.heap[q]? = w8.heap[q]? := by assumption
  have R9 : RefV w9 (.agg #[.int .i64 time, .int .i64 first, .slice (some ⟨g2, 0, none⟩) c cap2, .slice (some ⟨g3, 0, none⟩) c cap3]) time first c (updN h k true) (updN d k s) := by
    obtain ⟨_, _, _, _, e, S1, S3⟩ := R8
    injection e with e
    injection e with e
    simp only [List.cons.injEq, Value.slice.injEq, and_true, true_and] at e
    obtain ⟨⟨rfl, rfl⟩, rfl, rfl⟩ := e
    exact ⟨_, _, _, _, rfl, S1.moved hk9 (fun _ => ⟨g2, 0, rfl, by omega⟩) , S3.moved hk9 (fun _ => ⟨g3, 0, rfl, by omega⟩)⟩
  by_cases hll : ll = 0
  · subst hll
    simp at hrr
    subst hrr
    clear R8
    go_wp2_with fail
    refine bodyPost_ret (v := .tuple #[.agg #[.int .i64 time, .int .i64 first, .slice (some ⟨g2, 0, none⟩) c cap2, .slice (some ⟨g3, 0, none⟩) c cap3], .int .i64 2]) ?_ rfl ⟨_, rfl, R9, B8.trans B9⟩
    simp [results, Try.results16, go_sem, c9]
  · have jl : ((ll : Int) == 0) = false := by simp; omega
    rw [if_neg hll] at hrr
    subst hrr
    clear R8
    go_wp2_with fail
    refine bodyPost_ret (v := .tuple #[.agg #[.int .i64 time, .int .i64 first, .slice (some ⟨g2, 0, none⟩) c cap2, .slice (some ⟨g3, 0, none⟩) c cap3], .int .i64 1]) ?_ rfl ⟨_, rfl, R9, B8.trans B9⟩
    simp [results, Try.results16, go_sem, c9]
end Go.Proofs.Ytagponhnkodjhaa
