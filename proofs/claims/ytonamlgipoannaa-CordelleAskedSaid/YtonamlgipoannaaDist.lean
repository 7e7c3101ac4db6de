/- serial.Distinct, and the statements' Ints: numbers each once, in their order; numbers as whole ones. No condition but how many. -/
import Derived.Test.YtonamlgipoannaaOwn
namespace Go.Proofs.Ytonamlgipoannaa
open Go.RowKit Go.Maps BigFrame
attribute [local go_sem ↓] Go.wp_at_zero Go.wp_at_succ

/-- The first k numbers, each once. -/
def dst (e : Nat → Int) : Nat → List Int
  | 0 => []
  | k + 1 => if e k ∈ dst e k then dst e k else dst e k ++ [e k]
theorem dst_mem (e : Nat → Int) (x : Int) : ∀ k, x ∈ dst e k ↔ ∃ i, i < k ∧ e i = x := by
  intro k
  induction k with
  | zero => simp [dst]
  | succ k ih =>
    unfold dst
    constructor
    · intro h
      split at h
      · obtain ⟨i, hi, he⟩ := ih.1 h
        exact ⟨i, by omega, he⟩
      · rcases List.mem_append.1 h with h | h
        · obtain ⟨i, hi, he⟩ := ih.1 h
          exact ⟨i, by omega, he⟩
        · simp at h
          exact ⟨k, by omega, h.symm⟩
    · rintro ⟨i, hi, he⟩
      by_cases hk : i = k
      · subst hk
        split
        · rename_i h; rw [← he]; exact h
        · simp [he]
      · have := ih.2 ⟨i, by omega, he⟩
        split
        · exact this
        · exact List.mem_append_left _ this
theorem dst_nodup (e : Nat → Int) : ∀ k, (dst e k).Nodup := by
  intro k
  induction k with
  | zero => simp [dst]
  | succ k ih =>
    unfold dst
    split
    · exact ih
    · rename_i h
      rw [List.nodup_append]
      refine ⟨ih, by simp, fun a ha b hb => ?_⟩
      simp at hb
      subst hb
      intro e
      exact h (e ▸ ha)
theorem dst_len (e : Nat → Int) : ∀ k, (dst e k).length ≤ k := by
  intro k
  induction k with
  | zero => simp [dst]
  | succ k ih =>
    unfold dst
    split
    · omega
    · simp; omega
theorem dst_pre (e : Nat → Int) (k : Nat) : ∀ m, k ≤ m → dst e k <+: dst e m := by
  intro m
  induction m with
  | zero => intro h; obtain rfl : k = 0 := by omega
            exact List.prefix_rfl
  | succ m ih =>
    intro h
    by_cases hk : k = m + 1
    · subst hk; exact List.prefix_rfl
    · refine (ih (by omega)).trans ?_
      conv => rhs; unfold dst
      split
      · exact List.prefix_rfl
      · exact List.prefix_append _ _
theorem dst_bd (e : Nat → Int) (l : Nat) (h : ∀ i, i < l → 0 ≤ e i ∧ e i ≤ 65535) : ∀ x ∈ dst e l, 0 ≤ x ∧ x ≤ 65535 := by
  intro x hx
  obtain ⟨i, hi, rfl⟩ := (dst_mem e x l).1 hx
  exact h i hi
theorem dst_congr (e f : Nat → Int) : ∀ k, (∀ i, i < k → e i = f i) → dst e k = dst f k := by
  intro k
  induction k with
  | zero => intro _; rfl
  | succ k ih =>
    intro h
    unfold dst
    rw [ih (fun i hi => h i (by omega)), h k (by omega)]
theorem keyed_u16 : Keyed Try.prog 90 := int_keyed Try.underlying90
theorem u16_wf {x : Int} (h0 : 0 ≤ x) (h1 : x ≤ 65535) : (Lit.int .u16 x).wf = true := by
  simp [Lit.wf, IntKind.min, IntKind.max, IntKind.bits, IntKind.signed]; omega
theorem u16_key {x : Int} (h0 : 0 ≤ x) (h1 : x ≤ 65535) : WideAt.IsKeyLit (.int .u16 x) := by
  have hw := u16_wf h0 h1
  simp [WideAt.IsKeyLit, hw]
/-- A set of numbers of 16 bits reads as the list l. -/
def SetIs (D : DataW Unit) (l : List Int) : Prop := ∀ x : Int, 0 ≤ x → x ≤ 65535 → Maps.has D (.int .u16 x) = decide (x ∈ l)
theorem SetIs.put {D : DataW Unit} {l : List Int} (h : SetIs D l) (hM : IsMap D) {y : Int} (h0 : 0 ≤ y) (h1 : y ≤ 65535) (d : DataW Unit) : SetIs (D.put (.int .u16 y) d) (l ++ [y]) := by
  intro x x0 x1
  by_cases e : x = y
  · subst e
    rw [Maps.has_put_same hM (u16_key h0 h1)]
    simp
  · rw [Maps.has_put_other (by intro h; injection h with _ h; exact e h), h x x0 x1]
    simp [e]

set_option maxHeartbeats 2000000 in
theorem serial_Distinct (a : Option Addr) (l c : Nat) (e : Nat → Int) (w : World) (S : SliceOf w a l c 1 (fun i => [.int .u16 (e i)])) (hl : l ≤ 100000) (he : ∀ i, i < l → 0 ≤ e i ∧ e i ≤ 65535) :
    Calls Try.prog 68 #[.slice a l c] w (OwnsRes w 90 (dst e l).length (cellsK .u16 (dst e l))) := by
  obtain ⟨i0, hi0, hz0, hz1, hz2⟩ := info_parts (show (Try.prog.info? 90).map (fun i => (i.zero, i.size, i.bytes)) = some (some (.int .u16 0), 1, 2) by kernel_rfl)
  have hmm := @run_makeMap Try.prog
  go_enter Try.func68, Try.ntmps68
  go_wp2_with fail
  clear hmm
  have hB1 : Below w.heap.size w (w.alloc (.map #[] 0)) := (Below.refl _ _).alloc (Nat.le_refl _) _
  have hM1 : (w.alloc (.map #[] 0)).ownsMap Try.prog 90 (unitElem (H := Unit)) w.heap.size 0 (.map []) := World.ownsMap_made w Try.prog 90 _
  generalize w.alloc (.map #[] 0) = w1 at *
  go_loopw [4, 12] (fun x4 x12 wr => ∃ (k : Nat) (n : Nat) (D : DataW Unit), k ≤ l ∧ x12 = .int .i64 k ∧ wr.ownsMap Try.prog 90 (unitElem (H := Unit)) w.heap.size n D ∧ n ≤ k ∧ SetIs D (dst e k) ∧ wr.ownsRow w.heap.size 90 1 x4 (dst e k).length (cellsK .u16 (dst e k)) ∧ Below w.heap.size w wr) (fun _ x12 _ => l - (intOf x12).toNat)
  case atStart => exact ⟨0, 0, .map [], by omega, rfl, hM1, Nat.le_refl _, fun x _ _ => rfl, ⟨rfl, .inl ⟨rfl, rfl⟩⟩, hB1⟩
  case round =>
    obtain ⟨k, n, D, hk, rfl, hM, hn, hS, own, B⟩ := hrel
    by_cases hlt : k < l
    · obtain ⟨b, off, rfl, hbb, hcell⟩ := S.at1 (by omega)
      obtain ⟨x, hx⟩ : ∃ x, e k = x := ⟨_, rfl⟩
      have hxb := he k hlt
      have d := (B.cell (p := ⟨b, off + k, none⟩) hbb).trans (hcell k hlt)
      rw [hx] at d hxb
      obtain ⟨x0, x1⟩ := hxb
      have hkey := keyOf_int_mk Try.underlying90 (u16_wf x0 x1)
      obtain ⟨bk, hbk⟩ : ∃ bk, Maps.has D (.int .u16 x) = bk := ⟨_, rfl⟩
      have HL : (Instr.lookup 139 (.map (some w.heap.size)) (.int .u16 x) true).run Try.prog wr = .ok (.tuple #[.agg #[], .bool bk]) wr := by
        obtain ⟨v, ps, hrun, hv⟩ := World.ownsMap.look_ok hM keyed_u16 Try.underlying139 (z := .agg #[]) (by kernel_rfl) (zd := .agg []) (zp := []) unitElem_mk hkey
        obtain ⟨rfl, _⟩ := unitElem_inv hv
        rw [hrun, hbk]
      have hmem := hS x x0 x1
      rw [hbk] at hmem
      have i1 : (0 : Int) ≤ (k : Int) := by omega
      have i2 : (k : Int) < (l : Int) := by omega
      have wk : IntKind.i64.wrap ((k : Int) + 1) = ((k + 1 : Nat) : Int) := by rw [IntWalk.i64_in _ (by omega)]; omega
      have hdl := dst_len e k
      have hwl := B.size
      have hMlt := hM.lt
      have HX := Lib.hid hx
      have HM := Lib.hid hM
      have HS := Lib.hid hS
      have HB := Lib.hid hmem
      clear hx hbk hcell hM hS hmem
      cases bk
      · have hnot : x ∉ dst e k := by simpa using HB.out
        have hd : dst e (k + 1) = dst e k ++ [x] := by rw [dst, HX.out, if_neg hnot]
        have HD := Lib.hid hd
        clear hd hnot
        go_upto_region 9 with (at_mapUpdate; refine wpList_mapUpdate_own _ rfl _ _ _ 139 rfl 90 140 keyed_u16 Try.underlying139 _ w.heap.size n D rfl (HM.out.alloc _) (by unfold maxLen; omega) _ _ _ rfl rfl hkey _ [] unitElem_mk ?_; intro w2 hM2 hg2)
        have hb2 : Below wr.heap.size wr (wr.alloc (.cells #[] 140)) := (Below.refl _ _).alloc (Nat.le_refl _) _
        obtain ⟨es, cl, hblk⟩ := ownsMap_block (HM.out.alloc (.cells #[] 140))
        have own2 := (own_keep own hb2 (Nat.le_refl _)).kept hg2 (.inr (own_ne_map (own_keep own hb2 (Nat.le_refl _)) hblk))
        have B2 : Below w.heap.size w w2 := (B.alloc B.size _).grown hg2 (by simp; omega) (fun j hj => by injection hj with hj; omega)
        have HM2 := Lib.hid hM2
        clear own HL hblk hg2 hb2 B hM2
        go_wp2_with (at_builtin; refine wpList_append_lies _ rfl _ _ 82 rfl w.heap.size 90 i0 (.int .u16 0) 1 2 Try.underlying82 hi0 hz0 hz1 hz2 rfl (by decide) _ _ _ rfl (own2.alloc _) ⟨w2.heap.size, 0, none⟩ 1 1 [.int .u16 x] rfl rfl (cell_one_new _ _ _) (by simp [Value.oneCell']) (by omega) (by rw [maxLen_eq]; omega) (by omega) (Nat.le_trans B2.size (by simp)) _ rfl ?_; intro g2 cap w3 own3 hgrow hat hlt1)
        obtain ⟨es2, cl2, hblk2⟩ := ownsMap_block (HM2.out.alloc (.cells #[.int .u16 x] 90))
        have own2a := own_keep own2 ((Below.refl _ w2).alloc (Nat.le_refl _) (.cells #[.int .u16 x] 90)) (Nat.le_refl _)
        have hM3 := (HM2.out.alloc (.cells #[.int .u16 x] 90)).kept hgrow (fun h => own_ne_map own2a hblk2 h.symm)
        have hB3 := (B2.alloc B2.size (.cells #[.int .u16 x] 90)).grown hgrow (by have := B2.size; simp; omega) (fun j hj => (own2.lt j hj).1)
        go_roundw
        case rel =>
          refine ⟨k + 1, n + 1, _, by omega, by go_num, hM3, by omega, ?_, ?_, hB3⟩
          · rw [HD.out]
            exact SetIs.put HS.out (World.ownsMap.isMap HM.out) x0 x1 _
          · rw [HD.out, List.length_append, cellsK_snoc]
            exact own3
        case measure => simp only [intOf]; omega
      · have hin : x ∈ dst e k := by simpa using HB.out
        have hd : dst e (k + 1) = dst e k := by rw [dst, HX.out, if_pos hin]
        have HD := Lib.hid hd
        have hb2 : Below wr.heap.size wr (wr.alloc (.cells #[] 140)) := (Below.refl _ _).alloc (Nat.le_refl _) _
        clear hin hd
        go_wp2_with fail
        go_roundw
        case rel => exact ⟨k + 1, n, D, by omega, by go_num, HM.out.alloc _, by omega, by rw [HD.out]; exact HS.out, by rw [HD.out]; exact own_keep own hb2 (Nat.le_refl _), B.alloc B.size _⟩
        case measure => simp only [intOf]; omega
    · obtain rfl : k = l := by omega
      have j1 : ¬ (k : Int) < (k : Int) := by omega
      go_wp2_with fail
      go_ret
      exact ⟨_, rfl, own, B⟩
end Go.Proofs.Ytonamlgipoannaa
