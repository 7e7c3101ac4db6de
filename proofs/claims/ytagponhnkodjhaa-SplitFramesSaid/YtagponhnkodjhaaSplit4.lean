/- Package split: strings.Builder's methods, a frame's parts as a plain function of places, Put of a part that was, Lacks, Data, walked. No condition but that the frame stands. -/
import Derived.Test.YtagponhnkodjhaaSplitParts
import Derived.Shelf.Strings.Builder1
import Derived.Shelf.Strings.BuilderF
namespace Go.Proofs.Ytagponhnkodjhaa
open Go.RowKit Go.Maps Go.Shelf BigFrame
attribute [local go_sem ↓] Go.wp_at_zero Go.wp_at_succ

/-! strings.Builder -/
def bren : Go.Shelf.Ren := ⟨fun | 169 => 24 | n => n, fun | 70 => 55 | 9 => 9 | 0 => 0 | 72 => 58 | 37 => 56 | 127 => 69 | 3 => 3 | 5 => 5 | n => n, fun | n => n⟩
theorem blays : Go.Proofs.Lays.n169 Try.prog bren := {
  mixed := by kernel_rfl
  f169 := Try.func24.trans (congrArg some (by kernel_rfl))
  t0 := Try.underlying0
  a0 := Try.isAgg0
  z0 := Try.sizeOf0
  v0 := Try.zeroValue0
  t3 := Try.underlying3
  a3 := Try.isAgg3
  z3 := Try.sizeOf3
  v3 := Try.zeroValue3
  t9 := Try.underlying9
  a9 := Try.isAgg9
  z9 := Try.sizeOf9
  v9 := Try.zeroValue9
  t37 := Try.underlying56
  a37 := Try.isAgg56
  z37 := Try.sizeOf56
  v37 := Try.zeroValue56
  t70 := Try.underlying55
  a70 := Try.isAgg55
  z70 := Try.sizeOf55
  v70 := Try.zeroValue55
  t72 := Try.underlying58
  a72 := Try.isAgg58
  z72 := Try.sizeOf58
  v72 := Try.zeroValue58
  t127 := Try.underlying69
  a127 := Try.isAgg69
  z127 := Try.sizeOf69
  v127 := Try.zeroValue69 }
theorem bextra : Builder.Extra Try.prog bren := {
  sizeBuilder := by kernel_rfl
  liesBuilder := by kernel_rfl
  t5 := Try.underlying5
  a5 := Try.isAgg5
  z5 := Try.sizeOf5
  v5 := Try.zeroValue5
  infoByte := by kernel_rfl
  cellsByte := by kernel_rfl
  sizeByte := by kernel_rfl
  neB5 := by decide }
theorem builder_String (B b : Nat) (l : List UInt8) (w : World) (h : Lib.IsBuilder 58 5 B b (Lib.byteCells l) w) (hBw : B ≤ w.heap.size) :
    Calls Try.prog 24 #[.pointer (some ⟨b, 0, none⟩)] w fun e w' => e = .returned (.string ⟨l.toArray⟩) ∧ Below B w w' := Any.Builder_String_any blays bextra B b l w h hBw

set_option maxHeartbeats 1000000 in
set_option maxRecDepth 100000 in
theorem builder_copyCheck_used (b : Nat) (w : World) (h0 : w.cell? ⟨b, 0, none⟩ = some (.pointer (some ⟨b, 0, none⟩))) :
    Calls Try.prog 31 #[.pointer (some ⟨b, 0, none⟩)] w fun e w' => e = .returned (.tuple #[]) ∧ w' = w := by
  obtain ⟨j, hj, _⟩ := Option.map_eq_some_iff.1 bextra.sizeBuilder
  go_enter Try.func31, Try.ntmps31
  go_wp2
  rw [Lib.run_neq_ptr_same w _ Try.underlying55 hj]
  go_wp2
  go_end0
  exact ⟨rfl, rfl⟩

set_option maxHeartbeats 1000000 in
set_option maxRecDepth 100000 in
theorem builder_copyCheck_fresh (b : Nat) (w : World) (h0 : w.cell? ⟨b, 0, none⟩ = some (.pointer none)) (hsh : w.shape? b = some (58, 2)) (hfz : w.frozen? ⟨b, 0, none⟩ = false) :
    Calls Try.prog 31 #[.pointer (some ⟨b, 0, none⟩)] w fun e w' => e = .returned (.tuple #[]) ∧ w' = w.setCell ⟨b, 0, none⟩ (.pointer (some ⟨b, 0, none⟩)) := by
  obtain ⟨j, hj, hjs⟩ := Option.map_eq_some_iff.1 bextra.sizeBuilder
  have mixed : Try.prog.follows .mixedOrders = true := by kernel_rfl
  go_enter Try.func31, Try.ntmps31
  go_wp2_with fail
  rw [Lib.run_to_unsafe w ⟨b, 0, none⟩ Try.underlying55 Try.underlying71 hj (by rw [hjs]; decide) hsh (Nat.zero_lt_succ 1)]
  simp only [Result.andThen]
  rw [Oper.upon_value]
  go_wp2_with fail
  rw [run_callFunc_extern Try.func33 (by kernel_rfl) (by kernel_rfl) (by kernel_rfl) (e := Extern.AbiNoEscape.same) (by kernel_rfl)]
  rw [Lib.run_noEscape]
  simp only [Result.andThen]
  rw [Oper.upon_value]
  go_wp2_with fail
  rw [Lib.run_from_unsafe w ⟨b, 0, none⟩ Try.underlying71 Try.underlying55 hj hsh bextra.liesBuilder]
  simp only [Result.andThen]
  rw [Oper.upon_value]
  go_wp2_with fail
  go_end0
  exact ⟨rfl, rfl⟩
theorem builder_copyCheck (B b : Nat) (bs : List Value) (w : World) (h : Lib.IsBuilder 58 5 B b bs w) :
    Calls Try.prog 31 #[.pointer (some ⟨b, 0, none⟩)] w fun e w' => e = .returned (.tuple #[]) ∧ (Lib.BuilderAt 58 5 B b (.pointer (some ⟨b, 0, none⟩)) bs w' ∧ Below B w w') := by
  rcases h with h | h
  · refine (builder_copyCheck_fresh b w h.cell0 h.shape h.frozen0).mono ?_
    rintro e w' ⟨rfl, rfl⟩
    exact ⟨rfl, h.used _, (Below.refl B w).setCell (p := ⟨b, 0, none⟩) h.1 _⟩
  · refine (builder_copyCheck_used b w h.cell0).mono ?_
    rintro e w' ⟨rfl, rfl⟩
    exact ⟨rfl, h, Below.refl B _⟩
set_option maxHeartbeats 2000000 in
set_option maxRecDepth 100000 in
theorem builder_WriteString (B b : Nat) (bs : List Value) (s : ByteArray) (w : World) (h : Lib.IsBuilder 58 5 B b bs w) (hlen : bs.length + s.size ≤ 140737488355328) (hBw : B ≤ w.heap.size) :
    Calls Try.prog 23 #[.pointer (some ⟨b, 0, none⟩), .string s] w fun e w' => e = .returned (.tuple #[.int .i64 s.size, .nilIface]) ∧ (Lib.BuilderAt 58 5 B b (.pointer (some ⟨b, 0, none⟩)) (bs ++ Lib.strCells s) w' ∧ Below B w w') := by
  obtain ⟨i0, hi, hz0, hz1, hz2⟩ := info_parts bextra.infoByte
  go_enter Try.func23, Try.ntmps23
  go_wp2_with fail
  refine (builder_copyCheck B b bs _ h).mono ?_
  rintro e w1 ⟨rfl, h1, hb1⟩
  obtain ⟨hB, v, hbk, hown, hne⟩ := h1
  have c0 : w1.cell? ⟨b, 0, none⟩ = some (.pointer (some ⟨b, 0, none⟩)) := by rw [Lib.cell_of_heap hbk]; rfl
  have c1 : w1.cell? ⟨b, 1, none⟩ = some v := by rw [Lib.cell_of_heap hbk]; rfl
  go_wp2_with (at_builtin; refine Lib.wpList_append_own_string _ rfl _ _ 56 9 rfl B 5 i0 Try.underlying56 Try.underlying9 hi hz0 hz1 hz2 _ _ _ rfl hown s rfl ?c3 ?c4 ?c5 ?_)
  case c3 => unfold maxLen; omega
  case c4 => omega
  case c5 => have := hb1.size; omega
  intro v' w2 hown' hgrow _
  have hlt : b < w1.heap.size := by
    rcases Nat.lt_or_ge b w1.heap.size with h' | h'
    · exact h'
    · simp [Array.getElem?_eq_none h'] at hbk
  have hb2 : w2.heap[b]? = some (.cells #[.pointer (some ⟨b, 0, none⟩), v] 58 (0, 0)) := by
    rw [hgrow.block b hlt (fun e => hne e.symm)]
    exact hbk
  have d0 : w2.cell? ⟨b, 0, none⟩ = some (.pointer (some ⟨b, 0, none⟩)) := by rw [Lib.cell_of_heap hb2]; rfl
  have d1 : w2.cell? ⟨b, 1, none⟩ = some v := by rw [Lib.cell_of_heap hb2]; rfl
  have f1 : w2.frozen? ⟨b, 1, none⟩ = false := Lib.frozen_of_heap hb2 1
  obtain ⟨ao, n', cap, rfl⟩ : ∃ ao n' cap, v' = .slice ao n' cap := by
    rcases hown'.2 with ⟨hv, _⟩ | ⟨g, cap, cur, hv, _⟩
    · exact ⟨_, _, _, hv⟩
    · exact ⟨_, _, _, hv⟩
  go_wp2
  go_ret2
  refine ⟨rfl, ?_, ?_⟩
  · exact Lib.BuilderAt.put (T := 58) (e := 5) hB hb2 (bs' := bs ++ Lib.strCells s) (by simpa [Lib.strCells_length] using hown') bextra.neB5
  · exact (hb1.grown hgrow (by have := hb1.size; omega) (fun k hk => (hown.lt k hk).1)).setCell (p := ⟨b, 1, none⟩) hB _

/-! A frame's parts, as a plain function of places -/
def cntH (c : Nat) (h : Nat → Bool) : Nat := (List.range c).countP h
def lacksL (c : Nat) (h : Nat → Bool) : List Nat := (List.range c).filter fun i => !h i
def catD (c : Nat) (d : Nat → ByteArray) : List UInt8 := (List.range c).flatMap fun i => (d i).data.toList
def updN {α : Type} (h : Nat → α) (k : Nat) (x : α) : Nat → α := fun i => if i = k then x else h i
theorem cntH_upd (c k : Nat) (h : Nat → Bool) (hk : k < c) (hh : h k = false) : cntH c (updN h k true) = cntH c h + 1 := by
  unfold cntH
  induction c with
  | zero => omega
  | succ c ih =>
    rw [List.range_succ, List.countP_append, List.countP_append]
    by_cases e : k = c
    · subst e
      have : (List.range k).countP (updN h k true) = (List.range k).countP h := by
        refine List.countP_congr fun i hi => ?_
        have := List.mem_range.1 hi
        unfold updN
        rw [if_neg (by omega)]
      rw [this]
      simp [updN, hh]
    · rw [ih (by omega)]
      have : updN h k true c = h c := by unfold updN; rw [if_neg (by omega)]
      simp [this]
      omega
theorem cntH_le (c : Nat) (h : Nat → Bool) : cntH c h ≤ c := by
  unfold cntH
  have := List.countP_le_length (p := h) (l := List.range c)
  simpa using this
theorem lacks_len (c : Nat) (h : Nat → Bool) : (lacksL c h).length + cntH c h = c := by
  unfold lacksL cntH
  induction c with
  | zero => rfl
  | succ c ih =>
    rw [List.range_succ, List.countP_append, List.filter_append, List.length_append]
    by_cases e : h c <;> simp [e] <;> omega
theorem lacksL_succ (k : Nat) (h : Nat → Bool) : lacksL (k + 1) h = lacksL k h ++ (if h k then [] else [k]) := by
  unfold lacksL
  rw [List.range_succ, List.filter_append]
  by_cases e : h k <;> simp [e]
theorem catD_succ (k : Nat) (d : Nat → ByteArray) : catD (k + 1) d = catD k d ++ (d k).data.toList := by
  unfold catD
  rw [List.range_succ, List.flatMap_append]
  simp
/-- The map D holds the parts d of those places below c that h marks. -/
def HasAs (D : DataW Unit) (c : Nat) (h : Nat → Bool) (d : Nat → ByteArray) : Prop :=
  (∀ i : Nat, i < c → Maps.has D (.int .i64 (i : Int)) = h i ∧ D.atKey (.int .i64 (i : Int)) (.lit (.string [])) = .lit (.string (d i).data.toList)) ∧ Maps.size D = cntH c h
theorem HasAs.empty (c : Nat) : HasAs (.map []) c (fun _ => false) (fun _ => ByteArray.empty) := by
  refine ⟨fun i hi => ⟨rfl, rfl⟩, ?_⟩
  unfold cntH
  simp
  rfl
theorem key_ok (k : Nat) (hk : k < 1000) : WideAt.IsKeyLit (.int .i64 (k : Int)) := by
  have hw : (Lit.int .i64 (k : Int)).wf = true := WalkArith.wf_i64 (by omega)
  simp [WideAt.IsKeyLit, hw]
theorem HasAs.put {D : DataW Unit} {c : Nat} {h : Nat → Bool} {d : Nat → ByteArray} (H : HasAs D c h d) (hT : Tidy D) (hM : IsMap D) {k : Nat} (hk : k < c) (hc : c ≤ 255) (hh : h k = false) (s : ByteArray) :
    HasAs (D.put (.int .i64 (k : Int)) (.lit (.string s.data.toList))) c (updN h k true) (updN d k s) := by
  have hkey := key_ok k (by omega)
  refine ⟨fun i hi => ?_, ?_⟩
  · by_cases e : i = k
    · subst e
      rw [Maps.has_put_same hM hkey, Maps.atKey_put_same hM hkey]
      simp [updN]
    · have hne : (Lit.int .i64 (i : Int)) ≠ .int .i64 (k : Int) := by
        intro h
        injection h with _ h
        omega
      rw [Maps.has_put_other hne, Maps.atKey_put_other hne]
      unfold updN
      rw [if_neg e, if_neg e]
      exact H.1 i hi
  · rw [Maps.size_put hT, (H.1 k hk).1, hh, H.2, cntH_upd c k h hk hh]
    rfl
end Go.Proofs.Ytagponhnkodjhaa
