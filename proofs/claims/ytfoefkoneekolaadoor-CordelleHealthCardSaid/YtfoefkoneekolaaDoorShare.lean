/- Package share: New and Set of one weight, walked. No condition but that the share stands. -/
import Derived.Test.YtfoefkoneekolaaDoorApp
import Derived.Test.YtfoefkoneekolaaDoorRegion
import Derived.WalkSpells
import Derived.Deep.DeepCutAuto
namespace Go.Proofs.YtfoefkoneekolaaDoor
open Go.RowKit BigFrame
attribute [local go_sem ↓] Go.wp_at_zero Go.wp_at_succ

/-- A load's block. -/
def LdB (w : World) (g : Nat) (q : Int) : Prop := ∃ cs, Blk w g 64 cs ∧ cs[0]? = some (.int .i64 1) ∧ cs[1]? = some (.int .i64 q) ∧ cs[2]? = some (.int .i64 0)
theorem LdB.below {w w' : World} {g : Nat} {q : Int} (h : LdB w g q) (hb : Below w.heap.size w w') : LdB w' g q := by
  obtain ⟨cs, k, r⟩ := h
  exact ⟨cs, k.below hb k.lt, r⟩
theorem LdB.cells {w : World} {g : Nat} {q : Int} (h : LdB w g q) : g < w.heap.size ∧ w.cell? ⟨g, 0, none⟩ = some (.int .i64 1) ∧ w.cell? ⟨g, 1, none⟩ = some (.int .i64 q) ∧ w.cell? ⟨g, 2, none⟩ = some (.int .i64 0) := by
  obtain ⟨cs, k, a, b, c⟩ := h
  exact ⟨k.lt, (k.cell 0).trans a, (k.cell 1).trans b, (k.cell 2).trans c⟩
/-- One load, or none. -/
def Ld (w : World) (v : Value) : Prop := v = .slice none 0 0 ∨ ∃ g c q, v = .slice (some ⟨g, 0, none⟩) 1 c ∧ LdB w g q
theorem Ld.below {w w' : World} {v : Value} (h : Ld w v) (hb : Below w.heap.size w w') : Ld w' v := by
  rcases h with h | ⟨g, c, q, e, h⟩
  · exact .inl h
  · exact .inr ⟨g, c, q, e, h.below hb⟩

set_option maxHeartbeats 1000000 in
theorem share_New (w : World) :
    Calls Tryd.prog 9 #[] w fun e w' => ∃ g, e = .returned (.pointer (some ⟨g, 0, none⟩)) ∧ w.heap.size ≤ g ∧ Blk w' g 56 #[.slice none 0 0] ∧ Below w.heap.size w w' := by
  go_enter Tryd.func9, Tryd.ntmps9
  go_wp2_with fail
  go_ret
  refine ⟨_, rfl, Nat.le_refl _, Blk.new w _ _, ?_⟩
  (repeat (first | with_reducible assumption | with_reducible exact Below.refl _ _ | with_reducible refine Below.drew ?_ | with_reducible refine Below.setCell ?_ (by first | exact Nat.le_refl _ | exact Nat.le_add_right _ _ | assumption | omega | (simp; done) | (simp; omega)) _ | with_reducible refine Below.alloc ?_ (by first | exact Nat.le_refl _ | exact Nat.le_add_right _ _ | assumption | omega | (simp; done) | (simp; omega)) _ | refine Below.drew ?_ | refine Below.setCell ?_ (by first | exact Nat.le_refl _ | exact Nat.le_add_right _ _ | assumption | omega | (simp; done) | (simp; omega)) _ | refine Below.alloc ?_ (by first | exact Nat.le_refl _ | exact Nat.le_add_right _ _ | assumption | omega | (simp; done) | (simp; omega)) _))

set_option maxHeartbeats 4000000 in
theorem share_search (p : Int) (w : World) :
    Calls Tryd.prog 29 #[.slice none 0 0, .int .i64 p, .func (.func 30) #[] #[]] w fun e w' => e = .returned (.tuple #[.int .i64 0, .bool false]) ∧ Below w.heap.size w w' := by
  go_enter Tryd.func29, Tryd.ntmps29
  go_wp2_with fail
  go_loopw [9, 10] (fun xi xj wr => xi = .int .i64 0 ∧ xj = .int .i64 0 ∧ Below w.heap.size w wr) (fun _ _ _ => 0)
  case atStart => exact ⟨rfl, rfl, Below.refl _ _⟩
  case round =>
    obtain ⟨rfl, rfl, Bw⟩ := hrel
    go_wp2_with fail
    refine bodyPost_ret (v := .tuple #[.int .i64 0, .bool false]) ?_ rfl ⟨rfl, Bw⟩
    simp [results, Tryd.results29, go_sem]

set_option maxHeartbeats 4000000 in
theorem share_insert (h c : Nat) (q : Int) (w : World) (hS : SliceOf w (some ⟨h, 0, none⟩) 1 c 3 (fun _ => [.int .i64 1, .int .i64 q, .int .i64 0])) :
    Calls Tryd.prog 32 #[.slice none 0 0, .int .i64 0, .slice (some ⟨h, 0, none⟩) 1 c] w fun e w' => ∃ v, e = .returned v ∧ w'.ownsRow w.heap.size 64 3 v 1 [.int .i64 1, .int .i64 q, .int .i64 0] ∧ Below w.heap.size w w' := by
  obtain ⟨i0, hi0, hz0, hz1, hz2⟩ := info_parts (show (Tryd.prog.info? 64).map (fun i => (i.zero, i.size, i.bytes)) = some (some (.agg #[.int .i64 0, .int .i64 0, .int .i64 0]), 3, 24) by kernel_rfl)
  have hzs : (Value.agg #[.int .i64 0, .int .i64 0, .int .i64 0]).cells.size = 3 := by first | decide | (simp [Value.cells]; done) | kernel_rfl
  obtain ⟨b, off, he, hb, hc⟩ := hS.2.2 (by omega)
  obtain ⟨rfl, rfl⟩ : b = h ∧ off = 0 := by
    injection he with he
    injection he with he1 he2
    exact ⟨he1.symm, he2.symm⟩
  have hnew : ∀ j u, ([.int .i64 1, .int .i64 q, .int .i64 0] : List Value)[j]? = some u → w.cell? ((⟨b, 0, none⟩ : Addr).add j) = some u := by
    intro j u hu
    have hadd : (⟨b, 0, none⟩ : Addr).add j = ⟨b, 0 + j, none⟩ := by unfold Addr.add; split <;> simp_all
    rw [hadd]
    have e := hc 0 (by omega) j u hu
    rw [show 0 + 0 * 3 + j = 0 + j by omega] at e
    exact e
  have hb0 := hb
  clear hS hc
  go_enter Tryd.func32, Tryd.ntmps32
  go_wp2_with (at_builtin; refine wpList_append_lies _ rfl _ _ 54 rfl w.heap.size 64 i0 (.agg #[.int .i64 0, .int .i64 0, .int .i64 0]) 3 24 Tryd.underlying54 hi0 hz0 hz1 hz2 hzs (by decide) _ _ _ rfl (World.ownsRow_nil _ _ _ _) ⟨b, 0, none⟩ 1 c [.int .i64 1, .int .i64 q, .int .i64 0] rfl rfl hnew (by simp [Value.oneCell']) (by omega) (by rw [maxLen_eq]; omega) (by omega) (Nat.le_refl _) _ rfl ?_; intro g2 cap w8 own8 hgrow hat hlt8)
  go_ret
  refine ⟨_, rfl, own8, ?_⟩
  exact (Below.refl _ w).grown hgrow (Nat.le_refl _) (fun j hj => absurd (show (none : Option Nat) = some j from hj) nofun)

theorem wgt_eql (x0 y0 : Int) (x1 y1 : Int) (w : World) : (binOp .eql 49 (.agg #[.int .i64 x0, .int .i64 x1]) (.agg #[.int .i64 y0, .int .i64 y1])).run Tryd.prog w = .ok (.bool ((x0 == y0) && (x1 == y1))) w := by
  have hS : Tryd.prog.underlying 49 = some (.struct (Tryd.prog.fieldsOf 49)) := by kernel_rfl
  have hp : Tryd.prog.stoodInHeld 49 = false := by kernel_rfl
  have u3 := Tryd.underlying3
  have a3 := Tryd.isAgg3
  have z3 := Tryd.sizeOf3
  rw [run_eql_struct, show (10000 : Nat) = 9999 + 1 from rfl, run_equalIn_agg w 9999 49 _ _ hS hp]
  simp only [Program.fieldsOf, Tryd.underlying49]
  go_simp
  by_cases h0 : x0 = y0
  rotate_left
  · simp [h0]
  subst h0
  by_cases h1 : x1 = y1
  rotate_left
  · simp [h1]
  subst h1
  (try simp [])
theorem wgt_neq (x0 y0 : Int) (x1 y1 : Int) (w : World) : (binOp .neq 49 (.agg #[.int .i64 x0, .int .i64 x1]) (.agg #[.int .i64 y0, .int .i64 y1])).run Tryd.prog w = .ok (.bool (!((x0 == y0) && (x1 == y1)))) w := by
  have hS : Tryd.prog.underlying 49 = some (.struct (Tryd.prog.fieldsOf 49)) := by kernel_rfl
  have hp : Tryd.prog.stoodInHeld 49 = false := by kernel_rfl
  have u3 := Tryd.underlying3
  have a3 := Tryd.isAgg3
  have z3 := Tryd.sizeOf3
  rw [run_neq_struct, show (10000 : Nat) = 9999 + 1 from rfl, run_equalIn_agg w 9999 49 _ _ hS hp]
  simp only [Program.fieldsOf, Tryd.underlying49]
  go_simp
  by_cases h0 : x0 = y0
  rotate_left
  · simp [h0]
  subst h0
  by_cases h1 : x1 = y1
  rotate_left
  · simp [h1]
  subst h1
  (try simp [])
theorem wgt_guard (op : BinOp) (x y : Operand) (xs ys : Array Value) (w : World) : (eqGuard op 49 x y (.agg xs) (.agg ys)).run Tryd.prog w = .ok () w := run_eqGuard_agg w op 49 x y xs ys (by kernel_rfl)

attribute [local go_sem] wgt_eql wgt_guard
set_option maxHeartbeats 4000000 in
theorem share_same (a b c d e f : Int) (w : World) :
    Calls Tryd.prog 26 #[.agg #[.int .i64 a, .int .i64 b, .int .i64 c], .agg #[.int .i64 d, .int .i64 e, .int .i64 f]] w fun x w' => ∃ y, x = .returned (.bool y) ∧ Below w.heap.size w w' := by
  go_enter Tryd.func26, Tryd.ntmps26
  go_wp2_with fail
  all_goals
    go_ret
    refine ⟨_, rfl, ?_⟩
    (repeat (first | with_reducible assumption | with_reducible exact Below.refl _ _ | with_reducible refine Below.drew ?_ | with_reducible refine Below.setCell ?_ (by first | exact Nat.le_refl _ | exact Nat.le_add_right _ _ | assumption | omega | (simp; done) | (simp; omega)) _ | with_reducible refine Below.alloc ?_ (by first | exact Nat.le_refl _ | exact Nat.le_add_right _ _ | assumption | omega | (simp; done) | (simp; omega)) _ | refine Below.drew ?_ | refine Below.setCell ?_ (by first | exact Nat.le_refl _ | exact Nat.le_add_right _ _ | assumption | omega | (simp; done) | (simp; omega)) _ | refine Below.alloc ?_ (by first | exact Nat.le_refl _ | exact Nat.le_add_right _ _ | assumption | omega | (simp; done) | (simp; omega)) _))

/-- What a row of one load reads as. -/
theorem own_ld {w : World} {B : Nat} {v : Value} {q : Int} (h : w.ownsRow B 64 3 v 1 [.int .i64 1, .int .i64 q, .int .i64 0]) :
    ∃ g c, v = .slice (some ⟨g, 0, none⟩) 1 c ∧ LdB w g q := by
  have hk := h
  rcases h.2 with ⟨_, h⟩ | ⟨g, cap, cur, rfl, hb, hg, hn, hm, hs, hx⟩
  · omega
  · have k : Blk w g 64 cur := hg
    refine ⟨g, cap, rfl, cur, k, ?_, ?_, ?_⟩
    · have := World.ownsRow.cellAt hk 0 (by omega)
      rw [k.cell] at this
      simpa using this
    · have := World.ownsRow.cellAt hk 1 (by omega)
      rw [k.cell] at this
      simpa using this
    · have := World.ownsRow.cellAt hk 2 (by omega)
      rw [k.cell] at this
      simpa using this

set_option maxHeartbeats 4000000 in
theorem share_equal (g c : Nat) (q : Int) (v : Value) (w : World) (hl : LdB w g q) (hv : Ld w v) :
    Calls Tryd.prog 25 #[.slice (some ⟨g, 0, none⟩) 1 c, v, .func (.func 26) #[] #[]] w fun e w' => ∃ y, e = .returned (.bool y) ∧ Below w.heap.size w w' := by
  obtain ⟨hg, h0, h1, h2⟩ := hl.cells
  clear hl
  rcases hv with rfl | ⟨g', c', q', rfl, hv⟩
  · go_enter Tryd.func25, Tryd.ntmps25
    go_wp2_with fail
    go_ret
    exact ⟨_, rfl, Below.refl _ _⟩
  · obtain ⟨hg', h0', h1', h2'⟩ := hv.cells
    clear hv
    go_enter Tryd.func25, Tryd.ntmps25
    go_wp2_with fail
    go_loopw [17] (fun xi wr => ∃ i : Nat, i ≤ 1 ∧ xi = .int .i64 i ∧ Below w.heap.size w wr) (fun xi _ => 1 - (intOf xi).toNat)
    case atStart => exact ⟨0, by omega, rfl, Below.refl _ _⟩
    case round =>
      obtain ⟨i, hi, rfl, Bw⟩ := hrel
      by_cases hz : i = 0
      · subst hz
        have e0 := (Bw.cell (p := ⟨g, 0, none⟩) hg).trans h0
        have e1 := (Bw.cell (p := ⟨g, 1, none⟩) hg).trans h1
        have e2 := (Bw.cell (p := ⟨g, 2, none⟩) hg).trans h2
        have e3 := (Bw.cell (p := ⟨g', 0, none⟩) hg').trans h0'
        have e4 := (Bw.cell (p := ⟨g', 1, none⟩) hg').trans h1'
        have e5 := (Bw.cell (p := ⟨g', 2, none⟩) hg').trans h2'
        clear h0 h1 h2 h0' h1' h2'
        have sz := Bw.size
        have sg := Nat.lt_of_lt_of_le hg sz
        have sg' := Nat.lt_of_lt_of_le hg' sz
        go_wp2_with fail
        refine (share_same _ _ _ _ _ _ _).mono ?_
        rintro x w2 ⟨y, rfl, hb2⟩
        have B2 : Below w.heap.size w w2 := ((Bw.alloc sz _).alloc (Nat.le_trans sz (by simp)) _).trans (hb2.mono (Nat.le_trans sz (by simp; omega)))
        cases y
        · go_wp2_with fail
          go_ret
          exact ⟨_, rfl, B2⟩
        · go_wp2_with fail
          go_roundw
          case rel => exact ⟨1, by omega, by go_num, B2⟩
          case measure => simp only [intOf]; omega
      · obtain rfl : i = 1 := by omega
        go_wp2_with fail
        go_ret
        exact ⟨_, rfl, Bw⟩

set_option maxRecDepth 8000 in
set_option maxHeartbeats 8000000 in
theorem share_loads (h : Nat) (q : Int) (w : World) (k : Blk w h 49 #[.int .i64 1, .int .i64 q]) :
    Calls Tryd.prog 24 #[.slice (some ⟨h, 0, none⟩) 1 1] w fun e w' => ∃ g c r, e = .returned (.slice (some ⟨g, 0, none⟩) 1 c) ∧ w.heap.size ≤ g ∧ LdB w' g r ∧ Below w.heap.size w w' := by
  have hh := k.lt
  have e0 := k.cell 0
  have e1 := k.cell 1
  simp at e0 e1
  obtain ⟨m, hm⟩ : ∃ m, (if 65535 < q then 65535 else q) = m := ⟨_, rfl⟩
  obtain ⟨z, hz⟩ : ∃ z, (if 1 < m then m else 1) = z := ⟨_, rfl⟩
  clear k
  go_enter Tryd.func24, Tryd.ntmps24
  go_wp2_with fail
  go_loopw [3, 10] (fun s3 s10 wr => ∃ i : Nat, i ≤ 1 ∧ s10 = .int .i64 i ∧ (i = 0 → s3 = .slice none 0 0) ∧ (i = 1 → ∃ g c r, s3 = .slice (some ⟨g, 0, none⟩) 1 c ∧ w.heap.size ≤ g ∧ LdB wr g r) ∧ Below w.heap.size w wr) (fun _ xi _ => 1 - (intOf xi).toNat)
  case atStart => exact ⟨0, by omega, rfl, fun _ => rfl, fun h => absurd h (by omega), Below.refl _ _⟩
  case round =>
    obtain ⟨i, hi, rfl, ha, hb, Bw⟩ := hrel
    by_cases hz0 : i = 0
    · subst hz0
      obtain rfl := ha rfl
      clear hb
      have sz := Bw.size
      have d0 := (Bw.cell (p := ⟨h, 0, none⟩) hh).trans e0
      have d1 := (Bw.cell (p := ⟨h, 1, none⟩) hh).trans e1
      clear e0 e1
      go_upto_region 5 with fail
      have k5 := Blk.new wr 49 #[.int .i64 1, .int .i64 q]
      have B5 : Below w.heap.size w (wr.alloc (.cells #[.int .i64 1, .int .i64 q] 49)) := Bw.alloc sz _
      have hg5 : w.heap.size ≤ wr.heap.size := sz
      generalize wr.alloc (.cells #[.int .i64 1, .int .i64 q] 49) = w5 at *
      generalize wr.heap.size = g5 at *
      clear d0 d1 sz
      have c5 := k5.cell
      simp at c5
      go_wp2_with fail
      refine (share_search 1 _).mono ?_
      rintro e w6 ⟨rfl, hb6⟩
      have k6 := k5.below hb6 k5.lt
      have B6 := below_then B5 hb6 (Nat.le_refl _)
      clear k5 B5 c5 hb6
      have c6 := k6.cell
      have f6 := k6.frozen
      simp at c6
      have sz6 := B6.size
      go_upto_region 8 with fail
      have kz := k6.set_ 1 (.int .i64 z)
      have Bz : Below w.heap.size w (w6.setCell ⟨g5, 1, none⟩ (.int .i64 z)) := B6.setCell hg5 _
      simp at kz
      generalize w6.setCell ⟨g5, 1, none⟩ (.int .i64 z) = w7 at *
      clear c6 f6 k6
      have c7 := kz.cell
      simp at c7
      have kl := Blk.new w7 64 #[.int .i64 1, .int .i64 z, .int .i64 0]
      have sz7 := Bz.size
      have Bl : Below w.heap.size w (w7.alloc (.cells #[.int .i64 1, .int .i64 z, .int .i64 0] 64)) := Bz.alloc sz7 _
      have hS : SliceOf (w7.alloc (.cells #[.int .i64 1, .int .i64 z, .int .i64 0] 64)) (some ⟨w7.heap.size, 0, none⟩) 1 1 3 (fun _ => [.int .i64 1, .int .i64 z, .int .i64 0]) := by
        refine ⟨Nat.le_refl _, by decide, fun _ => ⟨_, 0, rfl, by simp, fun i hi j v hv => ?_⟩⟩
        obtain rfl : i = 0 := by omega
        rw [show 0 + 0 * 3 + j = j by omega, kl.cell j]
        match j, hv with
        | 0, hv => exact hv
        | 1, hv => exact hv
        | 2, hv => exact hv
      have HI := Lib.hid (share_insert _ 1 z _ hS)
      clear hS
      go_wp2_with fail
      refine HI.out.mono ?_
      rintro e w8 ⟨v, rfl, own8, hb8⟩
      obtain ⟨g8, c8, rfl, hl8⟩ := own_ld own8
      have hge : w.heap.size ≤ g8 := Nat.le_trans Bl.size (own8.lt g8 rfl).1
      have B8 := below_then Bl hb8 (Nat.le_refl _)
      clear HI own8 hb8 kl kz c7 Bl Bz
      go_wp2_with fail
      go_roundw
      case rel => exact ⟨1, by omega, by go_num, fun h => absurd h (by omega), fun _ => ⟨g8, c8, z, rfl, hge, hl8⟩, B8⟩
      case measure => simp only [intOf]; omega
    · obtain rfl : i = 1 := by omega
      obtain ⟨g, c, r, rfl, hge, hl⟩ := hb rfl
      clear ha hb
      go_wp2_with fail
      go_ret
      exact ⟨g, c, r, rfl, hge, hl, Bw⟩

set_option maxHeartbeats 4000000 in
theorem share_Set (gs h : Nat) (q : Int) (v : Value) (w : World) (ks : Blk w gs 56 #[v]) (hv : Ld w v) (k : Blk w h 49 #[.int .i64 1, .int .i64 q]) :
    Calls Tryd.prog 13 #[.pointer (some ⟨gs, 0, none⟩), .slice (some ⟨h, 0, none⟩) 1 1] w fun e w' => ∃ y v', e = .returned (.bool y) ∧ Blk w' gs 56 #[v'] ∧ Ld w' v' ∧ (∀ j, j < w.heap.size → j ≠ gs → w'.heap[j]? = w.heap[j]?) ∧ Below gs w w' := by
  have hgs := ks.lt
  have HL := Lib.hid (share_loads h q w k)
  clear k
  have HV := Lib.hid hv
  clear hv
  go_enter Tryd.func13, Tryd.ntmps13
  go_wp2_with fail
  refine HL.out.mono ?_
  rintro e w1 ⟨g, c, r, rfl, hge, hl, B1⟩
  have hv1 := HV.out.below B1
  have k1 := ks.below B1 hgs
  have HE := Lib.hid (share_equal g c r v w1 hl hv1)
  have HX := Lib.hid hl
  have HV1 := Lib.hid hv1
  clear hl hv1 HV HL
  have c1 := k1.cell 0
  simp at c1
  go_wp2_with fail
  refine HE.out.mono ?_
  rintro e w2 ⟨y, rfl, hb2⟩
  have k2 := k1.below hb2 k1.lt
  have HY := Lib.hid (HX.out.below hb2)
  have hv2 := Lib.hid (HV1.out.below hb2)
  have B2 := below_then B1 hb2 (Nat.le_refl _)
  clear HX HV1 HE c1 k1 B1 hb2
  have c2 := k2.cell 0
  have f2 := k2.frozen 0
  simp at c2
  cases y
  · go_wp2_with fail
    go_ret
    have hne : g ≠ gs := by omega
    obtain ⟨cs, kl, y0, y1, y2⟩ := HY.out
    refine ⟨true, _, rfl, ?_, .inr ⟨g, c, r, rfl, cs, kl.far hne _, y0, y1, y2⟩, fun j hj hjn => (Below.heap_setCell w2 _ _ j hjn).trans (B2.block j hj), (B2.mono (Nat.le_of_lt hgs)).setCell (Nat.le_refl _) _⟩
    have := k2.set_ 0 (.slice (some ⟨g, 0, none⟩) 1 c)
    simpa using this
  · go_wp2_with fail
    go_ret
    exact ⟨false, v, rfl, k2, hv2.out, fun j hj _ => B2.block j hj, B2.mono (Nat.le_of_lt hgs)⟩
end Go.Proofs.YtfoefkoneekolaaDoor
