/- Package report: Check. No condition but how many blocks. (Printed by gen_rep2.py.) -/
import Derived.Test.YtolgdcchnmbmnaaRep1
import Derived.Test.YtolgdcchnmbmnaaSub3
namespace Go.Proofs.Ytolgdcchnmbmnaa
open Go.RowKit BigFrame
attribute [local go_sem ↓] Go.wp_at_zero Go.wp_at_succ

def zBk : BkR := ⟨0, 0, 0, 0, 0, 0, 0⟩
theorem BkR.cells_len (x : BkR) : x.cells.length = 7 := rfl
/-- A row of blocks at a slice. -/
structure BkAt (W : World) (a : Option Addr) (n c : Nat) (l : List BkR) : Prop where
  len : l.length = n
  row : SliceOf W a n c 7 (fun i => (l.getD i zBk).cells)
theorem BkAt.below {W W' : World} {a : Option Addr} {n c : Nat} {l : List BkR} (h : BkAt W a n c l) (hb : Below W.heap.size W W') : BkAt W' a n c l := ⟨h.len, h.row.below hb⟩
def mayS (y : Bool) (c t p b : Int) : Bool := decide (0 ≤ c ∧ c ≤ 1099511627776) && (y || (c == 0 && t == 0 && p == 0 && b == 0))
def mayR (y : Bool) (c t p b : Int) (l : List BkR) : Bool := mayS y c t p b && (decide (l.length ≤ 31) && l.all BkR.may)
theorem BkAt.at_ {W : World} {a : Option Addr} {n c : Nat} {l : List BkR} (h : BkAt W a n c l) (hp : 0 < n) :
    ∃ g off, a = some ⟨g, off, none⟩ ∧ g < W.heap.size ∧ ∀ i, i < n → ∃ x, l[i]? = some x ∧ ∀ j v, x.cells[j]? = some v → W.cell? ⟨g, off + i * 7 + j, none⟩ = some v := by
  obtain ⟨g, off, e, hg, hc⟩ := h.row.2.2 hp
  refine ⟨g, off, e, hg, fun i hi => ⟨l.getD i zBk, ?_, fun j v hv => hc i hi j v hv⟩⟩
  have := h.len
  rw [List.getD_eq_getElem?_getD, List.getElem?_eq_getElem (by omega)]
  rfl
theorem sn_eql (x0 y0 : Int) (x1 y1 : Int) (x2 y2 : Int) (x3 y3 : Int) (w : World) : (binOp .eql 29 (.agg #[.int .i64 x0, .int .u32 x1, .int .u32 x2, .int .u32 x3]) (.agg #[.int .i64 y0, .int .u32 y1, .int .u32 y2, .int .u32 y3])).run Try.prog w = .ok (.bool ((x0 == y0) && (x1 == y1) && (x2 == y2) && (x3 == y3))) w := by
  have hS : Try.prog.underlying 29 = some (.struct (Try.prog.fieldsOf 29)) := by kernel_rfl
  have hp : Try.prog.stoodInHeld 29 = false := by kernel_rfl
  have u3 := Try.underlying3
  have a3 := Try.isAgg3
  have z3 := Try.sizeOf3
  have u27 := Try.underlying27
  have a27 := Try.isAgg27
  have z27 := Try.sizeOf27
  rw [run_eql_struct, show (10000 : Nat) = 9999 + 1 from rfl, run_equalIn_agg w 9999 29 _ _ hS hp]
  simp only [Program.fieldsOf, Try.underlying29]
  go_simp
  by_cases h0 : x0 = y0
  rotate_left
  · simp [h0]
  subst h0
  by_cases h1 : x1 = y1
  rotate_left
  · simp [h1]
  subst h1
  by_cases h2 : x2 = y2
  rotate_left
  · simp [h2]
  subst h2
  by_cases h3 : x3 = y3
  rotate_left
  · simp [h3]
  subst h3
  (try simp [])
theorem sn_neq (x0 y0 : Int) (x1 y1 : Int) (x2 y2 : Int) (x3 y3 : Int) (w : World) : (binOp .neq 29 (.agg #[.int .i64 x0, .int .u32 x1, .int .u32 x2, .int .u32 x3]) (.agg #[.int .i64 y0, .int .u32 y1, .int .u32 y2, .int .u32 y3])).run Try.prog w = .ok (.bool (!((x0 == y0) && (x1 == y1) && (x2 == y2) && (x3 == y3)))) w := by
  have hS : Try.prog.underlying 29 = some (.struct (Try.prog.fieldsOf 29)) := by kernel_rfl
  have hp : Try.prog.stoodInHeld 29 = false := by kernel_rfl
  have u3 := Try.underlying3
  have a3 := Try.isAgg3
  have z3 := Try.sizeOf3
  have u27 := Try.underlying27
  have a27 := Try.isAgg27
  have z27 := Try.sizeOf27
  rw [run_neq_struct, show (10000 : Nat) = 9999 + 1 from rfl, run_equalIn_agg w 9999 29 _ _ hS hp]
  simp only [Program.fieldsOf, Try.underlying29]
  go_simp
  by_cases h0 : x0 = y0
  rotate_left
  · simp [h0]
  subst h0
  by_cases h1 : x1 = y1
  rotate_left
  · simp [h1]
  subst h1
  by_cases h2 : x2 = y2
  rotate_left
  · simp [h2]
  subst h2
  by_cases h3 : x3 = y3
  rotate_left
  · simp [h3]
  subst h3
  (try simp [])
theorem sn_guard (op : BinOp) (x y : Operand) (xs ys : Array Value) (w : World) : (eqGuard op 29 x y (.agg xs) (.agg ys)).run Try.prog w = .ok () w := run_eqGuard_agg w op 29 x y xs ys (by kernel_rfl)

attribute [local go_sem] sn_neq sn_guard
set_option maxRecDepth 8000 in
set_option maxHeartbeats 8000000 in
theorem rep_Check (s : Int) (y : Bool) (c t p b : Int) (la : Option Addr) (n cp : Nat) (l : List BkR) (z : Bool) (hz : mayR y c t p b l = z) (w : World) (S : BkAt w la n cp l) (hn : n ≤ 100000) :
    Calls Try.prog 5 #[.agg #[.int .u32 s, .bool y, .int .i64 c, .int .u32 t, .int .u32 p, .int .u32 b, .slice la n cp]] w fun e w' => e = .returned (.int .i64 (if z then 0 else 6)) ∧ Below w.heap.size w w' := by
  have K := Blk.new w 32 #[.int .u32 s, .bool y, .int .i64 c, .int .u32 t, .int .u32 p, .int .u32 b, .slice la n cp]
  have B : Below w.heap.size w (w.alloc (.cells #[.int .u32 s, .bool y, .int .i64 c, .int .u32 t, .int .u32 p, .int .u32 b, .slice la n cp] 32)) := (Below.refl _ w).alloc (Nat.le_refl _) _
  obtain ⟨z1, h1⟩ : ∃ z, decide (0 ≤ c ∧ c ≤ 1099511627776) = z := ⟨_, rfl⟩
  have H1 := Lib.hid (fun W => sent_is c t p b z1 h1 W)
  have HZ := Lib.hid hz
  have HZ1 := Lib.hid h1
  have HL := Lib.hid S.len
  clear hz h1
  go_enter Try.func5, Try.ntmps5
  go_upto_region 1 with fail
  have S := S.below B
  generalize w.alloc (.cells #[.int .u32 s, .bool y, .int .i64 c, .int .u32 t, .int .u32 p, .int .u32 b, .slice la n cp] 32) = w1 at *
  have c1 := K.cell
  simp at c1
  go_wp2_with fail
  refine (H1.out _).mono ?_
  rintro e w2 ⟨rfl, hb⟩
  have K := K.below hb K.lt
  have S := S.below hb
  have B := below_then B hb (Nat.le_refl _)
  have c1 := K.cell
  simp at c1
  clear hb H1
  cases z1
  · have hz : z = false := by rw [← HZ.out]; unfold mayR mayS; rw [HZ1.out]; rfl
    clear HZ HZ1 HL
    subst hz
    go_wp2_with fail
    go_ret
    exact ⟨rfl, B⟩
  · cases y
    · by_cases q0 : c = 0
      · by_cases q1 : t = 0
        · by_cases q2 : p = 0
          · by_cases q3 : b = 0
            · have hms : mayS false c t p b = true := by unfold mayS; rw [HZ1.out]; simp [q0, q1, q2, q3]
              subst q0 q1 q2 q3
              have HMS := Lib.hid hms
              clear hms HZ1
              by_cases q4 : n ≤ 31
              · have q5 : (n : Int) ≤ 31 := by omega
                go_wp2_with fail
                go_loopw [29] (fun x wr => ∃ k : Nat, k ≤ n ∧ x = .int .i64 k ∧ (l.take k).all BkR.may = true ∧ Below w.heap.size w wr ∧ Below w2.heap.size w2 wr) (fun x _ => n - (intOf x).toNat)
                case atStart => exact ⟨0, by omega, rfl, rfl, B, Below.refl _ _⟩
                case round =>
                  obtain ⟨k, hk, rfl, hal, B, B2⟩ := hrel
                  have HAL := Lib.hid hal
                  clear hal
                  by_cases hlt : k < n
                  · obtain ⟨g, off, rfl, hg, hcell⟩ := S.at_ (by omega)
                    obtain ⟨x, hx, hc⟩ := hcell k hlt
                    obtain ⟨xs, xf, xl, xh, xj, xa, xd⟩ := x
                    have e0 := (B2.cell (p := ⟨g, off + k * 7, none⟩) hg).trans (hc 0 _ rfl)
                    have e1 := (B2.cell (p := ⟨g, off + k * 7 + 1, none⟩) hg).trans (hc 1 _ rfl)
                    have e2 := (B2.cell (p := ⟨g, off + k * 7 + 2, none⟩) hg).trans (hc 2 _ rfl)
                    have e3 := (B2.cell (p := ⟨g, off + k * 7 + 3, none⟩) hg).trans (hc 3 _ rfl)
                    have e4 := (B2.cell (p := ⟨g, off + k * 7 + 4, none⟩) hg).trans (hc 4 _ rfl)
                    have e5 := (B2.cell (p := ⟨g, off + k * 7 + 5, none⟩) hg).trans (hc 5 _ rfl)
                    have e6 := (B2.cell (p := ⟨g, off + k * 7 + 6, none⟩) hg).trans (hc 6 _ rfl)
                    simp only at e0 e1 e2 e3 e4 e5 e6
                    obtain ⟨zb, hzb⟩ : ∃ z, decide (0 ≤ xf ∧ xf ≤ 255 ∧ -8388608 ≤ xl ∧ xl < 8388608) = z := ⟨_, rfl⟩
                    have HM := Lib.hid (fun W => bk_may xs xf xl xh xj xa xd zb hzb W)
                    have HX := Lib.hid hx
                    have HZB := Lib.hid hzb
                    have i0 : (0 : Int) ≤ (k : Int) := by omega
                    have i1 : (k : Int) < (n : Int) := by omega
                    clear hcell hc hx hzb
                    go_upto_region 6 with fail
                    have k4 := Blk.new wr 49 #[.int .u32 xs, .int .i64 xf, .int .i64 xl, .int .u32 xh, .int .u32 xj, .int .u32 xa, .int .u32 xd]
                    have B4 : Below wr.heap.size wr (wr.alloc (.cells #[.int .u32 xs, .int .i64 xf, .int .i64 xl, .int .u32 xh, .int .u32 xj, .int .u32 xa, .int .u32 xd] 49)) := (Below.refl _ wr).alloc (Nat.le_refl _) _
                    have Bn := below_then B B4 (Nat.le_refl _)
                    have Bn2 := below_then B2 B4 (Nat.le_refl _)
                    generalize wr.alloc (.cells #[.int .u32 xs, .int .i64 xf, .int .i64 xl, .int .u32 xh, .int .u32 xj, .int .u32 xa, .int .u32 xd] 49) = w4 at *
                    generalize wr.heap.size = g4 at *
                    clear e0 e1 e2 e3 e4 e5 e6 B4 B B2
                    have c4 := k4.cell
                    simp at c4
                    go_wp2_with fail
                    refine (HM.out _).mono ?_
                    rintro e w5 ⟨rfl, hb5⟩
                    have Bm := below_then Bn hb5 (Nat.le_refl _)
                    have Bm2 := below_then Bn2 hb5 (Nat.le_refl _)
                    clear hb5 Bn Bn2 c4 k4 HM
                    cases zb
                    · have hzf : z = false := by
                        rw [← HZ.out]
                        unfold mayR
                        have : l.all BkR.may = false := by
                          rw [List.all_eq_false]
                          exact ⟨_, List.mem_of_getElem? HX.out, by unfold BkR.may; rw [HZB.out]; decide⟩
                        rw [this]
                        simp
                      subst hzf
                      go_wp2_with fail
                      go_ret
                      exact ⟨rfl, Bm⟩
                    · go_wp2_with fail
                      go_roundw
                      case rel => exact ⟨k + 1, by omega, by go_num, by rw [List.take_add_one, HX.out, List.all_append, HAL.out]; simp [BkR.may, HZB.out], Bm, Bm2⟩
                      case measure => simp only [intOf]; omega
                  · obtain rfl : k = n := by omega
                    have hzt : z = true := by
                      rw [← HZ.out]
                      unfold mayR
                      have h2 := HAL.out
                      rw [List.take_of_length_le (by have := HL.out; omega)] at h2
                      rw [HMS.out, h2, HL.out]
                      simp; omega
                    subst hzt
                    go_wp2_with fail
                    go_ret
                    exact ⟨rfl, B⟩
              · have q5 : ¬ ((n : Int) ≤ 31) := by omega
                have hzf : z = false := by rw [← HZ.out]; unfold mayR; rw [HL.out]; simp [q4]
                subst hzf
                go_wp2_with fail
                go_ret
                exact ⟨rfl, B⟩
            · have hz : z = false := by rw [← HZ.out]; unfold mayR mayS; rw [HZ1.out]; simp [q3]
              clear HZ HZ1 HL
              subst hz
              have r : (b == 0) = false := by simp [q3]
              go_wp2_with fail
              go_ret
              exact ⟨rfl, B⟩
          · have hz : z = false := by rw [← HZ.out]; unfold mayR mayS; rw [HZ1.out]; simp [q2]
            clear HZ HZ1 HL
            subst hz
            have r : (p == 0) = false := by simp [q2]
            go_wp2_with fail
            go_ret
            exact ⟨rfl, B⟩
        · have hz : z = false := by rw [← HZ.out]; unfold mayR mayS; rw [HZ1.out]; simp [q1]
          clear HZ HZ1 HL
          subst hz
          have r : (t == 0) = false := by simp [q1]
          go_wp2_with fail
          go_ret
          exact ⟨rfl, B⟩
      · have hz : z = false := by rw [← HZ.out]; unfold mayR mayS; rw [HZ1.out]; simp [q0]
        clear HZ HZ1 HL
        subst hz
        have r : (c == 0) = false := by simp [q0]
        go_wp2_with fail
        go_ret
        exact ⟨rfl, B⟩
    · have hms : mayS true c t p b = true := by unfold mayS; rw [HZ1.out]; simp
      have HMS := Lib.hid hms
      clear hms HZ1
      by_cases q4 : n ≤ 31
      · have q5 : (n : Int) ≤ 31 := by omega
        go_wp2_with fail
        go_loopw [29] (fun x wr => ∃ k : Nat, k ≤ n ∧ x = .int .i64 k ∧ (l.take k).all BkR.may = true ∧ Below w.heap.size w wr ∧ Below w2.heap.size w2 wr) (fun x _ => n - (intOf x).toNat)
        case atStart => exact ⟨0, by omega, rfl, rfl, B, Below.refl _ _⟩
        case round =>
          obtain ⟨k, hk, rfl, hal, B, B2⟩ := hrel
          have HAL := Lib.hid hal
          clear hal
          by_cases hlt : k < n
          · obtain ⟨g, off, rfl, hg, hcell⟩ := S.at_ (by omega)
            obtain ⟨x, hx, hc⟩ := hcell k hlt
            obtain ⟨xs, xf, xl, xh, xj, xa, xd⟩ := x
            have e0 := (B2.cell (p := ⟨g, off + k * 7, none⟩) hg).trans (hc 0 _ rfl)
            have e1 := (B2.cell (p := ⟨g, off + k * 7 + 1, none⟩) hg).trans (hc 1 _ rfl)
            have e2 := (B2.cell (p := ⟨g, off + k * 7 + 2, none⟩) hg).trans (hc 2 _ rfl)
            have e3 := (B2.cell (p := ⟨g, off + k * 7 + 3, none⟩) hg).trans (hc 3 _ rfl)
            have e4 := (B2.cell (p := ⟨g, off + k * 7 + 4, none⟩) hg).trans (hc 4 _ rfl)
            have e5 := (B2.cell (p := ⟨g, off + k * 7 + 5, none⟩) hg).trans (hc 5 _ rfl)
            have e6 := (B2.cell (p := ⟨g, off + k * 7 + 6, none⟩) hg).trans (hc 6 _ rfl)
            simp only at e0 e1 e2 e3 e4 e5 e6
            obtain ⟨zb, hzb⟩ : ∃ z, decide (0 ≤ xf ∧ xf ≤ 255 ∧ -8388608 ≤ xl ∧ xl < 8388608) = z := ⟨_, rfl⟩
            have HM := Lib.hid (fun W => bk_may xs xf xl xh xj xa xd zb hzb W)
            have HX := Lib.hid hx
            have HZB := Lib.hid hzb
            have i0 : (0 : Int) ≤ (k : Int) := by omega
            have i1 : (k : Int) < (n : Int) := by omega
            clear hcell hc hx hzb
            go_upto_region 6 with fail
            have k4 := Blk.new wr 49 #[.int .u32 xs, .int .i64 xf, .int .i64 xl, .int .u32 xh, .int .u32 xj, .int .u32 xa, .int .u32 xd]
            have B4 : Below wr.heap.size wr (wr.alloc (.cells #[.int .u32 xs, .int .i64 xf, .int .i64 xl, .int .u32 xh, .int .u32 xj, .int .u32 xa, .int .u32 xd] 49)) := (Below.refl _ wr).alloc (Nat.le_refl _) _
            have Bn := below_then B B4 (Nat.le_refl _)
            have Bn2 := below_then B2 B4 (Nat.le_refl _)
            generalize wr.alloc (.cells #[.int .u32 xs, .int .i64 xf, .int .i64 xl, .int .u32 xh, .int .u32 xj, .int .u32 xa, .int .u32 xd] 49) = w4 at *
            generalize wr.heap.size = g4 at *
            clear e0 e1 e2 e3 e4 e5 e6 B4 B B2
            have c4 := k4.cell
            simp at c4
            go_wp2_with fail
            refine (HM.out _).mono ?_
            rintro e w5 ⟨rfl, hb5⟩
            have Bm := below_then Bn hb5 (Nat.le_refl _)
            have Bm2 := below_then Bn2 hb5 (Nat.le_refl _)
            clear hb5 Bn Bn2 c4 k4 HM
            cases zb
            · have hzf : z = false := by
                rw [← HZ.out]
                unfold mayR
                have : l.all BkR.may = false := by
                  rw [List.all_eq_false]
                  exact ⟨_, List.mem_of_getElem? HX.out, by unfold BkR.may; rw [HZB.out]; decide⟩
                rw [this]
                simp
              subst hzf
              go_wp2_with fail
              go_ret
              exact ⟨rfl, Bm⟩
            · go_wp2_with fail
              go_roundw
              case rel => exact ⟨k + 1, by omega, by go_num, by rw [List.take_add_one, HX.out, List.all_append, HAL.out]; simp [BkR.may, HZB.out], Bm, Bm2⟩
              case measure => simp only [intOf]; omega
          · obtain rfl : k = n := by omega
            have hzt : z = true := by
              rw [← HZ.out]
              unfold mayR
              have h2 := HAL.out
              rw [List.take_of_length_le (by have := HL.out; omega)] at h2
              rw [HMS.out, h2, HL.out]
              simp; omega
            subst hzt
            go_wp2_with fail
            go_ret
            exact ⟨rfl, B⟩
      · have q5 : ¬ ((n : Int) ≤ 31) := by omega
        have hzf : z = false := by rw [← HZ.out]; unfold mayR; rw [HL.out]; simp [q4]
        subst hzf
        go_wp2_with fail
        go_ret
        exact ⟨rfl, B⟩
end Go.Proofs.Ytolgdcchnmbmnaa
