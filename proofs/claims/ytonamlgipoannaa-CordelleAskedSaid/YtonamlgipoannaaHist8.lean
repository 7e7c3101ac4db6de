/- The statements' awake of package history. No condition. -/
import Derived.Test.YtonamlgipoannaaHist7
namespace Go.Proofs.Ytonamlgipoannaa
open Go.RowKit BigFrame
attribute [local go_sem ↓] Go.wp_at_zero Go.wp_at_succ
theorem hrec_eql (x0 y0 : Int) (x1 y1 : Int) (x2 y2 : Int) (x3 y3 : ByteArray) (w : World) : (binOp .eql 33 (.agg #[.int .i64 x0, .int .i64 x1, .int .i64 x2, .string x3]) (.agg #[.int .i64 y0, .int .i64 y1, .int .i64 y2, .string y3])).run Try.prog w = .ok (.bool ((x0 == y0) && (x1 == y1) && (x2 == y2) && (x3.toList == y3.toList))) w := by
  have hS : Try.prog.underlying 33 = some (.struct (Try.prog.fieldsOf 33)) := by kernel_rfl
  have hp : Try.prog.stoodInHeld 33 = false := by kernel_rfl
  have u3 := Try.underlying3
  have a3 := Try.isAgg3
  have z3 := Try.sizeOf3
  have u9 := Try.underlying9
  have a9 := Try.isAgg9
  have z9 := Try.sizeOf9
  rw [run_eql_struct, show (10000 : Nat) = 9999 + 1 from rfl, run_equalIn_agg w 9999 33 _ _ hS hp]
  simp only [Program.fieldsOf, Try.underlying33]
  go_simp
  by_cases h0 : x0 = y0
  rotate_left
  · simp [h0]
  subst h0
  by_cases h1 : x1 = y1
  rotate_left
  · simp [h1]
  subst h1
  by_cases h2 : x2 = y2
  rotate_left
  · simp [h2]
  subst h2
  cases h3 : (x3.toList == y3.toList)
  · (try simp [h3]); try simpa using h3
  (try simp [h3])
  try simpa using h3
theorem hrec_neq (x0 y0 : Int) (x1 y1 : Int) (x2 y2 : Int) (x3 y3 : ByteArray) (w : World) : (binOp .neq 33 (.agg #[.int .i64 x0, .int .i64 x1, .int .i64 x2, .string x3]) (.agg #[.int .i64 y0, .int .i64 y1, .int .i64 y2, .string y3])).run Try.prog w = .ok (.bool (!((x0 == y0) && (x1 == y1) && (x2 == y2) && (x3.toList == y3.toList)))) w := by
  have hS : Try.prog.underlying 33 = some (.struct (Try.prog.fieldsOf 33)) := by kernel_rfl
  have hp : Try.prog.stoodInHeld 33 = false := by kernel_rfl
  have u3 := Try.underlying3
  have a3 := Try.isAgg3
  have z3 := Try.sizeOf3
  have u9 := Try.underlying9
  have a9 := Try.isAgg9
  have z9 := Try.sizeOf9
  rw [run_neq_struct, show (10000 : Nat) = 9999 + 1 from rfl, run_equalIn_agg w 9999 33 _ _ hS hp]
  simp only [Program.fieldsOf, Try.underlying33]
  go_simp
  by_cases h0 : x0 = y0
  rotate_left
  · simp [h0]
  subst h0
  by_cases h1 : x1 = y1
  rotate_left
  · simp [h1]
  subst h1
  by_cases h2 : x2 = y2
  rotate_left
  · simp [h2]
  subst h2
  cases h3 : (x3.toList == y3.toList)
  · (try simp [h3]); try simpa using h3
  (try simp [h3])
  try simpa using h3
theorem hrec_guard (op : BinOp) (x y : Operand) (xs ys : Array Value) (w : World) : (eqGuard op 33 x y (.agg xs) (.agg ys)).run Try.prog w = .ok () w := run_eqGuard_agg w op 33 x y xs ys (by kernel_rfl)

attribute [local go_sem] hrec_eql hrec_neq hrec_guard
theorem rising_one (r : HR) : Rising [r] := fun i j a b hij _ hb => by
  have := (List.getElem?_eq_some_iff.1 hb).1
  simp at this
  omega
set_option maxRecDepth 8000 in
set_option maxHeartbeats 4000000 in
theorem law21_awake (w : World) :
    Calls Try.prog 12 #[] w fun e w' => e = .returned (.bool true) ∧ Below w.heap.size w w' := by
  go_enter Try.func12, Try.ntmps12
  go_wp2_with fail
  refine (hist_New 1 1 1 1 (by decide) (by decide) w).mono ?_
  rintro e w1 ⟨rfl, h1, B1⟩
  obtain ⟨g, hg⟩ : ∃ g, w.heap.size = g := ⟨_, rfl⟩
  have HG := Lib.hid hg
  rw [hg] at h1 B1 ⊢
  have gl := h1.blk.lt
  clear hg
  go_wp2_with fail
  refine (hist_PutYes g 1 1 0 [] [] _ 5 1 ⟨#[97]⟩ w1 h1 (by decide) (by decide) (by decide) (fun r h _ => by simp at h) (by decide)).mono ?_
  rintro e w2 ⟨rfl, v2, h2, M2⟩
  have B2 : Below g w1 w2 := M2.down (Nat.le_of_lt gl) (Nat.le_refl _) (fun k e => by cases e)
  have hv2 : ∀ k, v2.ownBlock = some k → g ≤ k := M2.base (Nat.le_of_lt gl) (fun k e => by cases e)
  simp only [List.nil_append] at h2
  have s2 := B2.size
  go_wp2_with fail
  refine (hist_AgainYes g 1 1 0 [⟨5, 0, 1, ⟨#[97]⟩⟩] v2 5 2 w2 h2 (rising_one _) (by decide) 0 ⟨5, 0, 1, ⟨#[97]⟩⟩ rfl rfl (by decide) (by decide) (by decide) (by decide) (by decide)).mono ?_
  rintro e w3 ⟨rfl, h3, M3⟩
  have B3 : Below g w2 w3 := M3.down (by omega) (Nat.le_refl _) hv2
  simp only [HR.val, HR.again, List.set_cons_zero] at h3 ⊢
  have s3 := B3.size
  have K3 := Blk.new w3 33 #[.int .i64 5, .int .i64 1, .int .i64 2, .string ⟨#[97]⟩]
  have B3' : Below w3.heap.size w3 (w3.alloc (.cells #[.int .i64 5, .int .i64 1, .int .i64 2, .string ⟨#[97]⟩] 33)) := (Below.refl _ w3).alloc (Nat.le_refl _) _
  go_upto_region 5 with fail
  have h3' := h3.below B3'
  have B3w : Below g w3 (w3.alloc (.cells #[.int .i64 5, .int .i64 1, .int .i64 2, .string ⟨#[97]⟩] 33)) := B3'.mono (by omega)
  have hvl := fun k (e : v2.ownBlock = some k) => (h3.own.lt k e).2
  have lt3 : g < w3.heap.size := h3.blk.lt
  obtain ⟨b2, hb2⟩ : ∃ b, w3.heap.size = b := ⟨_, rfl⟩
  have HB2 := Lib.hid hb2
  rw [hb2] at K3 ⊢
  generalize w3.alloc (.cells #[.int .i64 5, .int .i64 1, .int .i64 2, .string ⟨#[97]⟩] 33) = w4 at *
  have s4 := B3w.size
  clear hb2 B3' h3
  go_wp2_with fail
  refine (hist_AgainNo g 1 1 (0 + 1) [⟨5, 1, 2, ⟨#[97]⟩⟩] v2 5 2 w4 h3' (rising_one _) (by decide) (fun r e => by
    injection e with e
    subst e
    decide)).mono ?_
  rintro e w5 ⟨rfl, B5⟩
  have h5 := h3'.below B5
  have K5 := K3.below B5 K3.lt
  have B5w : Below g w4 w5 := B5.mono (by omega)
  have s5 := B5.size
  have B6' : Below w5.heap.size w5 (w5.alloc (.cells #[.int .i64 0, .int .i64 0, .int .i64 0, .string ⟨#[]⟩] 33)) := (Below.refl _ w5).alloc (Nat.le_refl _) _
  unfold HR.val hrZero
  go_upto_region 6 with fail
  have h6 := h5.below B6'
  have K6 := K5.below B6' K5.lt
  have B6w : Below g w5 (w5.alloc (.cells #[.int .i64 0, .int .i64 0, .int .i64 0, .string ⟨#[]⟩] 33)) := B6'.mono (by omega)
  generalize w5.alloc (.cells #[.int .i64 0, .int .i64 0, .int .i64 0, .string ⟨#[]⟩] 33) = w6 at *
  have s6 := B6w.size
  clear B6' h5 K5 h3' K3
  go_wp2_with fail
  refine (hist_PutYes g 1 1 (0 + 1) [⟨5, 1, 2, ⟨#[97]⟩⟩] [] v2 6 1 ⟨#[98]⟩ w6 h6 (by decide) (by decide) (by decide) (fun r h _ => by
    injection h with h
    subst h
    decide) rfl).mono ?_
  rintro e w7 ⟨rfl, v7, h7, M7⟩
  simp only [List.nil_append] at h7
  have B7 : Below g w6 w7 := M7.down (by omega) (Nat.le_refl _) hv2
  have K7 : Blk w7 b2 33 #[.int .i64 5, .int .i64 1, .int .i64 2, .string ⟨#[97]⟩] := (M7.keep b2 K6.lt (by have := HB2.out; omega) (fun e => by have := hvl b2 e; have := HB2.out; omega)).trans K6
  go_wp2_with fail
  refine (hist_Get g 1 1 (0 + 1) [⟨6, 0, 1, ⟨#[98]⟩⟩] v7 5 w7 h7 (rising_one _) (by decide)).mono ?_
  rintro e w8 ⟨rfl, B8⟩
  have h8 := h7.below B8
  have K8 := K7.below B8 K7.lt
  have lt7 := h7.blk.lt
  have B8w : Below g w7 w8 := B8.mono (by omega)
  have s8 := B8.size
  have hgn : getR [⟨6, 0, 1, ⟨#[98]⟩⟩] 5 = none := by decide
  rw [hgn]
  simp only [Option.getD_none, Option.isSome_none]
  have B9' : Below w8.heap.size w8 (w8.alloc (.cells #[.int .i64 0, .int .i64 0, .int .i64 0, .string ⟨#[]⟩] 33)) := (Below.refl _ w8).alloc (Nat.le_refl _) _
  unfold HR.val hrZero
  go_upto_region 8 with fail
  have h9 := h8.below B9'
  have K9 := K8.below B9' K8.lt
  have B9w : Below g w8 (w8.alloc (.cells #[.int .i64 0, .int .i64 0, .int .i64 0, .string ⟨#[]⟩] 33)) := B9'.mono (by omega)
  generalize w8.alloc (.cells #[.int .i64 0, .int .i64 0, .int .i64 0, .string ⟨#[]⟩] 33) = w9 at *
  have c9 := K9.cell
  simp at c9
  have BE : Below g w w9 := B1.trans (B2.trans (B3.trans (B3w.trans (B5w.trans (B6w.trans (B7.trans (B8w.trans B9w)))))))
  have HLn := Lib.hid (hist_Len g 1 1 (0 + 1) _ v7 w9 h9)
  go_wp2_with fail
  refine HLn.out.mono ?_
  rintro e w10 ⟨rfl, rfl⟩
  go_wp2_with fail
  go_ret
  exact ⟨rfl, by rw [HG.out]; exact BE⟩
end Go.Proofs.Ytonamlgipoannaa
