/- Package rtp: within, may, Check, first, second, IsControl. No condition but the sizes. (Printed by gen_wire1.py.) -/
import Derived.Test.YtbibgffgljojgaaDoorPenZ
import Derived.Test.YtbibgffgljojgaaDoorPenRaw
import Derived.Test.YtbibgffgljojgaaDoorPenW
namespace Go.Proofs.YtbibgffgljojgaaDoor
open Go.RowKit BigFrame
attribute [local go_sem ↓] Go.wp_at_zero Go.wp_at_succ

theorem rtp_within (n m : Int) (z : Bool) (hz : decide (0 ≤ n ∧ n ≤ m) = z) (w : World) :
    Calls Tryd.prog 37 #[.int .i64 n, .int .i64 m] w fun e w' => e = .returned (.bool z) ∧ w = w' := by
  by_cases h1 : 0 ≤ n
  · by_cases h2 : n ≤ m
    · have hz2 : z = true := by rw [← hz]; simp [h1, h2]
      subst hz2
      clear hz
      go_enter Tryd.func37, Tryd.ntmps37
      go_wp2_with fail
      go_ret
      exact ⟨rfl, rfl⟩
    · have hz2 : z = false := by rw [← hz]; simp [h2]
      subst hz2
      clear hz
      go_enter Tryd.func37, Tryd.ntmps37
      go_wp2_with fail
      go_ret
      exact ⟨rfl, rfl⟩
  · have hz2 : z = false := by rw [← hz]; simp [h1]
    subst hz2
    clear hz
    go_enter Tryd.func37, Tryd.ntmps37
    go_wp2_with fail
    go_ret
    exact ⟨rfl, rfl⟩
def mayH (kd pf : Int) (on : Nat) (hx : Bool) (ex : ByteArray) : Bool := (hx || (pf == 0 && ex.size == 0)) && (decide (0 ≤ kd ∧ kd ≤ 127) && (decide (on ≤ 15) && (decide (0 ≤ pf ∧ pf ≤ 65535) && decide (ex.size % 4 = 0))))
theorem size0 {s : ByteArray} (h : s.size = 0) : s = ⟨#[]⟩ := by
  obtain ⟨a⟩ := s
  have : a = #[] := Array.eq_empty_of_size_eq_zero h
  rw [this]
theorem str_ne {a b : ByteArray} (h : a ≠ b) : (a.toList == b.toList) = false ∧ (a.toList != b.toList) = true := by
  have h1 : (a.toList == b.toList) = false := by
    rw [Bool.eq_false_iff]
    intro e
    rw [beq_iff_eq, ByteArray.toList_eq, ByteArray.toList_eq] at e
    exact h (ByteArray.ext (Array.toList_inj.mp e))
  exact ⟨h1, by unfold bne; rw [h1]; rfl⟩
theorem str_ne0 {a : ByteArray} (h : ¬ a.size = 0) : (a.toList == (⟨#[]⟩ : ByteArray).toList) = false ∧ (a.toList != (⟨#[]⟩ : ByteArray).toList) = true ∧ (a.toList == []) = false ∧ (a.toList != []) = true := by
  obtain ⟨h1, h2⟩ := str_ne (a := a) (b := ⟨#[]⟩) (fun e => h (by rw [e]; rfl))
  have e : (⟨#[]⟩ : ByteArray).toList = [] := by rw [ByteArray.toList_eq]
  refine ⟨h1, h2, ?_, ?_⟩
  · rw [← e]; exact h1
  · rw [← e]; exact h2
set_option maxRecDepth 8000 in
set_option maxHeartbeats 8000000 in
theorem rtp_may (mk : Bool) (kd sq tm sc : Int) (oa : Option Addr) (on oc : Nat) (hx : Bool) (pf : Int) (ex : ByteArray) (he : ex.size ≤ 10000) (z : Bool) (hz : mayH kd pf on hx ex = z) (w : World) :
    Calls Tryd.prog 36 #[.agg #[.bool mk, .int .i64 kd, .int .u16 sq, .int .u32 tm, .int .u32 sc, .slice oa on oc, .bool hx, .int .i64 pf, .string ex]] w fun e w' => e = .returned (.bool z) ∧ Below w.heap.size w w' := by
  have K := Blk.new w 26 #[.bool mk, .int .i64 kd, .int .u16 sq, .int .u32 tm, .int .u32 sc, .slice oa on oc, .bool hx, .int .i64 pf, .string ex]
  have B : Below w.heap.size w (w.alloc (.cells #[.bool mk, .int .i64 kd, .int .u16 sq, .int .u32 tm, .int .u32 sc, .slice oa on oc, .bool hx, .int .i64 pf, .string ex] 26)) := (Below.refl _ w).alloc (Nat.le_refl _) _
  obtain ⟨z1, h1⟩ : ∃ z1, decide (0 ≤ kd ∧ kd ≤ 127) = z1 := ⟨_, rfl⟩
  obtain ⟨z2, h2⟩ : ∃ z2, decide (0 ≤ pf ∧ pf ≤ 65535) = z2 := ⟨_, rfl⟩
  have H1 := Lib.hid (fun W => rtp_within kd 127 z1 h1 W)
  have H2 := Lib.hid (fun W => rtp_within pf 65535 z2 h2 W)
  have HZ1 := Lib.hid h1
  have HZ2 := Lib.hid h2
  clear h1 h2
  cases hx
  · by_cases q0 : pf = 0
    · by_cases q1 : ex.size = 0
      · obtain rfl := size0 q1
        subst q0
        have hz2 : z2 = true := by rw [← HZ2.out]; decide
        subst hz2
        cases z1
        · have hzz : z = false := by rw [← hz]; unfold mayH; rw [HZ1.out]; simp
          subst hzz
          clear hz
          go_enter Tryd.func36, Tryd.ntmps36
          go_upto_region 1 with fail
          generalize w.alloc (.cells _ 26) = w1 at *
          have c1 := K.cell
          simp at c1
          go_wp2_with (first | (go_at_call 37; ((with_reducible refine (H1.out _).mono ?_); rintro e w' ⟨rfl, rfl⟩)) | (go_at_call 37; ((with_reducible refine (H2.out _).mono ?_); rintro e w' ⟨rfl, rfl⟩)))
          go_ret
          exact ⟨rfl, B⟩
        · by_cases q2 : on ≤ 15
          · have q3 : (on : Int) ≤ 15 := by omega
            have hzz : z = true := by rw [← hz]; unfold mayH; rw [HZ1.out]; simp only [decide_eq_true q2]; rfl
            subst hzz
            clear hz
            go_enter Tryd.func36, Tryd.ntmps36
            go_upto_region 1 with fail
            generalize w.alloc (.cells _ 26) = w1 at *
            have c1 := K.cell
            simp at c1
            go_wp2_with (first | (go_at_call 37; ((with_reducible refine (H1.out _).mono ?_); rintro e w' ⟨rfl, rfl⟩)) | (go_at_call 37; ((with_reducible refine (H2.out _).mono ?_); rintro e w' ⟨rfl, rfl⟩)))
            go_ret
            exact ⟨rfl, B⟩
          · have q3 : ¬ (on : Int) ≤ 15 := by omega
            have hzz : z = false := by rw [← hz]; unfold mayH; simp [q2]
            subst hzz
            clear hz
            go_enter Tryd.func36, Tryd.ntmps36
            go_upto_region 1 with fail
            generalize w.alloc (.cells _ 26) = w1 at *
            have c1 := K.cell
            simp at c1
            go_wp2_with (first | (go_at_call 37; ((with_reducible refine (H1.out _).mono ?_); rintro e w' ⟨rfl, rfl⟩)) | (go_at_call 37; ((with_reducible refine (H2.out _).mono ?_); rintro e w' ⟨rfl, rfl⟩)))
            go_ret
            exact ⟨rfl, B⟩
      · obtain ⟨q2, q3, q4, q5⟩ := str_ne0 q1
        subst q0
        have hzz : z = false := by rw [← hz]; unfold mayH; simp [q1]
        subst hzz
        clear q1
        clear hz
        go_enter Tryd.func36, Tryd.ntmps36
        go_upto_region 1 with fail
        generalize w.alloc (.cells _ 26) = w1 at *
        have c1 := K.cell
        simp at c1
        go_wp2_with (first | (go_at_call 37; ((with_reducible refine (H1.out _).mono ?_); rintro e w' ⟨rfl, rfl⟩)) | (go_at_call 37; ((with_reducible refine (H2.out _).mono ?_); rintro e w' ⟨rfl, rfl⟩)))
        go_ret
        exact ⟨rfl, B⟩
    · have q2 : (pf != 0) = true := by simp [q0]
      have hzz : z = false := by rw [← hz]; unfold mayH; simp [q0]
      subst hzz
      clear q0
      clear hz
      go_enter Tryd.func36, Tryd.ntmps36
      go_upto_region 1 with fail
      generalize w.alloc (.cells _ 26) = w1 at *
      have c1 := K.cell
      simp at c1
      go_wp2_with (first | (go_at_call 37; ((with_reducible refine (H1.out _).mono ?_); rintro e w' ⟨rfl, rfl⟩)) | (go_at_call 37; ((with_reducible refine (H2.out _).mono ?_); rintro e w' ⟨rfl, rfl⟩)))
      go_ret
      exact ⟨rfl, B⟩
  · cases z1
    · have hzz : z = false := by rw [← hz]; unfold mayH; rw [HZ1.out]; simp
      subst hzz
      clear hz
      go_enter Tryd.func36, Tryd.ntmps36
      go_upto_region 1 with fail
      generalize w.alloc (.cells _ 26) = w1 at *
      have c1 := K.cell
      simp at c1
      go_wp2_with (first | (go_at_call 37; ((with_reducible refine (H1.out _).mono ?_); rintro e w' ⟨rfl, rfl⟩)) | (go_at_call 37; ((with_reducible refine (H2.out _).mono ?_); rintro e w' ⟨rfl, rfl⟩)))
      go_ret
      exact ⟨rfl, B⟩
    · by_cases q2 : on ≤ 15
      · have q3 : (on : Int) ≤ 15 := by omega
        cases z2
        · have hzz : z = false := by rw [← hz]; unfold mayH; rw [HZ2.out]; simp
          subst hzz
          clear hz
          go_enter Tryd.func36, Tryd.ntmps36
          go_upto_region 1 with fail
          generalize w.alloc (.cells _ 26) = w1 at *
          have c1 := K.cell
          simp at c1
          go_wp2_with (first | (go_at_call 37; ((with_reducible refine (H1.out _).mono ?_); rintro e w' ⟨rfl, rfl⟩)) | (go_at_call 37; ((with_reducible refine (H2.out _).mono ?_); rintro e w' ⟨rfl, rfl⟩)))
          go_ret
          exact ⟨rfl, B⟩
        · obtain ⟨sz, hsz⟩ : ∃ sz, ex.size = sz := ⟨_, rfl⟩
          by_cases q4 : sz % 4 = 0
          · have r1 : ((sz : Int) % 4 == 0) = true := by simp; omega
            have r3 : (sz : Int) / 4 ≤ 65535 := by omega
            have hzz : z = true := by rw [← hz]; unfold mayH; rw [HZ1.out, HZ2.out, hsz]; simp [q2, q4]
            subst hzz
            clear he q4
            clear hz
            go_enter Tryd.func36, Tryd.ntmps36
            go_upto_region 1 with fail
            generalize w.alloc (.cells _ 26) = w1 at *
            have c1 := K.cell
            simp at c1
            go_wp2_with (first | (go_at_call 37; ((with_reducible refine (H1.out _).mono ?_); rintro e w' ⟨rfl, rfl⟩)) | (go_at_call 37; ((with_reducible refine (H2.out _).mono ?_); rintro e w' ⟨rfl, rfl⟩)))
            go_ret
            exact ⟨rfl, B⟩
          · have r1 : ((sz : Int) % 4 == 0) = false := by simp; omega
            have hzz : z = false := by rw [← hz]; unfold mayH; rw [hsz]; simp [q4]
            subst hzz
            clear he q4
            clear hz
            go_enter Tryd.func36, Tryd.ntmps36
            go_upto_region 1 with fail
            generalize w.alloc (.cells _ 26) = w1 at *
            have c1 := K.cell
            simp at c1
            go_wp2_with (first | (go_at_call 37; ((with_reducible refine (H1.out _).mono ?_); rintro e w' ⟨rfl, rfl⟩)) | (go_at_call 37; ((with_reducible refine (H2.out _).mono ?_); rintro e w' ⟨rfl, rfl⟩)))
            go_ret
            exact ⟨rfl, B⟩
      · have q3 : ¬ (on : Int) ≤ 15 := by omega
        have hzz : z = false := by rw [← hz]; unfold mayH; simp [q2]
        subst hzz
        clear hz
        go_enter Tryd.func36, Tryd.ntmps36
        go_upto_region 1 with fail
        generalize w.alloc (.cells _ 26) = w1 at *
        have c1 := K.cell
        simp at c1
        go_wp2_with (first | (go_at_call 37; ((with_reducible refine (H1.out _).mono ?_); rintro e w' ⟨rfl, rfl⟩)) | (go_at_call 37; ((with_reducible refine (H2.out _).mono ?_); rintro e w' ⟨rfl, rfl⟩)))
        go_ret
        exact ⟨rfl, B⟩
theorem rtp_Check (mk : Bool) (kd sq tm sc : Int) (oa : Option Addr) (on oc : Nat) (hx : Bool) (pf : Int) (ex : ByteArray) (da : ByteArray) (he : ex.size ≤ 10000) (z : Bool) (hz : mayH kd pf on hx ex = z) (w : World) :
    Calls Tryd.prog 17 #[.agg #[.bool mk, .int .i64 kd, .int .u16 sq, .int .u32 tm, .int .u32 sc, .slice oa on oc, .bool hx, .int .i64 pf, .string ex, .string da, .int .i64 0]] w fun e w' => e = .returned (.int .i64 (if z then 0 else 6)) ∧ Below w.heap.size w w' := by
  have K := Blk.new w 28 #[.bool mk, .int .i64 kd, .int .u16 sq, .int .u32 tm, .int .u32 sc, .slice oa on oc, .bool hx, .int .i64 pf, .string ex, .string da, .int .i64 0]
  have B : Below w.heap.size w (w.alloc (.cells #[.bool mk, .int .i64 kd, .int .u16 sq, .int .u32 tm, .int .u32 sc, .slice oa on oc, .bool hx, .int .i64 pf, .string ex, .string da, .int .i64 0] 28)) := (Below.refl _ w).alloc (Nat.le_refl _) _
  have HM := Lib.hid (fun W => rtp_may mk kd sq tm sc oa on oc hx pf ex he z hz W)
  have HW := Lib.hid (fun W => rtp_within 0 255 true (by decide) W)
  clear hz he
  go_enter Tryd.func17, Tryd.ntmps17
  go_upto_region 1 with fail
  generalize w.alloc (.cells #[.bool mk, .int .i64 kd, .int .u16 sq, .int .u32 tm, .int .u32 sc, .slice oa on oc, .bool hx, .int .i64 pf, .string ex, .string da, .int .i64 0] 28) = w1 at *
  have c1 := K.cell
  simp at c1
  go_wp2_with fail
  refine (HM.out _).mono ?_
  rintro e w2 ⟨rfl, hb⟩
  have K2 := K.below hb K.lt
  have B2 := below_then B hb (Nat.le_refl _)
  have c2 := K2.cell
  simp at c2
  clear c1 hb B K HM
  cases z
  · go_wp2_with fail
    go_ret
    exact ⟨rfl, B2⟩
  · go_wp2_with (go_at_call 37; ((with_reducible refine (HW.out _).mono ?_); rintro e w' ⟨rfl, rfl⟩))
    go_ret
    exact ⟨rfl, B2⟩
def firstP (on : Nat) (hx : Bool) : Int := 128 + (on : Int) + (if hx then 16 else 0)
def secondP (mk : Bool) (kd : Int) : Int := kd + (if mk then 128 else 0)
theorem or_first : ∀ k : Fin 16, bits .or .i64 128 ((k.1 : Nat) : Int) = 128 + ((k.1 : Nat) : Int) ∧ bits .or .i64 (128 + ((k.1 : Nat) : Int)) 16 = 144 + ((k.1 : Nat) : Int) := by decide
theorem or_second : ∀ k : Fin 128, bits .or .i64 ((k.1 : Nat) : Int) 128 = ((k.1 : Nat) : Int) + 128 := by decide
theorem rtp_first (mk : Bool) (kd sq tm sc : Int) (oa : Option Addr) (on oc : Nat) (hx : Bool) (pf : Int) (ex : ByteArray) (h : on ≤ 15) (q : Int) (hq : firstP on hx = q) (w : World) :
    Calls Tryd.prog 18 #[.agg #[.bool mk, .int .i64 kd, .int .u16 sq, .int .u32 tm, .int .u32 sc, .slice oa on oc, .bool hx, .int .i64 pf, .string ex]] w fun e w' => e = .returned (.int .i64 q) ∧ Below w.heap.size w w' := by
  have K := Blk.new w 26 #[.bool mk, .int .i64 kd, .int .u16 sq, .int .u32 tm, .int .u32 sc, .slice oa on oc, .bool hx, .int .i64 pf, .string ex]
  have B : Below w.heap.size w (w.alloc (.cells #[.bool mk, .int .i64 kd, .int .u16 sq, .int .u32 tm, .int .u32 sc, .slice oa on oc, .bool hx, .int .i64 pf, .string ex] 26)) := (Below.refl _ w).alloc (Nat.le_refl _) _
  obtain ⟨h1, h2⟩ := or_first ⟨on, by omega⟩
  simp only at h1 h2
  obtain ⟨r, hr⟩ : ∃ r, 128 + (on : Int) = r := ⟨_, rfl⟩
  rw [hr] at h1 h2
  cases hx
  · obtain rfl : r = q := by rw [← hq, ← hr]; unfold firstP; simp
    clear hq hr
    go_enter Tryd.func18, Tryd.ntmps18
    go_upto_region 1 with fail
    generalize w.alloc (.cells #[.bool mk, .int .i64 kd, .int .u16 sq, .int .u32 tm, .int .u32 sc, .slice oa on oc, .bool false, .int .i64 pf, .string ex] 26) = w1 at *
    have c1 := K.cell
    simp at c1
    go_wp2_with fail
    go_ret
    exact ⟨rfl, B⟩
  · have e : 144 + (on : Int) = q := by rw [← hq]; unfold firstP; simp; omega
    rw [e] at h2
    clear hq hr e
    go_enter Tryd.func18, Tryd.ntmps18
    go_upto_region 1 with fail
    generalize w.alloc (.cells #[.bool mk, .int .i64 kd, .int .u16 sq, .int .u32 tm, .int .u32 sc, .slice oa on oc, .bool true, .int .i64 pf, .string ex] 26) = w1 at *
    have c1 := K.cell
    simp at c1
    go_wp2_with fail
    go_ret
    exact ⟨rfl, B⟩
theorem rtp_second (mk : Bool) (kd sq tm sc : Int) (oa : Option Addr) (on oc : Nat) (hx : Bool) (pf : Int) (ex : ByteArray) (h0 : 0 ≤ kd) (h : kd ≤ 127) (q : Int) (hq : secondP mk kd = q) (w : World) :
    Calls Tryd.prog 21 #[.agg #[.bool mk, .int .i64 kd, .int .u16 sq, .int .u32 tm, .int .u32 sc, .slice oa on oc, .bool hx, .int .i64 pf, .string ex]] w fun e w' => e = .returned (.int .i64 q) ∧ Below w.heap.size w w' := by
  have K := Blk.new w 26 #[.bool mk, .int .i64 kd, .int .u16 sq, .int .u32 tm, .int .u32 sc, .slice oa on oc, .bool hx, .int .i64 pf, .string ex]
  have B : Below w.heap.size w (w.alloc (.cells #[.bool mk, .int .i64 kd, .int .u16 sq, .int .u32 tm, .int .u32 sc, .slice oa on oc, .bool hx, .int .i64 pf, .string ex] 26)) := (Below.refl _ w).alloc (Nat.le_refl _) _
  have h1 := or_second ⟨kd.toNat, by omega⟩
  simp only at h1
  rw [Int.toNat_of_nonneg h0] at h1
  cases mk
  · obtain rfl : kd = q := by rw [← hq]; unfold secondP; simp
    clear hq
    go_enter Tryd.func21, Tryd.ntmps21
    go_upto_region 1 with fail
    generalize w.alloc (.cells #[.bool false, .int .i64 kd, .int .u16 sq, .int .u32 tm, .int .u32 sc, .slice oa on oc, .bool hx, .int .i64 pf, .string ex] 26) = w1 at *
    have c1 := K.cell
    simp at c1
    go_wp2_with fail
    go_ret
    exact ⟨rfl, B⟩
  · have e : kd + 128 = q := by rw [← hq]; unfold secondP; simp
    rw [e] at h1
    clear hq e
    go_enter Tryd.func21, Tryd.ntmps21
    go_upto_region 1 with fail
    generalize w.alloc (.cells #[.bool true, .int .i64 kd, .int .u16 sq, .int .u32 tm, .int .u32 sc, .slice oa on oc, .bool hx, .int .i64 pf, .string ex] 26) = w1 at *
    have c1 := K.cell
    simp at c1
    go_wp2_with fail
    go_ret
    exact ⟨rfl, B⟩
theorem rtp_IsControl (w : World) :
    Calls Tryd.prog 4 #[.string ⟨#[128, 96]⟩] w fun e w' => e = .returned (.bool false) ∧ w = w' := by
  go_enter Tryd.func4, Tryd.ntmps4
  go_wp2_with fail
  go_ret
  exact ⟨rfl, rfl⟩
end Go.Proofs.YtbibgffgljojgaaDoor
