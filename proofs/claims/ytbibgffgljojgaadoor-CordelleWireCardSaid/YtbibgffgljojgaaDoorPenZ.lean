/- Package pen: what was written is read. No condition but that the reader stands, without an error. -/
import Derived.Test.YtbibgffgljojgaaDoorPenB
namespace Go.Proofs.YtbibgffgljojgaaDoor
open Go.RowKit BigFrame
attribute [local go_sem ↓] Go.wp_at_zero Go.wp_at_succ

/-- A reader without an error: what is left. -/
def InZ (W : World) (g : Nat) (l : List Int) : Prop := ∃ s : ByteArray, bytesI s = l ∧ InAt W g s 0
theorem InZ.lt {W : World} {g : Nat} {l : List Int} (h : InZ W g l) : g < W.heap.size := by obtain ⟨s, _, h⟩ := h; exact h.blk.lt
theorem InZ.below {w w' : World} {g : Nat} {l : List Int} (h : InZ w g l) (hb : Below w.heap.size w w') : InZ w' g l := by obtain ⟨s, e, h⟩ := h; exact ⟨s, e, h.below hb⟩
theorem InZ.at_ {w w' : World} {g : Nat} {l : List Int} (h : InZ w g l) (hb : w'.heap[g]? = w.heap[g]?) : InZ w' g l := by obtain ⟨s, e, h⟩ := h; exact ⟨s, e, hb.trans h.blk⟩
theorem be1 (x : Int) : beI x 1 = [x % 256] := by unfold beI; simp
theorem be2 (x : Int) : beI x 2 = [x / 256 % 256, x % 256] := beI2 x
theorem be3 (x : Int) : beI x 3 = [x / 65536 % 256, x / 256 % 256, x % 256] := by unfold beI; simp [List.range_succ]
theorem be4 (x : Int) : beI x 4 = [x / 16777216 % 256, x / 65536 % 256, x / 256 % 256, x % 256] := by unfold beI; simp [List.range_succ]
theorem penZ_U8 (g : Nat) (x : Int) (r : List Int) (w : World) (h : InZ w g (beI x 1 ++ r)) (h0 : 0 ≤ x) (h1 : x ≤ 255) (hs : r.length ≤ 90000) :
    Calls Tryd.prog 28 #[.pointer (some ⟨g, 0, none⟩)] w fun e w' => e = .returned (.int .i64 x) ∧ InZ w' g r ∧ OldBut w w' g := by
  obtain ⟨s, hl, h⟩ := h
  rw [be1] at hl
  have hz := bytesI_len s
  rw [hl] at hz
  simp at hz
  refine (pen_InU8 g s 0 w h (by omega) (by rw [maxLen_eq]; omega)).mono ?_
  rintro e w' ⟨rfl, I, O⟩
  exact ⟨by rw [numS_one hl]; congr 2; omega, ⟨_, by rw [bytesI_drop, hl]; rfl, I⟩, .of_only O⟩
theorem penZ_U16 (g : Nat) (x : Int) (r : List Int) (w : World) (h : InZ w g (beI x 2 ++ r)) (h0 : 0 ≤ x) (h1 : x < 65536) (hs : r.length ≤ 90000) :
    Calls Tryd.prog 29 #[.pointer (some ⟨g, 0, none⟩)] w fun e w' => e = .returned (.int .i64 x) ∧ InZ w' g r ∧ OldBut w w' g := by
  obtain ⟨s, hl, h⟩ := h
  rw [be2] at hl
  have hz := bytesI_len s
  rw [hl] at hz
  simp at hz
  refine (pen_InU16 g s 0 w h (by omega) (by rw [maxLen_eq]; omega)).mono ?_
  rintro e w' ⟨rfl, I, O⟩
  exact ⟨by rw [numS_two hl]; congr 2; omega, ⟨_, by rw [bytesI_drop, hl]; rfl, I⟩, .of_only O⟩
theorem penZ_U32 (g : Nat) (x : Int) (r : List Int) (w : World) (h : InZ w g (beI x 4 ++ r)) (h0 : 0 ≤ x) (h1 : x < 4294967296) (hs : r.length ≤ 90000) :
    Calls Tryd.prog 30 #[.pointer (some ⟨g, 0, none⟩)] w fun e w' => e = .returned (.int .u32 x) ∧ InZ w' g r ∧ OldBut w w' g := by
  obtain ⟨s, hl, h⟩ := h
  rw [be4] at hl
  have hz := bytesI_len s
  rw [hl] at hz
  simp at hz
  refine (pen_InU32 g s 0 w h (by omega) (by rw [maxLen_eq]; omega)).mono ?_
  rintro e w' ⟨rfl, I, O⟩
  exact ⟨by rw [numS_four hl]; congr 2; omega, ⟨_, by rw [bytesI_drop, hl]; rfl, I⟩, .of_only O⟩
theorem penZ_Raw (g : Nat) (b : ByteArray) (n : Nat) (r : List Int) (w : World) (h : InZ w g (bytesI b ++ r)) (hn : b.size = n) (hs : r.length + n ≤ 90000) :
    Calls Tryd.prog 31 #[.pointer (some ⟨g, 0, none⟩), .int .i64 (n : Int)] w fun e w' => e = .returned (.string b) ∧ InZ w' g r ∧ OldBut w w' g := by
  obtain ⟨s, hl, h⟩ := h
  have hz := bytesI_len s
  rw [hl, List.length_append, bytesI_len, hn] at hz
  refine (pen_Raw g s 0 n w h (by omega) (by rw [maxLen_eq]; omega)).mono ?_
  rintro e w' ⟨rfl, I, O⟩
  have hb : (bytesI b).length = n := by rw [bytesI_len, hn]
  refine ⟨?_, ⟨_, ?_, I⟩, .of_only O⟩
  · congr 2
    apply bytesI_inj
    rw [bytesI_extract, hl, List.drop_zero, ← hb]
    exact List.take_left
  · rw [bytesI_drop, hl, ← hb]
    exact List.drop_left
theorem penZ_Left (g : Nat) (l : List Int) (w : World) (h : InZ w g l) :
    Calls Tryd.prog 32 #[.pointer (some ⟨g, 0, none⟩)] w fun e w' => e = .returned (.int .i64 (l.length : Int)) ∧ w = w' :=
  penB_Left g l w (by obtain ⟨s, e, h⟩ := h; exact ⟨s, 0, e, h⟩)
theorem penZ_Err (g : Nat) (l : List Int) (w : World) (h : InZ w g l) :
    Calls Tryd.prog 33 #[.pointer (some ⟨g, 0, none⟩)] w fun e w' => e = .returned (.int .i64 0) ∧ w = w' := by
  obtain ⟨s, hl, h⟩ := h
  have c0 := h.blk.cell
  simp at c0
  go_enter Tryd.func33, Tryd.ntmps33
  go_wp2_with fail
  go_ret
  exact ⟨rfl, rfl⟩
theorem penZ_Of (s : ByteArray) (l : List Int) (hl : bytesI s = l) (w : World) :
    Calls Tryd.prog 27 #[.string s] w fun e w' => ∃ g, e = .returned (.pointer (some ⟨g, 0, none⟩)) ∧ w.heap.size ≤ g ∧ InZ w' g l ∧ Below w.heap.size w w' :=
  (pen_Of s w).mono fun e w' h => ⟨_, h.1, Nat.le_refl _, ⟨s, hl, h.2.1⟩, h.2.2⟩
end Go.Proofs.YtbibgffgljojgaaDoor
