/- Package pen: numbers written, all that was written as a text; a text read. No condition but that the writer stands and the sizes. -/
import Derived.Test.YtbibgffgljojgaaDoorPen
namespace Go.Proofs.YtbibgffgljojgaaDoor
open Go.RowKit BigFrame
attribute [local go_sem ↓] Go.wp_at_zero Go.wp_at_succ

def beAll (ns : Nat → Int) (size k : Nat) : List Int := (List.range k).flatMap fun i => beI (ns i % 4294967296) size
theorem beAll_succ (ns : Nat → Int) (size k : Nat) : beAll ns size (k + 1) = beAll ns size k ++ beI (ns k % 4294967296) size := by
  unfold beAll; rw [List.range_succ, List.flatMap_append]; simp
theorem beAll_len (ns : Nat → Int) (size k : Nat) : (beAll ns size k).length = k * size := by
  induction k with
  | zero => simp [beAll]
  | succ k ih => rw [beAll_succ, List.length_append, ih, beI_len, Nat.succ_mul]

set_option maxHeartbeats 4000000 in
theorem pen_each (g : Nat) (bs : List Int) (v : Value) (size : Nat) (la : Option Addr) (n c : Nat) (ns : Nat → Int) (w : World) (h : OutAt w g bs v) (hs : size ≤ 4) (hl : bs.length + n * 4 ≤ 100000) (S : SliceOf w la n c 1 (fun i => [.int .i64 (ns i)]))
    (hsep : ∀ b off, la = some ⟨b, off, none⟩ → b ≠ g ∧ v.ownBlock ≠ some b) :
    Calls Tryd.prog 44 #[.pointer (some ⟨g, 0, none⟩), .int .i64 (size : Int), .slice la n c] w fun e w' => e = .returned (.pointer (some ⟨g, 0, none⟩)) ∧ ∃ v', OutAt w' g (bs ++ beAll ns size n) v' ∧ MovedP w w' g v v' := by
  have hln := S.size_le
  go_enter Tryd.func44, Tryd.ntmps44
  go_wp2_with fail
  go_loopw [11] (fun k wr => ∃ (m : Nat) (v' : Value), m ≤ n ∧ k = .int .i64 m ∧ OutAt wr g (bs ++ beAll ns size m) v' ∧ MovedP w wr g v v') (fun k _ => n - (intOf k).toNat)
  case atStart => exact ⟨0, v, Nat.zero_le _, rfl, by simpa [beAll] using h, MovedP.refl _ _ _⟩
  case round =>
    obtain ⟨m, v', hm, rfl, H, M⟩ := hrel
    by_cases hlt : m < n
    · obtain ⟨bb, off, rfl, hbb, hcell⟩ := S.at1 (by omega)
      obtain ⟨s1, s2⟩ := hsep bb off rfl
      have d := hcell m hlt
      have dw : wr.cell? ⟨bb, off + m, none⟩ = some (.int .i64 (ns m)) := (World.cell?_of_block (M.keep bb hbb s1 s2)).trans d
      obtain ⟨x, hx⟩ : ∃ x, ns m = x := ⟨_, rfl⟩
      obtain ⟨y, hy⟩ : ∃ y, x % 4294967296 = y := ⟨_, rfl⟩
      have HY := Lib.hid (show ns m % 4294967296 = y by rw [hx]; exact hy)
      rw [hx] at dw
      have wy : IntKind.u32.wrap x = y := by rw [← hy]; simp [IntKind.wrap, IntKind.signed, IntKind.bits]
      have y0 : 0 ≤ y ∧ y < 4294967296 := by omega
      have i0 : (0 : Int) ≤ (m : Int) := by omega
      have i1 : (m : Int) < (n : Int) := by omega
      have wk : IntKind.i64.wrap ((m : Int) + 1) = ((m + 1 : Nat) : Int) := by rw [IntWalk.i64_in _ (by omega)]; omega
      have hlen : (bs ++ beAll ns size m).length ≤ 100000 := by
        rw [List.length_append, beAll_len]
        have : m * size ≤ n * 4 := Nat.mul_le_mul hm hs
        omega
      clear hx hy d hcell
      go_wp2_with fail
      refine (pen_put g _ v' y size wr H y0 hs hlen).mono ?_
      rintro e w2 ⟨rfl, v2, H2, M2⟩
      have M3 := M.trans M2
      go_wp2_with fail
      go_roundw
      case rel => exact ⟨m + 1, v2, by omega, by go_num, by rw [beAll_succ, HY.out, ← List.append_assoc]; exact H2, M3⟩
      case measure => simp only [intOf]; omega
    · obtain rfl : m = n := by omega
      have j1 : ¬ (m : Int) < (m : Int) := by omega
      go_wp2_with fail
      go_ret
      exact ⟨rfl, v', H, M⟩
theorem pen_U16 (g : Nat) (bs : List Int) (v : Value) (la : Option Addr) (n c : Nat) (ns : Nat → Int) (w : World) (h : OutAt w g bs v) (hl : bs.length + n * 4 ≤ 100000) (S : SliceOf w la n c 1 (fun i => [.int .i64 (ns i)]))
    (hsep : ∀ b off, la = some ⟨b, off, none⟩ → b ≠ g ∧ v.ownBlock ≠ some b) :
    Calls Tryd.prog 22 #[.pointer (some ⟨g, 0, none⟩), .slice la n c] w fun e w' => e = .returned (.pointer (some ⟨g, 0, none⟩)) ∧ ∃ v', OutAt w' g (bs ++ beAll ns 2 n) v' ∧ MovedP w w' g v v' := by
  have HE := Lib.hid (pen_each g bs v 2 la n c ns w h (by omega) hl S hsep)
  go_enter Tryd.func22, Tryd.ntmps22
  go_wp2_with fail
  refine HE.out.mono ?_
  rintro e w2 ⟨rfl, v2, H2, M2⟩
  go_wp2_with fail
  go_ret
  exact ⟨rfl, v2, H2, M2⟩
theorem own_bytes {w : World} {B : Nat} {bs : List Int} {v : Value} (h : w.ownsRow B 5 1 v bs.length (u8C bs)) : (convert 51 9 v).run Tryd.prog w = .ok (.string (strOfNums bs)) w := by
  rcases h.2 with ⟨rfl, h0⟩ | ⟨g, cap, cur, rfl, hb, hg, hn, hm, hs, hx⟩
  · obtain rfl : bs = [] := List.length_eq_zero_iff.1 (by omega)
    exact run_convert_bytes_nil w 51 5 Tryd.underlying51 Tryd.underlying5 0 0 9 Tryd.underlying9
  · refine run_convert_bytes_arg w 51 5 Tryd.underlying51 Tryd.underlying5 g 0 bs.length cap bs rfl (fun i hi => ?_) 9 Tryd.underlying9
    have := World.ownsRow.cellAt h i (by omega)
    rw [Nat.zero_add]
    rw [this]
    unfold u8C
    rw [List.getElem?_map, List.getElem?_eq_getElem hi, List.getD_eq_getElem?_getD, List.getElem?_eq_getElem hi]
    rfl
theorem pen_Bytes (g : Nat) (bs : List Int) (v : Value) (w : World) (h : OutAt w g bs v) :
    Calls Tryd.prog 25 #[.pointer (some ⟨g, 0, none⟩)] w fun e w' => e = .returned (.string (strOfNums bs)) ∧ w = w' := by
  have c1 := h.blk.cell
  simp at c1
  have hc := own_bytes h.own
  clear h
  go_enter Tryd.func25, Tryd.ntmps25
  go_wp2_with fail
  go_ret
  exact ⟨rfl, rfl⟩
end Go.Proofs.YtbibgffgljojgaaDoor
