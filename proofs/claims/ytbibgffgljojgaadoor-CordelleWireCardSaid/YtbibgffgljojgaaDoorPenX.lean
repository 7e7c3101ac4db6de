/- Package pen: one and three bytes, written and read; a text that is too short. No condition but that writer and reader stand. -/
import Derived.Test.YtbibgffgljojgaaDoorPenN
namespace Go.Proofs.YtbibgffgljojgaaDoor
open Go.RowKit BigFrame
attribute [local go_sem ↓] Go.wp_at_zero Go.wp_at_succ

theorem pen_U8 (g : Nat) (bs : List Int) (v : Value) (la : Option Addr) (n c : Nat) (ns : Nat → Int) (w : World) (h : OutAt w g bs v) (hl : bs.length + n * 4 ≤ 100000) (S : SliceOf w la n c 1 (fun i => [.int .i64 (ns i)]))
    (hsep : ∀ b off, la = some ⟨b, off, none⟩ → b ≠ g ∧ v.ownBlock ≠ some b) :
    Calls Tryd.prog 20 #[.pointer (some ⟨g, 0, none⟩), .slice la n c] w fun e w' => e = .returned (.pointer (some ⟨g, 0, none⟩)) ∧ ∃ v', OutAt w' g (bs ++ beAll ns 1 n) v' ∧ MovedP w w' g v v' := by
  have HE := Lib.hid (pen_each g bs v 1 la n c ns w h (by omega) hl S hsep)
  go_enter Tryd.func20, Tryd.ntmps20
  go_wp2_with fail
  refine HE.out.mono ?_
  rintro e w2 ⟨rfl, v2, H2, M2⟩
  go_wp2_with fail
  go_ret
  exact ⟨rfl, v2, H2, M2⟩
set_option maxHeartbeats 1000000 in
theorem pen_InU8 (g : Nat) (s : ByteArray) (e : Int) (w : World) (h : InAt w g s e) (hn : 1 ≤ s.size) (hs : s.size ≤ maxLen) :
    Calls Tryd.prog 28 #[.pointer (some ⟨g, 0, none⟩)] w fun e' w' => e' = .returned (.int .i64 (numS s 1 : Nat)) ∧ InAt w' g (s.extract 1 s.size) e ∧ OnlyAt w w' g := by
  have HN := Lib.hid (pen_number g s e 1 w h hn hs (by omega))
  have h1 := numS_lt s 1
  obtain ⟨q, hq⟩ : ∃ q, numS s 1 = q := ⟨_, rfl⟩
  rw [hq] at HN h1 ⊢
  have wq : IntKind.i64.wrap (q : Int) = (q : Int) := IntWalk.i64_in _ (by omega)
  clear hq
  go_enter Tryd.func28, Tryd.ntmps28
  go_wp2_with fail
  refine HN.out.mono ?_
  rintro e' w2 ⟨rfl, H2, O2⟩
  go_wp2_with fail
  go_ret
  exact ⟨rfl, H2, O2⟩
theorem pen_Fail0 (g : Nat) (s : ByteArray) (x : Int) (hx : (x != 0) = true) (w : World) (h : InAt w g s 0) :
    Calls Tryd.prog 47 #[.pointer (some ⟨g, 0, none⟩), .int .i64 x] w fun e' w' => e' = .returned (.tuple #[]) ∧ InAt w' g ⟨#[]⟩ x ∧ OnlyAt w w' g := by
  have k := h.blk
  have c1 := k.cell
  have f1 := k.frozen
  simp at c1
  obtain ⟨w2, e2, K2, B2, hk2⟩ := two_set k rfl (.string ⟨#[]⟩) (.int .i64 x) 0 (Nat.zero_le _)
  go_enter Tryd.func47, Tryd.ntmps47
  go_wp2_with fail
  go_end0
  exact ⟨rfl, K2, B2, hk2⟩
theorem pen_RawShort (g : Nat) (s : ByteArray) (n : Nat) (w : World) (h : InAt w g s 0) (hn : s.size < n) (hn2 : n ≤ 100000) :
    Calls Tryd.prog 31 #[.pointer (some ⟨g, 0, none⟩), .int .i64 (n : Int)] w fun e' w' => e' = .returned (.string ⟨#[]⟩) ∧ InAt w' g ⟨#[]⟩ 2 ∧ OnlyAt w w' g := by
  have HF := Lib.hid (pen_Fail0 g s 2 (by decide) w h)
  have k := h.blk
  have c1 := k.cell
  simp at c1
  have m1 : (if (0 : Int) < (n : Int) then (n : Int) else 0) = n := by split <;> omega
  have m2 : max (0 : Int) (n : Int) = n := by omega
  have m3 : (if 0 < n then (n : Int) else 0) = n := by split <;> omega
  have i2 : (s.size : Int) < (n : Int) := by omega
  go_enter Tryd.func31, Tryd.ntmps31
  go_wp2_with fail
  refine HF.out.mono ?_
  rintro e' w2 ⟨rfl, H2, O2⟩
  go_wp2_with fail
  go_ret
  exact ⟨rfl, H2, O2⟩
theorem pen_numberShort (g : Nat) (s : ByteArray) (n : Nat) (w : World) (h : InAt w g s 0) (hn : s.size < n) (hn2 : n ≤ 4) :
    Calls Tryd.prog 46 #[.pointer (some ⟨g, 0, none⟩), .int .i64 (n : Int)] w fun e' w' => e' = .returned (.int .u32 0) ∧ InAt w' g ⟨#[]⟩ 2 ∧ OnlyAt w w' g := by
  have HF := Lib.hid (pen_RawShort g s n w h hn (by omega))
  go_enter Tryd.func46, Tryd.ntmps46
  go_wp2_with fail
  refine HF.out.mono ?_
  rintro e' w2 ⟨rfl, H2, O2⟩
  go_upto_region 4 with fail
  go_loop [5, 13] (fun x5 x13 => x5 = .int .u32 0 ∧ x13 = .int .i64 0) (fun _ _ => 0)
  case atStart => exact ⟨rfl, rfl⟩
  case round =>
    obtain ⟨rfl, rfl⟩ := hrel
    go_wp2_with fail
    go_ret
    exact ⟨rfl, H2, O2⟩
theorem pen_InU32Short (g : Nat) (s : ByteArray) (w : World) (h : InAt w g s 0) (hn : s.size < 4) :
    Calls Tryd.prog 30 #[.pointer (some ⟨g, 0, none⟩)] w fun e' w' => e' = .returned (.int .u32 0) ∧ InAt w' g ⟨#[]⟩ 2 ∧ OnlyAt w w' g := by
  have HN := Lib.hid (pen_numberShort g s 4 w h hn (by omega))
  go_enter Tryd.func30, Tryd.ntmps30
  go_wp2_with fail
  refine HN.out.mono ?_
  rintro e' w2 ⟨rfl, H2, O2⟩
  go_wp2_with fail
  go_ret
  exact ⟨rfl, H2, O2⟩
end Go.Proofs.YtbibgffgljojgaaDoor
