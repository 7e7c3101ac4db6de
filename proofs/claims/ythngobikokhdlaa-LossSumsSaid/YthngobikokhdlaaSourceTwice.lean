/- The statement SourceTwice, walked: it returns true. No condition but the frame's. -/
import Derived.Test.YthngobikokhdlaaSource6
import Derived.Deep.RegionWith
import Derived.Deep.DeepCutAuto
namespace Go.Proofs.Ythngobikokhdlaa
open Go.RowKit
attribute [local go_sem ↓] Go.wp_at_zero Go.wp_at_succ

theorem Blk.top {w : World} {g : Nat} {t : TypeId} {cs : Array Value} (h : g = w.heap.size) : Blk (w.alloc (.cells cs t)) g t cs := by subst h; exact Blk.new _ _ _
theorem six_blk {w : World} {g : Nat} {t : TypeId} {u0 u1 u2 u3 u4 u5 : Value} (h : Blk w g t #[u0, u1, u2, u3, u4, u5]) (a b c d e f : Value) :
    Blk ((((((w.setCell ⟨g, 0, none⟩ a).setCell ⟨g, 1, none⟩ b).setCell ⟨g, 2, none⟩ c).setCell ⟨g, 3, none⟩ d).setCell ⟨g, 4, none⟩ e).setCell ⟨g, 5, none⟩ f) g t #[a, b, c, d, e, f] := by
  obtain ⟨w2, e2, k, _, _⟩ := six_set h a b c d e f 0 (Nat.zero_le _)
  rw [e2]; exact k
theorem six_below (w : World) (g : Nat) (a b c d e f : Value) (B : Nat) (hB : B ≤ g) :
    Below B w ((((((w.setCell ⟨g, 0, none⟩ a).setCell ⟨g, 1, none⟩ b).setCell ⟨g, 2, none⟩ c).setCell ⟨g, 3, none⟩ d).setCell ⟨g, 4, none⟩ e).setCell ⟨g, 5, none⟩ f) :=
  ((((((Below.refl _ _).setCell hB _).setCell hB _).setCell hB _).setCell hB _).setCell hB _).setCell hB _
theorem mn_eq2 (x y : Int) : (if y < x then y else x) = min x y := by split <;> omega
set_option maxRecDepth 8000 in
set_option maxHeartbeats 8000000 in
theorem SourceTwice_walk (a0 : Int) (a1a : Option Addr) (a1l a1c : Nat) (a1e0 : Nat → Int) (w : World) (a0w : (Lit.int .u16 a0).wf = true) (a1S : SliceOf w a1a a1l a1c 1 (fun i => [.int .u16 (a1e0 i)])) (a1F0 : ∀ i, i < a1l → (Lit.int .u16 (a1e0 i)).wf = true) :
    Calls Try.prog 6 #[.int .u16 a0, .slice a1a a1l a1c] w fun e w' => e = .returned (.bool true) ∧ Below w.heap.size w w' := by
  obtain ⟨f0, f1⟩ := wf_u16 a0w
  have hl := a1S.size_le
  obtain ⟨m, hm⟩ : ∃ m : Nat, min (a1l : Int) 100 = (m : Int) := ⟨min a1l 100, by omega⟩
  have hml : m ≤ a1l := by omega
  have hmc : m ≤ a1c := Nat.le_trans hml a1S.1
  have hm100 : m ≤ 100 := by omega
  have hm2 := hm
  rw [← mn_eq2] at hm2
  have hF : ∀ i, i < m → 0 ≤ a1e0 i ∧ a1e0 i ≤ 65535 := fun i hi => wf_u16 (a1F0 i (by omega))
  obtain ⟨q, hq⟩ : ∃ q, runS (newS a0) a1e0 m = q := ⟨_, rfl⟩
  obtain ⟨s, cnt⟩ := q
  have hin := (runS_in (newS a0) a1e0 0 (by omega) (newS_in a0 f0 f1) m hF).1
  rw [hq] at hin
  simp only at hin
  obtain ⟨y, hy⟩ : ∃ y, updS s s.mx = y := ⟨_, rfl⟩
  obtain ⟨r, ok⟩ := y
  obtain ⟨mm0, mm1, _⟩ := id hin
  have hin2 := updS_in (0 + (m : Int)) s r ok s.mx (by omega) hin mm0 mm1 hy
  have hsame := upd_same s r ok _ hin hy
  have HN := Lib.hid (fun W => source_New a0 f0 f1 (newS a0) rfl W)
  have HR := Lib.hid (fun W hS => source_Run (newS a0) s a1a m a1c a1e0 0 cnt (by omega) (by omega) (newS_in a0 f0 f1) hF hq W hS)
  have HU := Lib.hid (fun W => source_Update s r s.mx (0 + (m : Int)) ok hin (by omega) mm0 mm1 hy W)
  have HH1 := Lib.hid (fun W => source_Highest s (0 + (m : Int)) hin (by omega) (highS s) rfl W)
  have HH2 := Lib.hid (fun W => source_Highest r (0 + (m : Int) + 1) hin2 (by omega) (highS r) rfl W)
  have HE1 := Lib.hid (fun W => source_Expected s (0 + (m : Int)) hin (by omega) (expS s) rfl W)
  have HE2 := Lib.hid (fun W => source_Expected r (0 + (m : Int) + 1) hin2 (by omega) (expS r) rfl W)
  have HS := Lib.hid (a1S.cut hml)
  have hrc : 0 ≤ s.rc ∧ s.rc ≤ m := by unfold InS at hin; omega
  obtain ⟨rc0, rc1⟩ := hrc
  clear a1S a1F0 hF hq hin hin2 hy a0w mm0 mm1
  go_enter Try.func6, Try.ntmps6
  go_wp2_with fail
  refine (law13_awake _).mono ?_
  rintro e w1 ⟨rfl, hb1⟩
  have HS1 := Lib.hid (HS.out.below hb1)
  go_upto_region 3 with fail
  go_cut [5] (fun s5 wx => ∃ g5 : Nat, s5 = .pointer (some ⟨g5, 0, none⟩) ∧ Blk wx g5 31 #[.int .u16 s.mx, .int .i64 s.cy, .int .i64 s.ba, .int .i64 s.bd, .int .i64 s.pr, .int .i64 s.rc] ∧ Below w.heap.size w wx)
  case first =>
    go_region_with (first | (go_at_call 14; refine (HN.out _).mono ?_; rintro e w2 ⟨rfl, hb2⟩; have hz2 := hb2.size; simp at hz2; (first | have kz2 := Blk.below (Blk.drew (Blk.new w1 31 #[.int .u16 0, .int .i64 0, .int .i64 0, .int .i64 0, .int .i64 0, .int .i64 0])) hb2 (by simp) | skip)) | (go_at_call 15; refine (HR.out _ ?_).mono ?_; (focus (refine SliceOf.below HS1.out ?_; (repeat (first | with_reducible exact Below.refl _ _ | with_reducible refine Below.drew ?_ | with_reducible refine Below.alloc ?_ (by first | exact Nat.le_refl _ | omega | (simp; done) | (simp; omega)) _ | with_reducible refine below_then ?_ (by assumption) (Nat.le_refl _))))); rintro e w3 ⟨rfl, hb3⟩; (first | (have kz3 := Blk.below kz2 hb3 kz2.lt; have ckz := kz3.cell; have fkz := kz3.frozen; simp at ckz) | (have kz3 := Blk.below (Blk.new w2 31 #[.int .u16 0, .int .i64 0, .int .i64 0, .int .i64 0, .int .i64 0, .int .i64 0]) hb3 (by simp); have ckz := kz3.cell; have fkz := kz3.frozen; simp at ckz) | skip)))
    all_goals
      have hz1 := hb1.size
      have BW : Below w.heap.size w w3 := by (repeat (first | with_reducible assumption | with_reducible exact Below.refl _ _ | with_reducible refine Below.drew ?_ | with_reducible refine Below.alloc ?_ (by first | exact Nat.le_refl _ | omega | (simp; done) | (simp; omega)) _ | with_reducible refine below_then ?_ (by assumption) (Nat.le_refl _)))
      go_wp2_with fail
      go_meet
      first
      | (with_reducible exact ⟨w3.heap.size, rfl, Blk.new w3 _ _, BW.alloc BW.size _⟩)
      | (have kz4 := kz3
         with_reducible exact ⟨_, rfl, six_blk kz4 _ _ _ _ _ _, BW.trans (six_below w3 _ _ _ _ _ _ _ _ (by omega))⟩)
  case rest =>
    obtain ⟨g5, rfl, k5, B5⟩ := hcut
    have c5 := k5.cell
    simp at c5
    go_wp2_with fail
    refine (HU.out _).mono ?_
    rintro e w6 ⟨rfl, hb6⟩
    have k5 := k5.below hb6 k5.lt
    have B6 := below_then B5 hb6 (Nat.le_refl _)
    clear hb6 c5
    have k5 := k5.alloc (.cells #[.int .u16 r.mx, .int .i64 r.cy, .int .i64 r.ba, .int .i64 r.bd, .int .i64 r.pr, .int .i64 r.rc] 31)
    have k7 := Blk.new w6 31 #[.int .u16 r.mx, .int .i64 r.cy, .int .i64 r.ba, .int .i64 r.bd, .int .i64 r.pr, .int .i64 r.rc]
    have B7 := B6.alloc B6.size (.cells #[.int .u16 r.mx, .int .i64 r.cy, .int .i64 r.ba, .int .i64 r.bd, .int .i64 r.pr, .int .i64 r.rc] 31)
    go_upto_region 5 with fail
    generalize w6.alloc (.cells #[.int .u16 r.mx, .int .i64 r.cy, .int .i64 r.ba, .int .i64 r.bd, .int .i64 r.pr, .int .i64 r.rc] 31) = w7 at *
    have c5 := k5.cell
    have c7 := k7.cell
    simp at c5 c7
    rcases hsame with ⟨h1, rfl, h3, h4⟩ | ⟨h1, rfl, rfl⟩
    · have h3' : (r.mx == s.mx) = true := by rw [h3]; simp
      have h4' : (r.pr == 1) = true := by rw [h4]; rfl
      clear h3 h4
      go_wp2_with fail
      go_ret
      exact ⟨rfl, B7⟩
    · have hh : highS ⟨s.mx, s.cy, s.ba, s.bd, s.pr, s.rc + 1⟩ = highS s := rfl
      have he : expS ⟨s.mx, s.cy, s.ba, s.bd, s.pr, s.rc + 1⟩ = expS s := rfl
      rw [hh] at HH2
      rw [he] at HE2
      clear hh he
      have E50 := fun (g : Ext w7) => g.cell (k5.cell 0) k5.lt
      have E51 := fun (g : Ext w7) => g.cell (k5.cell 1) k5.lt
      have E52 := fun (g : Ext w7) => g.cell (k5.cell 2) k5.lt
      have E53 := fun (g : Ext w7) => g.cell (k5.cell 3) k5.lt
      have E54 := fun (g : Ext w7) => g.cell (k5.cell 4) k5.lt
      have E55 := fun (g : Ext w7) => g.cell (k5.cell 5) k5.lt
      have E70 := fun (g : Ext w7) => g.cell (k7.cell 0) k7.lt
      have E71 := fun (g : Ext w7) => g.cell (k7.cell 1) k7.lt
      have E72 := fun (g : Ext w7) => g.cell (k7.cell 2) k7.lt
      have E73 := fun (g : Ext w7) => g.cell (k7.cell 3) k7.lt
      have E74 := fun (g : Ext w7) => g.cell (k7.cell 4) k7.lt
      have E75 := fun (g : Ext w7) => g.cell (k7.cell 5) k7.lt
      simp at E50 E51 E52 E53 E54 E55 E70 E71 E72 E73 E74 E75
      have hrc : IntKind.i64.wrap (s.rc + 1) = s.rc + 1 := IntWalk.i64_in _ (by omega)
      go_upto_region 7 with fail
      refine wp_region_ext (by kernel_rfl) (by kernel_rfl) ?_; (repeat (go_big_quiet_step ((first | (go_at_call 21; with_reducible exact calls_ext _ (HH2.out _)) | (go_at_call 21; with_reducible exact calls_ext _ (HH1.out _)) | (go_at_call 22; with_reducible exact calls_ext _ (HE2.out _)) | (go_at_call 22; with_reducible exact calls_ext _ (HE1.out _)))))); refine wpQuiet_nil ?_; rintro _ ⟨gq, rfl⟩
      go_wp2_with fail
      go_ret
      exact ⟨ret_bool (by simp), B7.trans (gq.below.mono B7.size)⟩
end Go.Proofs.Ythngobikokhdlaa
