/- Package source's Extend and Run and layer 13's awake, walked. No condition but the numbers' bounds. -/
import Derived.Test.YtfoefkoneekolaaDoorSource4
namespace Go.Proofs.YtfoefkoneekolaaDoor
open Go.RowKit
attribute [local go_sem ↓] Go.wp_at_zero Go.wp_at_succ

def runS (s : S6) (f : Nat → Int) : Nat → S6 × Int
  | 0 => (s, 0)
  | k + 1 => ((updS (runS s f k).1 (f k)).1, if (updS (runS s f k).1 (f k)).2 then (runS s f k).2 + 1 else (runS s f k).2)
theorem runS_in (s : S6) (f : Nat → Int) (K : Int) (hK : 0 ≤ K) (hs : InS K s) : ∀ k : Nat, (∀ i, i < k → 0 ≤ f i ∧ f i ≤ 65535) → InS (K + k) (runS s f k).1 ∧ 0 ≤ (runS s f k).2 ∧ (runS s f k).2 ≤ k
  | 0, _ => ⟨by have : K + ((0 : Nat) : Int) = K := by omega
                rw [this]; exact hs, by show (0 : Int) ≤ 0; omega, by show (0 : Int) ≤ ((0 : Nat) : Int); omega⟩
  | k + 1, h => by
    obtain ⟨h1, h2, h3⟩ := runS_in s f K hK hs k (fun i hi => h i (by omega))
    have hf := h k (by omega)
    obtain ⟨x, hx⟩ : ∃ x, updS (runS s f k).1 (f k) = x := ⟨_, rfl⟩
    obtain ⟨r, ok⟩ := x
    have := updS_in (K + k) _ r ok (f k) (by omega) h1 hf.1 hf.2 hx
    unfold runS
    rw [hx]
    refine ⟨by have e : K + ((k + 1 : Nat) : Int) = K + k + 1 := by omega
               rw [e]; exact this, ?_, ?_⟩
    · simp only; split <;> omega
    · simp only; split <;> omega

set_option maxRecDepth 8000 in
set_option maxHeartbeats 8000000 in
theorem source_Run (s r : S6) (a : Option Addr) (n c : Nat) (f : Nat → Int) (K cnt : Int) (hK : 0 ≤ K) (hKn : K + n ≤ 1000000) (hs : InS K s) (hf : ∀ i, i < n → 0 ≤ f i ∧ f i ≤ 65535) (h : runS s f n = (r, cnt)) (w : World) (hS : SliceOf w a n c 1 (fun i => [.int .u16 (f i)])) :
    Calls Tryd.prog 5 #[.agg #[.int .u16 s.mx, .int .i64 s.cy, .int .i64 s.ba, .int .i64 s.bd, .int .i64 s.pr, .int .i64 s.rc], .slice a n c] w fun e w' => e = .returned (.tuple #[.agg #[.int .u16 r.mx, .int .i64 r.cy, .int .i64 r.ba, .int .i64 r.bd, .int .i64 r.pr, .int .i64 r.rc], .int .i64 cnt]) ∧ Below w.heap.size w w' := by
  have hl := hS.size_le
  have HS := Lib.hid hS
  have HR := Lib.hid h
  have HF := Lib.hid hf
  have HIN := Lib.hid (fun k hk => runS_in s f K hK hs k hk)
  clear hS h hf
  have k1 := (Blk.new w 27 #[.int .u16 s.mx, .int .i64 s.cy, .int .i64 s.ba, .int .i64 s.bd, .int .i64 s.pr, .int .i64 s.rc]).alloc (.cells #[.int .u16 0, .int .i64 0, .int .i64 0, .int .i64 0, .int .i64 0, .int .i64 0] 27)
  have k2 := Blk.new1 w (.cells #[.int .u16 s.mx, .int .i64 s.cy, .int .i64 s.ba, .int .i64 s.bd, .int .i64 s.pr, .int .i64 s.rc] 27) 27 #[.int .u16 0, .int .i64 0, .int .i64 0, .int .i64 0, .int .i64 0, .int .i64 0]
  have B1 : Below w.heap.size w ((w.alloc (.cells #[.int .u16 s.mx, .int .i64 s.cy, .int .i64 s.ba, .int .i64 s.bd, .int .i64 s.pr, .int .i64 s.rc] 27)).alloc (.cells #[.int .u16 0, .int .i64 0, .int .i64 0, .int .i64 0, .int .i64 0, .int .i64 0] 27)) := ((Below.refl _ w).alloc (Nat.le_refl _) _).alloc (by simp) _
  go_enter Tryd.func5, Tryd.ntmps5
  go_wp2_with fail
  generalize (w.alloc (.cells #[.int .u16 s.mx, .int .i64 s.cy, .int .i64 s.ba, .int .i64 s.bd, .int .i64 s.pr, .int .i64 s.rc] 27)).alloc (.cells #[.int .u16 0, .int .i64 0, .int .i64 0, .int .i64 0, .int .i64 0, .int .i64 0] 27) = wa at *
  go_loopw [6, 12] (fun x i wr => ∃ (k : Nat) (q : S6) (d : Int), k ≤ n ∧ i = .int .i64 k ∧ x = .int .i64 d ∧ Hid (runS s f k = (q, d)) ∧ Blk wr w.heap.size 27 #[.int .u16 q.mx, .int .i64 q.cy, .int .i64 q.ba, .int .i64 q.bd, .int .i64 q.pr, .int .i64 q.rc] ∧ Blk wr (w.heap.size + 1) 27 #[.int .u16 0, .int .i64 0, .int .i64 0, .int .i64 0, .int .i64 0, .int .i64 0] ∧ Below w.heap.size w wr) (fun _ i _ => n - (intOf i).toNat)
  case atStart => exact ⟨0, s, 0, by omega, rfl, rfl, Lib.hid rfl, k1, k2, B1⟩
  case round =>
    clear k1 k2 B1
    obtain ⟨k, q, d, hk, rfl, rfl, HQ, k1, k2, B⟩ := hrel
    by_cases hlt : k < n
    · obtain ⟨b, off, rfl, hbb, hcell⟩ := HS.out.at1 (by omega)
      have d0 := (B.cell (p := ⟨b, off + k, none⟩) hbb).trans (hcell k hlt)
      obtain ⟨y, hy⟩ : ∃ y, updS q (f k) = y := ⟨_, rfl⟩
      obtain ⟨y, ok⟩ := y
      obtain ⟨hin, hd0, hd1⟩ := HIN.out k (fun i hi => HF.out i (by omega))
      have hq := HQ.out
      rw [hq] at hin hd0 hd1
      have hfk := HF.out k hlt
      have HU := Lib.hid (fun W => source_Update q y (f k) (K + k) ok hin (by omega) hfk.1 hfk.2 hy W)
      have hnext : runS s f (k + 1) = (y, if ok then d + 1 else d) := by
        show ((updS (runS s f k).1 (f k)).1, if (updS (runS s f k).1 (f k)).2 then (runS s f k).2 + 1 else (runS s f k).2) = _
        rw [hq, hy]
      have HN := Lib.hid hnext
      simp only at hd0 hd1
      clear hy hin hq hfk hnext hcell
      have i0 : (0 : Int) ≤ (k : Int) := by omega
      have i1 : (k : Int) < (n : Int) := by omega
      have c1 := k1.cell
      simp at c1
      go_wp2_with fail
      refine (HU.out _).mono ?_
      rintro e w1 ⟨rfl, hb⟩
      have k1 := k1.below hb k1.lt
      have k2 := k2.below hb k2.lt
      have B := B.trans (hb.mono B.size)
      obtain ⟨w2, e2, k1', B2, hk2⟩ := six_set k1 (.int .u16 y.mx) (.int .i64 y.cy) (.int .i64 y.ba) (.int .i64 y.bd) (.int .i64 y.pr) (.int .i64 y.rc) w.heap.size (Nat.le_refl _)
      have k2' : Blk w2 (w.heap.size + 1) _ _ := (hk2 _ (by omega)).trans k2
      have B3 := B.trans B2
      clear hb c1 d0
      have c1 := k1.cell
      have f1 := k1.frozen
      simp at c1
      cases ok
      · go_wp2_with fail
        try rw [e2]
        go_roundw
        case rel => exact ⟨k + 1, y, d, by omega, by go_num, rfl, Lib.hid (by rw [HN.out]; rfl), k1', k2', B3⟩
        case measure => simp only [intOf]; omega
      · go_wp2_with fail
        try rw [e2]
        go_roundw
        case rel => exact ⟨k + 1, y, d + 1, by omega, by go_num, rfl, Lib.hid (by rw [HN.out]; rfl), k1', k2', B3⟩
        case measure => simp only [intOf]; omega
    · obtain rfl : k = n := by omega
      have hq := HQ.out
      rw [HR.out] at hq
      injection hq with hq1 hq2
      subst hq1 hq2
      obtain ⟨w2, e2, k2', B2, _⟩ := six_set k2 (.int .u16 r.mx) (.int .i64 r.cy) (.int .i64 r.ba) (.int .i64 r.bd) (.int .i64 r.pr) (.int .i64 r.rc) w.heap.size (Nat.le_add_right _ _)
      have c1 := k1.cell
      have c2 := k2.cell
      have f2 := k2.frozen
      have c3 := k2'.cell
      simp at c1 c2 c3
      go_wp2_with fail
      try rw [e2]
      refine bodyPost_ret (v := .tuple #[.agg #[.int .u16 r.mx, .int .i64 r.cy, .int .i64 r.ba, .int .i64 r.bd, .int .i64 r.pr, .int .i64 r.rc], .int .i64 cnt]) ?_ rfl ⟨rfl, B.trans B2⟩
      simp [results, Tryd.results5, go_sem, c3]
end Go.Proofs.YtfoefkoneekolaaDoor
