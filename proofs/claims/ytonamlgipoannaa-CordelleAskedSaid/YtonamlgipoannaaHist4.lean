/- Package history: Get, Put, Again, Forget. No condition but that the history stands, by rising numbers. -/
import Derived.Test.YtonamlgipoannaaHist3
namespace Go.Proofs.Ytonamlgipoannaa
open Go.RowKit BigFrame
attribute [local go_sem ↓] Go.wp_at_zero Go.wp_at_succ

def hrZero : HR := ⟨0, 0, 0, ⟨#[]⟩⟩
def getR (l : List HR) (s : Int) : Option HR := l.find? fun r => r.seq == s
theorem getR_some {l : List HR} {s : Int} {p : Nat} {r : HR} (hr : Rising l) (h : l[p]? = some r) (e : r.seq = s) : getR l s = some r := by
  unfold getR
  rw [List.find?_eq_some_iff_getElem]
  have hp := (List.getElem?_eq_some_iff.1 h)
  refine ⟨by simp [e], p, hp.1, hp.2, fun j hj => ?_⟩
  have hjl : j < l.length := by have := hp.1; omega
  have := hr j p l[j] r hj (List.getElem?_eq_getElem hjl) h
  simp
  omega
theorem getR_none {l : List HR} {s : Int} {p : Nat} (h : foundR l s p = false) (hp : PosR l s p) (hr : Rising l) : getR l s = none := by
  unfold getR
  rw [List.find?_eq_none]
  intro r hm
  have := foundR_none h hp hr r hm
  simp [this]
set_option maxRecDepth 8000 in
set_option maxHeartbeats 4000000 in
theorem hist_Get (g : Nat) (a b c : Int) (l : List HR) (v : Value) (s : Int) (w : World) (h : HV w g a b c l v) (hr : Rising l) (hl : l.length ≤ 100000) :
    Calls Try.prog 40 #[.pointer (some ⟨g, 0, none⟩), .int .i64 s] w fun e w' => e = .returned (.tuple #[((getR l s).getD hrZero).val, .bool (getR l s).isSome]) ∧ Below w.heap.size w w' := by
  have B1 : Below w.heap.size w (w.alloc (.cells #[.int .i64 0, .int .i64 0, .int .i64 0, .string ⟨#[]⟩] 33)) := (Below.refl _ w).alloc (Nat.le_refl _) _
  have K1 := Blk.new w 33 #[.int .i64 0, .int .i64 0, .int .i64 0, .string ⟨#[]⟩]
  obtain ⟨o, ho⟩ : ∃ o, getR l s = o := ⟨_, rfl⟩
  rw [ho]
  have HO := Lib.hid ho
  clear ho
  go_enter Try.func40, Try.ntmps40
  go_upto_region 1 with fail
  generalize w.alloc (.cells #[.int .i64 0, .int .i64 0, .int .i64 0, .string ⟨#[]⟩] 33) = w1 at *
  have h1 := h.below B1
  have s1 := B1.size
  go_wp2_with fail
  refine (hist_at g a b c l v s w1 h1 hr hl).mono ?_
  rintro e w2 ⟨p, fd, rfl, hf, hp, B2⟩
  have h2 := h1.below B2
  have BB := below_then B1 B2 (Nat.le_refl _)
  have K2 := K1.below B2 K1.lt
  cases fd with
  | false =>
    obtain rfl : o = none := by rw [← HO.out]; exact getR_none hf hp hr
    obtain ⟨w5, e5, K5, B5, hk5⟩ := four_set K2 rfl (.int .i64 0) (.int .i64 0) (.int .i64 0) (.string ⟨#[]⟩) w.heap.size (Nat.le_refl _)
    have c2 := K2.cell
    have f2 := K2.frozen
    have c5 := K5.cell
    simp at c2 c5
    clear K1 h hf hp h1 h2
    go_wp2_with fail
    refine bodyPost_ret (v := .tuple #[hrZero.val, .bool false]) ?_ rfl ⟨rfl, BB.trans B5⟩
    simp [results, Try.results40, go_sem, c5, HR.val, hrZero]
    try rfl
  | true =>
    obtain ⟨r, hrp, hrs⟩ := foundR_some hf
    obtain rfl : o = some r := by rw [← HO.out]; exact getR_some hr hrp hrs
    have hpl : p < l.length := (List.getElem?_eq_some_iff.1 hrp).1
    obtain ⟨va, vc, rfl, hc⟩ := own_rec h2.own
    obtain ⟨g', rfl, hg, hcell⟩ := hc (by omega)
    obtain ⟨e0, e1, e2, e3⟩ := hcell p r hrp
    have ch := h2.blk.cell
    simp at ch
    obtain ⟨n, hn⟩ : ∃ n, l.length = n := ⟨_, rfl⟩
    rw [hn] at hpl ch
    have p0 : (0 : Int) ≤ (p : Int) := by omega
    have p1 : (p : Int) < (n : Int) := by omega
    obtain ⟨w5, e5, K5, B5, hk5⟩ := four_set K2 rfl (.int .i64 r.seq) (.int .i64 r.tries) (.int .i64 r.path) (.string r.data) w.heap.size (Nat.le_refl _)
    have c2 := K2.cell
    have f2 := K2.frozen
    have c5 := K5.cell
    simp at c2 c5
    clear K1 h hf hp h1 h2 hc hcell hn hrp hrs
    go_wp2_with fail
    refine bodyPost_ret (v := .tuple #[r.val, .bool true]) ?_ rfl ⟨rfl, BB.trans B5⟩
    simp [results, Try.results40, go_sem, c5, HR.val]
    try rfl
end Go.Proofs.Ytonamlgipoannaa
