/- Package gaps: Came, the first one and those that aren't the greatest. No condition but that the gaps stand, by rising numbers. -/
import Derived.Test.YtonamlgipoannaaGaps8
namespace Go.Proofs.Ytonamlgipoannaa
open Go.RowKit BigFrame
attribute [local go_sem ↓] Go.wp_at_zero Go.wp_at_succ

set_option maxRecDepth 8000 in
set_option maxHeartbeats 4000000 in
theorem gaps_CameA (g : Nat) (a b c d : Int) (e' u : Int) (l : List WR) (v : Value) (n now N T : Int) (hN : clipI n (-1099511627776) 1099511627776 = N) (hT : clipI now 0 1099511627776 = T) (w : World) (h : GV w g a b c d false e' u l v) :
    Calls Try.prog 26 #[.pointer (some ⟨g, 0, none⟩), .int .i64 n, .int .i64 now] w fun e w' => e = .returned (.int .i64 0) ∧ GV w' g a b c d true N u l v ∧ KG w w' g := by
  have HN := Lib.hid (fun W => gaps_number n N hN W)
  have HT := Lib.hid (fun W => gaps_tick now T hT W)
  obtain ⟨h2, M2⟩ := h.put (y' := true) (e' := e') (u' := u) 5 (.bool true) (by simp)
  obtain ⟨h3, M3⟩ := h2.put (y' := true) (e' := N) (u' := u) 6 (.int .i64 N) (by simp)
  have HF := Lib.hid h3
  have HK := Lib.hid ((KG.put (w := w) (g := g) (o := 5) (x := .bool true)).trans (KG.put (o := 6) (x := .int .i64 N)))
  have c1 := h.blk.cell
  have f1 := h.blk.frozen
  have c2 := h2.blk.cell
  have f2 := h2.blk.frozen
  simp at c1 c2
  clear h h2 h3 M2 M3 hN hT
  go_enter Try.func26, Try.ntmps26
  go_wp2_with (first | (go_at_call 52; ((with_reducible refine (HN.out _).mono ?_); rintro e w' ⟨rfl, rfl⟩)) | (go_at_call 50; ((with_reducible refine (HT.out _).mono ?_); rintro e w' ⟨rfl, rfl⟩)))
  go_ret
  exact ⟨rfl, HF.out, HK.out⟩
/-- Without one number. -/
def rmW (l : List WR) (s : Int) : List WR := l.filter fun r => r.n != s
theorem rmW_none {l : List WR} {s : Int} (h : ∀ r ∈ l, r.n ≠ s) : rmW l s = l := by
  unfold rmW
  rw [List.filter_eq_self]
  intro r hr
  simp [h r hr]
theorem rmW_at {l : List WR} {s : Int} {p : Nat} {r : WR} (hr : RisingW l) (h : l[p]? = some r) (hs : r.n = s) : l.take p ++ l.drop (p + 1) = rmW l s := by
  have hp := List.getElem?_eq_some_iff.1 h
  have e : l = l.take p ++ (r :: l.drop (p + 1)) := by
    rw [← hp.2]
    exact (List.take_append_drop p l).symm.trans (by rw [List.drop_eq_getElem_cons hp.1])
  have h1 : rmW (l.take p) s = l.take p := rmW_none fun q hq => by
    obtain ⟨i, hi, rfl⟩ := List.mem_iff_getElem.1 hq
    rw [List.length_take] at hi
    rw [List.getElem_take]
    have := hr i p _ r (by omega) (List.getElem?_eq_getElem (by omega)) h
    omega
  have h2 : rmW (l.drop (p + 1)) s = l.drop (p + 1) := rmW_none fun q hq => by
    obtain ⟨i, hi, rfl⟩ := List.mem_iff_getElem.1 hq
    rw [List.length_drop] at hi
    rw [List.getElem_drop]
    have := hr p (p + 1 + i) r _ (by omega) h (List.getElem?_eq_getElem (by omega))
    omega
  have h3 : rmW l s = rmW (l.take p) s ++ rmW (r :: l.drop (p + 1)) s := by
    conv => lhs; rw [e]
    unfold rmW
    rw [List.filter_append]
  have h4 : rmW (r :: l.drop (p + 1)) s = rmW (l.drop (p + 1)) s := by
    unfold rmW
    rw [List.filter_cons, if_neg (by simp [hs])]
  rw [h3, h4, h1, h2]
set_option maxRecDepth 8000 in
set_option maxHeartbeats 4000000 in
theorem gaps_CameB (g : Nat) (a b c d : Int) (e' u : Int) (l : List WR) (v : Value) (n now N T : Int) (hN : clipI n (-1099511627776) 1099511627776 = N) (hT : clipI now 0 1099511627776 = T) (w : World) (h : GV w g a b c d true e' u l v) (hr : RisingW l) (hl : l.length ≤ 100000) (hle : N ≤ e') :
    Calls Try.prog 26 #[.pointer (some ⟨g, 0, none⟩), .int .i64 n, .int .i64 now] w fun e w' => e = .returned (.int .i64 0) ∧ ∃ v', GV w' g a b c d true e' u (rmW l N) v' ∧ Moved w w' g v v' := by
  have HN := Lib.hid (fun W => gaps_number n N hN W)
  have HT := Lib.hid (fun W => gaps_tick now T hT W)
  have HAT := Lib.hid (gaps_find g a b c d true e' u l v N w h hr hl)
  have HR2 := Lib.hid hr
  have HD := Lib.hid (fun (p : Nat) (W : World) (hp : p + 1 ≤ l.length) (hb : Below w.heap.size w W) => want_cut l v W (own_at h.own (w' := W) (fun j hj => hb.block j (h.own.lt j hj).2)) hl p (p + 1) (by omega) hp (fun e => by omega) (l.take p ++ l.drop (p + 1)) rfl)
  obtain ⟨va, vc, rfl, -⟩ := own_want h.own
  have c1 := h.blk.cell
  have f1 := h.blk.frozen
  simp at c1
  obtain ⟨n0, hn0⟩ : ∃ n, l.length = n := ⟨_, rfl⟩
  have HN0 := Lib.hid hn0
  rw [hn0] at h hl HD c1
  rw [hn0]
  have H0 := h
  clear h hr hn0 hN hT
  go_enter Try.func26, Try.ntmps26
  go_wp2_with (first | (go_at_call 52; ((with_reducible refine (HN.out _).mono ?_); rintro e w' ⟨rfl, rfl⟩)) | (go_at_call 50; ((with_reducible refine (HT.out _).mono ?_); rintro e w' ⟨rfl, rfl⟩)))
  refine HAT.out.mono ?_
  rintro e w2 ⟨p, fd, rfl, hf, hp, B2⟩
  have hpl := hp.le
  rw [HN0.out] at hpl
  have H2 := H0.below B2
  have gne := H2.ne
  cases fd with
  | false =>
    have HE := Lib.hid (rmW_none (foundW_none hf hp HR2.out))
    clear hf hp
    go_wp2_with fail
    go_ret
    exact ⟨rfl, _, by rw [HE.out]; exact H2, Moved.of_below B2⟩
  | true =>
    obtain ⟨r, hr1, hr2⟩ := foundW_some hf
    have hp1 : p + 1 ≤ n0 := by have := (List.getElem?_eq_some_iff.1 hr1).1; have := HN0.out; omega
    have HE := Lib.hid (rmW_at HR2.out hr1 hr2)
    have wp : IntKind.i64.wrap ((p : Int) + 1) = ((p + 1 : Nat) : Int) := by rw [IntWalk.i64_in _ (by omega)]; omega
    have c2 := H2.blk.cell
    simp at c2
    clear hf hp hr1 hr2
    go_wp2_with fail
    refine (HD.out p w2 hp1 B2).mono ?_
    rintro e w3 ⟨v3, rfl, ⟨a3, n3, c3, rfl⟩, own3, ho3, hk3, B3⟩
    obtain ⟨H4, M4⟩ := H2.store (l2 := l.take p ++ l.drop (p + 1)) B3 (fun k _ hne => hk3 k hne) own3 (fun k hk => .inl (by rw [← ho3]; exact hk))
    rw [HE.out] at H4
    have k3 : Blk w3 g 110 _ := (hk3 g gne).trans H2.blk
    have d3 := k3.cell
    have f3 := k3.frozen
    simp at d3
    have MM := Lib.hid ((Moved.of_below (g := g) (v := .slice va n0 vc) B2).trans M4)
    have H4' := Lib.hid H4
    clear c2 own3 H4 M4
    go_wp2_with fail
    go_ret
    exact ⟨rfl, _, H4'.out, MM.out⟩
end Go.Proofs.Ytonamlgipoannaa
