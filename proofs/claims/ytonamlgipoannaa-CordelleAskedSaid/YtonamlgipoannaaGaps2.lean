/- Package gaps: the rows, clips, the search. No condition but that the rows stand. -/
import Derived.Test.YtonamlgipoannaaGaps1
namespace Go.Proofs.Ytonamlgipoannaa
open Go.RowKit BigFrame
attribute [local go_sem ↓] Go.wp_at_zero Go.wp_at_succ

/-- A wanting one. -/
structure WR where
  n : Int
  at_ : Int
  t : Int
  w : Int
def WR.cells (r : WR) : List Value := [.int .i64 r.n, .int .i64 r.at_, .int .i64 r.t, .int .i64 r.w]
def WR.val (r : WR) : Value := .agg #[.int .i64 r.n, .int .i64 r.at_, .int .i64 r.t, .int .i64 r.w]
def rowW (l : List WR) : List Value := l.flatMap WR.cells
theorem rowW_len (l : List WR) : (rowW l).length = l.length * 4 := by
  induction l with
  | nil => rfl
  | cons r l ih => unfold rowW at *; rw [List.flatMap_cons, List.length_append, ih, List.length_cons]; simp [WR.cells]; omega
theorem rowW_append (l m : List WR) : rowW (l ++ m) = rowW l ++ rowW m := List.flatMap_append
theorem rowW_one (l : List WR) : ∀ u ∈ rowW l, u.oneCell' = true := by
  intro u hu
  obtain ⟨r, _, h⟩ := List.mem_flatMap.1 hu
  simp only [WR.cells, List.mem_cons, List.not_mem_nil, or_false] at h
  rcases h with rfl | rfl | rfl | rfl <;> rfl
theorem rowW_get (l : List WR) (i : Nat) (r : WR) (h : l[i]? = some r) (j : Nat) (hj : j < 4) : (rowW l)[i * 4 + j]? = r.cells[j]? := by
  have hi := (List.getElem?_eq_some_iff.1 h).1
  have e : l = l.take i ++ (r :: l.drop (i + 1)) := by
    have h2 := (List.getElem?_eq_some_iff.1 h).2
    rw [← h2]
    exact (List.take_append_drop i l).symm.trans (by rw [List.drop_eq_getElem_cons hi])
  rw [e, rowW_append, List.getElem?_append_right (by rw [rowW_len, List.length_take]; omega), rowW_len, List.length_take]
  have e2 : i * 4 + j - min i l.length * 4 = j := by omega
  rw [e2]
  show (WR.cells r ++ _)[j]? = _
  rw [List.getElem?_append_left (by simp [WR.cells]; omega)]
theorem own_want {W : World} {B : Nat} {v : Value} {l : List WR} (h : W.ownsRow B 112 4 v l.length (rowW l)) :
    ∃ a cap, v = .slice a l.length cap ∧ (0 < l.length → ∃ g, a = some ⟨g, 0, none⟩ ∧ g < W.heap.size ∧ ∀ i r, l[i]? = some r → W.cell? ⟨g, i * 4, none⟩ = some (.int .i64 r.n) ∧ W.cell? ⟨g, i * 4 + 1, none⟩ = some (.int .i64 r.at_) ∧ W.cell? ⟨g, i * 4 + 2, none⟩ = some (.int .i64 r.t) ∧ W.cell? ⟨g, i * 4 + 3, none⟩ = some (.int .i64 r.w)) := by
  rcases h.2 with ⟨rfl, h0⟩ | ⟨g, cap, cur, rfl, hb, hg, hn, hm, hs, hx⟩
  · exact ⟨none, 0, by rw [h0], fun hp => by omega⟩
  · refine ⟨_, cap, rfl, fun _ => ⟨g, rfl, (h.lt g rfl).2, fun i r hi => ?_⟩⟩
    have hil := (List.getElem?_eq_some_iff.1 hi).1
    have key : ∀ j, j < 4 → W.cell? ⟨g, i * 4 + j, none⟩ = r.cells[j]? := fun j hj => by
      rw [← rowW_get l i r hi j hj, ← hx, List.getElem?_take, if_pos (by omega)]
      rw [Array.getElem?_toList]
      exact cell_of_row W g (i * 4 + j) cur _ _ hg
    exact ⟨key 0 (by omega), key 1 (by omega), key 2 (by omega), key 3 (by omega)⟩
/-- The gaps at block g, its row told. -/
structure GV (W : World) (g : Nat) (a b c d : Int) (y : Bool) (e u : Int) (l : List WR) (v : Value) : Prop where
  blk : Blk W g 110 #[.int .i64 a, .int .i64 b, .int .i64 c, .int .i64 d, v, .bool y, .int .i64 e, .int .i64 u]
  own : W.ownsRow 0 112 4 v l.length (rowW l)
  ne : v.ownBlock ≠ some g
theorem GV.below {w w' : World} {g : Nat} {a b c d : Int} {y : Bool} {e u : Int} {l : List WR} {v : Value} (h : GV w g a b c d y e u l v) (hb : Below w.heap.size w w') : GV w' g a b c d y e u l v :=
  ⟨h.blk.below hb h.blk.lt, own_at h.own (fun j hj => hb.block j (h.own.lt j hj).2), h.ne⟩
theorem GV.put {w : World} {g : Nat} {a b c d : Int} {y y' : Bool} {e u e' u' : Int} {l : List WR} {v : Value} (h : GV w g a b c d y e u l v) (o : Nat) (x : Value) (ho : (#[.int .i64 a, .int .i64 b, .int .i64 c, .int .i64 d, v, .bool y, .int .i64 e, .int .i64 u] : Array Value).setIfInBounds o x = #[.int .i64 a, .int .i64 b, .int .i64 c, .int .i64 d, v, .bool y', .int .i64 e', .int .i64 u']) :
    GV (w.setCell ⟨g, o, none⟩ x) g a b c d y' e' u' l v ∧ Moved w (w.setCell ⟨g, o, none⟩ x) g v v := by
  have k := h.blk.set_ o x
  rw [ho] at k
  exact ⟨⟨k, own_at h.own (fun j hj => Below.heap_setCell _ ⟨g, o, none⟩ _ j (fun e => h.ne (by rw [hj, e]))), h.ne⟩, (Below.refl _ _).setCell (Nat.zero_le _) _, fun k _ h2 _ => Below.heap_setCell _ ⟨g, o, none⟩ _ k h2, fun _ h => .inl h⟩
theorem GV.drewn {w : World} {g : Nat} {a b c d : Int} {y : Bool} {e u : Int} {l : List WR} {v : Value} (h : GV w g a b c d y e u l v) : GV w.drew g a b c d y e u l v := h.below (Below.refl _ _).drew
theorem GV.store {wr w1 : World} {g : Nat} {a b c d : Int} {y : Bool} {e u : Int} {l l2 : List WR} {v v2 : Value} (H : GV wr g a b c d y e u l v) (hB : Below 0 wr w1) (hk : ∀ k, k < wr.heap.size → v.ownBlock ≠ some k → w1.heap[k]? = wr.heap[k]?)
    (own : w1.ownsRow 0 112 4 v2 l2.length (rowW l2)) (hr : ∀ k, v2.ownBlock = some k → v.ownBlock = some k ∨ wr.heap.size ≤ k) :
    GV (w1.setCell ⟨g, 4, none⟩ v2) g a b c d y e u l2 v2 ∧ Moved wr (w1.setCell ⟨g, 4, none⟩ v2) g v v2 := by
  have hg := H.blk.lt
  have hn : v2.ownBlock ≠ some g := fun e => by
    rcases hr g e with h | h
    · exact H.ne h
    · omega
  have k1 : Blk w1 g 110 #[.int .i64 a, .int .i64 b, .int .i64 c, .int .i64 d, v, .bool y, .int .i64 e, .int .i64 u] := (hk g hg H.ne).trans H.blk
  have k2 := k1.set_ 4 v2
  simp at k2
  exact ⟨⟨k2, own_at own (fun j hj => Below.heap_setCell _ ⟨g, 4, none⟩ _ j (fun e => hn (by rw [hj, e]))), hn⟩, ⟨hB.setCell (Nat.zero_le _) _, fun k h1 h2 h3 => (Below.heap_setCell _ ⟨g, 4, none⟩ _ k h2).trans (hk k h1 h3), hr⟩⟩
theorem gaps_clip (n a b m : Int) (hm : clipI n a b = m) (w : World) :
    Calls Try.prog 59 #[.int .i64 n, .int .i64 a, .int .i64 b] w fun e w' => e = .returned (.int .i64 m) ∧ w = w' := by
  obtain ⟨p, hp⟩ : ∃ p, (if b < n then b else n) = p := ⟨_, rfl⟩
  have hpm : (if a < p then p else a) = m := by rw [← hm, ← hp]; unfold clipI; split <;> split <;> omega
  clear hm
  go_enter Try.func59, Try.ntmps59
  go_wp2_with fail
  go_ret
  exact ⟨rfl, rfl⟩
theorem gaps_number (n m : Int) (hm : clipI n (-1099511627776) 1099511627776 = m) (w : World) :
    Calls Try.prog 52 #[.int .i64 n] w fun e w' => e = .returned (.int .i64 m) ∧ w = w' := by
  have H := Lib.hid (gaps_clip n _ _ m hm w)
  clear hm
  go_enter Try.func52, Try.ntmps52
  go_wp2_with fail
  refine H.out.mono ?_
  rintro e w' ⟨rfl, rfl⟩
  go_wp2_with fail
  go_ret
  exact ⟨rfl, rfl⟩
theorem gaps_tick (n m : Int) (hm : clipI n 0 1099511627776 = m) (w : World) :
    Calls Try.prog 50 #[.int .i64 n] w fun e w' => e = .returned (.int .i64 m) ∧ w = w' := by
  have H := Lib.hid (gaps_clip n _ _ m hm w)
  clear hm
  go_enter Try.func50, Try.ntmps50
  go_wp2_with fail
  refine H.out.mono ?_
  rintro e w' ⟨rfl, rfl⟩
  go_wp2_with fail
  go_ret
  exact ⟨rfl, rfl⟩
theorem gaps_Given (g : Nat) (a b c d : Int) (y : Bool) (e u : Int) (l : List WR) (v : Value) (w : World) (h : GV w g a b c d y e u l v) :
    Calls Try.prog 64 #[.pointer (some ⟨g, 0, none⟩)] w fun e w' => e = .returned (.int .i64 u) ∧ w = w' := by
  have c1 := h.blk.cell
  simp at c1
  clear h
  go_enter Try.func64, Try.ntmps64
  go_wp2_with fail
  go_ret
  exact ⟨rfl, rfl⟩
/-- The search's way of comparing. -/
theorem gaps_cmp (r : WR) (s : Int) (w : World) :
    Calls Try.prog 72 #[r.val, .int .i64 s] w fun e w' => e = .returned (.int .i64 (cmpI r.n s)) ∧ Below w.heap.size w w' := by
  have HC := Lib.hid (fun W => cmp_Compare r.n s W)
  have B : Below w.heap.size w (w.alloc (.cells #[.int .i64 r.n, .int .i64 r.at_, .int .i64 r.t, .int .i64 r.w] 112)) := (Below.refl _ w).alloc (Nat.le_refl _) _
  have K := (Blk.new w 112 #[.int .i64 r.n, .int .i64 r.at_, .int .i64 r.t, .int .i64 r.w]).cell
  simp at K
  unfold WR.val
  go_enter Try.func72, Try.ntmps72
  go_wp2_with fail
  refine (HC.out _).mono ?_
  rintro e w' ⟨rfl, rfl⟩
  go_wp2_with fail
  go_ret
  exact ⟨rfl, B⟩
/-- Where a number stands, or would. -/
structure PosW (l : List WR) (s : Int) (p : Nat) : Prop where
  le : p ≤ l.length
  lo : ∀ k r, l[k]? = some r → k < p → r.n < s
  hi : ∀ k r, l[k]? = some r → p ≤ k → s ≤ r.n
def foundW (l : List WR) (s : Int) (p : Nat) : Bool := match l[p]? with
  | some r => r.n == s
  | none => false
/-- By rising numbers. -/
def RisingW (l : List WR) : Prop := ∀ (i j : Nat) (a b : WR), i < j → l[i]? = some a → l[j]? = some b → a.n < b.n

set_option maxHeartbeats 4000000 in
theorem gaps_search (l : List WR) (v : Value) (s : Int) (B : Nat) (w : World) (h : w.ownsRow B 112 4 v l.length (rowW l)) (hr : RisingW l) (hl : l.length ≤ 100000) :
    Calls Try.prog 71 #[v, .int .i64 s, .func (.func 72) #[] #[]] w fun e w' => ∃ (p : Nat) (fd : Bool), e = .returned (.tuple #[.int .i64 (p : Nat), .bool fd]) ∧ foundW l s p = fd ∧ PosW l s p ∧ Below w.heap.size w w' := by
  obtain ⟨va, vc, rfl, hc⟩ := own_want h
  obtain ⟨n, hn⟩ : ∃ n, l.length = n := ⟨_, rfl⟩
  rw [hn] at hc hl ⊢
  have HN := Lib.hid hn
  have HC := Lib.hid hc
  have HR' := Lib.hid (show ∀ (i j : Nat) (a b : WR), i < j → l[i]? = some a → l[j]? = some b → a.n < b.n from hr)
  clear h hc hr hn
  go_enter Try.func71, Try.ntmps71
  go_wp2_with fail
  go_loopw [9, 10] (fun xi xj wr => ∃ i j : Nat, i ≤ j ∧ j ≤ n ∧ xi = .int .i64 i ∧ xj = .int .i64 j ∧ (∀ k r, l[k]? = some r → k < i → r.n < s) ∧ (∀ k r, l[k]? = some r → j ≤ k → s ≤ r.n) ∧ Below w.heap.size w wr) (fun xi xj _ => (intOf xj - intOf xi).toNat)
  case atStart => exact ⟨0, n, by omega, by omega, rfl, rfl, fun k r _ hk => absurd hk (by omega), fun k r hk h => absurd (List.getElem?_eq_some_iff.1 hk).1 (by have := HN.out; omega), Below.refl _ _⟩
  case round =>
    obtain ⟨i, j, hij, hj, rfl, rfl, hlo, hhi, Bw⟩ := hrel
    have HLO := Lib.hid hlo
    have HHI := Lib.hid hhi
    clear hlo hhi
    by_cases hlt : i < j
    · obtain ⟨g, rfl, hg, hcell⟩ := HC.out (by omega)
      obtain ⟨m, hm⟩ : ∃ m, i + j = m := ⟨_, rfl⟩
      obtain ⟨q, hq⟩ : ∃ q, m / 2 = q := ⟨_, rfl⟩
      have q1 : i ≤ q := by omega
      have q2 : q < j := by omega
      have hql : q < l.length := by have := HN.out; omega
      obtain ⟨r, hrr⟩ : ∃ r, l[q]? = some r := ⟨_, List.getElem?_eq_getElem hql⟩
      have hrr' := Lib.hid hrr
      obtain ⟨c0, c1, c2, c3⟩ := hcell q r hrr
      have d0 := (Bw.cell (p := ⟨g, q * 4, none⟩) hg).trans c0
      have d1 := (Bw.cell (p := ⟨g, q * 4 + 1, none⟩) hg).trans c1
      have d2 := (Bw.cell (p := ⟨g, q * 4 + 2, none⟩) hg).trans c2
      have d3 := (Bw.cell (p := ⟨g, q * 4 + 3, none⟩) hg).trans c3
      have wm : IntKind.i64.wrap ((i : Int) + (j : Int)) = (m : Int) := by rw [IntWalk.i64_in _ (by omega)]; omega
      have wu : IntKind.u64.wrap (m : Int) = (m : Int) := by simp [IntKind.wrap, IntKind.signed, IntKind.bits]; omega
      have ws : (m : Int) / 2 = (q : Int) := by omega
      have wq : IntKind.i64.wrap (q : Int) = (q : Int) := IntWalk.i64_in _ (by omega)
      have wq1 : IntKind.i64.wrap ((q : Int) + 1) = ((q + 1 : Nat) : Int) := by rw [IntWalk.i64_in _ (by omega)]; omega
      have p1 : (i : Int) < (j : Int) := by omega
      have p2 : (0 : Int) ≤ (q : Int) := by omega
      have p3 : (q : Int) < (n : Int) := by omega
      have HCM := Lib.hid (fun W => gaps_cmp r s W)
      unfold WR.val at HCM
      clear hm hq hrr c0 c1 c2 c3 hcell hql
      go_wp2_with fail
      refine (HCM.out wr).mono ?_
      rintro e w2 ⟨rfl, B2⟩
      have BW := below_then Bw B2 (Nat.le_refl _)
      by_cases hcs : r.n < s
      · have e1 : cmpI r.n s < 0 := by unfold cmpI; rw [if_pos hcs]; omega
        go_wp2_with fail
        go_roundw
        case rel =>
          refine ⟨q + 1, j, by omega, hj, by go_num, rfl, fun k r' hk hkq => ?_, HHI.out, BW⟩
          rcases Nat.lt_or_ge k q with h1 | h1
          · have := HR'.out k q r' r h1 hk hrr'.out
            omega
          · obtain rfl : k = q := by omega
            rw [hrr'.out] at hk
            injection hk with hk
            rw [← hk]; exact hcs
        case measure => simp only [intOf]; omega
      · have e1 : ¬ cmpI r.n s < 0 := by unfold cmpI; rw [if_neg hcs]; split <;> omega
        go_wp2_with fail
        go_roundw
        case rel =>
          refine ⟨i, q, by omega, by omega, rfl, rfl, HLO.out, fun k r' hk hkq => ?_, BW⟩
          rcases Nat.lt_or_ge q k with h1 | h1
          · have := HR'.out q k r r' h1 hrr'.out hk
            omega
          · obtain rfl : k = q := by omega
            rw [hrr'.out] at hk
            injection hk with hk
            rw [← hk]; omega
        case measure => simp only [intOf]; omega
    · obtain rfl : i = j := by omega
      have p1 : ¬ (i : Int) < (i : Int) := by omega
      have hP : PosW l s i := ⟨by have := HN.out; omega, HLO.out, HHI.out⟩
      have HP := Lib.hid hP
      clear hP
      by_cases hin : i < n
      · obtain ⟨g, rfl, hg, hcell⟩ := HC.out (by omega)
        have hql : i < l.length := by have := HN.out; omega
        obtain ⟨r, hrr⟩ : ∃ r, l[i]? = some r := ⟨_, List.getElem?_eq_getElem hql⟩
        obtain ⟨c0, c1, c2, c3⟩ := hcell i r hrr
        have d0 := (Bw.cell (p := ⟨g, i * 4, none⟩) hg).trans c0
        have d1 := (Bw.cell (p := ⟨g, i * 4 + 1, none⟩) hg).trans c1
        have d2 := (Bw.cell (p := ⟨g, i * 4 + 2, none⟩) hg).trans c2
        have d3 := (Bw.cell (p := ⟨g, i * 4 + 3, none⟩) hg).trans c3
        have p2 : (0 : Int) ≤ (i : Int) := by omega
        have p3 : (i : Int) < (n : Int) := by omega
        have HCM := Lib.hid (fun W => gaps_cmp r s W)
        unfold WR.val at HCM
        obtain ⟨fd, hfd⟩ : ∃ fd, foundW l s i = fd := ⟨_, rfl⟩
        have hfe : foundW l s i = (r.n == s) := by unfold foundW; rw [hrr]
        obtain ⟨c, hcc⟩ : ∃ c, cmpI r.n s = c := ⟨_, rfl⟩
        have hcz : (c = 0) = (r.n = s) := by
          rw [← hcc]; unfold cmpI
          apply propext
          constructor
          · intro h; split at h
            · omega
            · split at h <;> omega
          · intro h
            rw [if_neg (by omega), if_neg (by omega)]
        have f1 : (c == 0) = fd := by
          rw [← hfd, hfe, Bool.eq_iff_iff]
          simp [hcz]
        have f2 : decide (c = 0) = fd := by rw [← f1]; by_cases h : c = 0 <;> simp [h]
        have HFD := Lib.hid hfd
        rw [hcc] at HCM
        clear hrr c0 c1 c2 c3 hcell hql hfd hfe hcc hcz
        go_wp2_with fail
        refine (HCM.out wr).mono ?_
        rintro e w2 ⟨rfl, B2⟩
        have BW := below_then Bw B2 (Nat.le_refl _)
        go_wp2_with fail
        refine bodyPost_ret (v := .tuple #[.int .i64 (i : Nat), .bool fd]) ?_ rfl ⟨i, fd, rfl, HFD.out, HP.out, BW⟩
        simp [results, Try.results71, go_sem]
      · have p3 : ¬ (i : Int) < (n : Int) := by omega
        have hfd : foundW l s i = false := by
          unfold foundW
          rw [List.getElem?_eq_none (by have := HN.out; omega)]
        have HFD := Lib.hid hfd
        clear hfd
        go_wp2_with fail
        refine bodyPost_ret (v := .tuple #[.int .i64 (i : Nat), .bool false]) ?_ rfl ⟨i, .inl ⟨rfl, HFD.out, HP.out, Bw⟩⟩
        simp [results, Try.results71, go_sem]
end Go.Proofs.Ytonamlgipoannaa
