/- Package history: New, Len, Again2, the search. No condition but that the records stand. -/
import Derived.Test.YtonamlgipoannaaHist1
namespace Go.Proofs.Ytonamlgipoannaa
open Go.RowKit BigFrame
attribute [local go_sem ↓] Go.wp_at_zero Go.wp_at_succ

/-- A record. -/
structure HR where
  seq : Int
  tries : Int
  path : Int
  data : ByteArray
def HR.cells (r : HR) : List Value := [.int .i64 r.seq, .int .i64 r.tries, .int .i64 r.path, .string r.data]
def HR.val (r : HR) : Value := .agg #[.int .i64 r.seq, .int .i64 r.tries, .int .i64 r.path, .string r.data]
def rowR (l : List HR) : List Value := l.flatMap HR.cells
theorem rowR_len (l : List HR) : (rowR l).length = l.length * 4 := by
  induction l with
  | nil => rfl
  | cons r l ih => unfold rowR at *; rw [List.flatMap_cons, List.length_append, ih, List.length_cons]; simp [HR.cells]; omega
theorem rowR_append (l m : List HR) : rowR (l ++ m) = rowR l ++ rowR m := List.flatMap_append
theorem rowR_one (l : List HR) : ∀ u ∈ rowR l, u.oneCell' = true := by
  intro u hu
  obtain ⟨r, _, h⟩ := List.mem_flatMap.1 hu
  simp only [HR.cells, List.mem_cons, List.not_mem_nil, or_false] at h
  rcases h with rfl | rfl | rfl | rfl <;> rfl
theorem rowR_get (l : List HR) (i : Nat) (r : HR) (h : l[i]? = some r) (j : Nat) (hj : j < 4) : (rowR l)[i * 4 + j]? = r.cells[j]? := by
  have hi := (List.getElem?_eq_some_iff.1 h).1
  have e : l = l.take i ++ (r :: l.drop (i + 1)) := by
    have h2 := (List.getElem?_eq_some_iff.1 h).2
    rw [← h2]
    exact (List.take_append_drop i l).symm.trans (by rw [List.drop_eq_getElem_cons hi])
  rw [e, rowR_append, List.getElem?_append_right (by rw [rowR_len, List.length_take]; omega), rowR_len, List.length_take]
  have e2 : i * 4 + j - min i l.length * 4 = j := by omega
  rw [e2]
  show (HR.cells r ++ _)[j]? = _
  rw [List.getElem?_append_left (by simp [HR.cells]; omega)]
theorem own_rec {W : World} {B : Nat} {v : Value} {l : List HR} (h : W.ownsRow B 33 4 v l.length (rowR l)) :
    ∃ a cap, v = .slice a l.length cap ∧ (0 < l.length → ∃ g, a = some ⟨g, 0, none⟩ ∧ g < W.heap.size ∧ ∀ i r, l[i]? = some r → W.cell? ⟨g, i * 4, none⟩ = some (.int .i64 r.seq) ∧ W.cell? ⟨g, i * 4 + 1, none⟩ = some (.int .i64 r.tries) ∧ W.cell? ⟨g, i * 4 + 2, none⟩ = some (.int .i64 r.path) ∧ W.cell? ⟨g, i * 4 + 3, none⟩ = some (.string r.data)) := by
  rcases h.2 with ⟨rfl, h0⟩ | ⟨g, cap, cur, rfl, hb, hg, hn, hm, hs, hx⟩
  · exact ⟨none, 0, by rw [h0], fun hp => by omega⟩
  · refine ⟨_, cap, rfl, fun _ => ⟨g, rfl, (h.lt g rfl).2, fun i r hi => ?_⟩⟩
    have hil := (List.getElem?_eq_some_iff.1 hi).1
    have key : ∀ j, j < 4 → W.cell? ⟨g, i * 4 + j, none⟩ = r.cells[j]? := fun j hj => by
      rw [← rowR_get l i r hi j hj, ← hx, List.getElem?_take, if_pos (by omega)]
      rw [Array.getElem?_toList]
      exact cell_of_row W g (i * 4 + j) cur _ _ hg
    exact ⟨key 0 (by omega), key 1 (by omega), key 2 (by omega), key 3 (by omega)⟩
/-- The history at block g, its row told. -/
structure HV (W : World) (g : Nat) (most tries again : Int) (l : List HR) (v : Value) : Prop where
  blk : Blk W g 95 #[.int .i64 most, .int .i64 tries, .int .i64 again, v]
  own : W.ownsRow 0 33 4 v l.length (rowR l)
  ne : v.ownBlock ≠ some g
theorem HV.below {w w' : World} {g : Nat} {a b c : Int} {l : List HR} {v : Value} (h : HV w g a b c l v) (hb : Below w.heap.size w w') : HV w' g a b c l v :=
  ⟨h.blk.below hb h.blk.lt, own_at h.own (fun j hj => hb.block j (h.own.lt j hj).2), h.ne⟩
/-- Nothing is changed but block g and the row; the row is the old one or new. -/
structure Moved (w w' : World) (g : Nat) (v v' : Value) : Prop where
  below : Below 0 w w'
  keep : ∀ k, k < w.heap.size → k ≠ g → v.ownBlock ≠ some k → w'.heap[k]? = w.heap[k]?
  row : ∀ k, v'.ownBlock = some k → v.ownBlock = some k ∨ w.heap.size ≤ k
theorem Moved.of_below {w w' : World} {g : Nat} {v : Value} (h : Below w.heap.size w w') : Moved w w' g v v := ⟨h.mono (Nat.zero_le _), fun k hk _ _ => h.block k hk, fun _ h => .inl h⟩
theorem Moved.trans {w w1 w2 : World} {g : Nat} {v v1 v2 : Value} (h : Moved w w1 g v v1) (h2 : Moved w1 w2 g v1 v2) : Moved w w2 g v v2 := by
  have s1 := h.below.size
  refine ⟨h.below.trans h2.below, fun k hk h3 h4 => (h2.keep k (by omega) h3 (fun e => ?_)).trans (h.keep k hk h3 h4), fun k hk => ?_⟩
  · rcases h.row k e with h5 | h5
    · exact h4 h5
    · omega
  · rcases h2.row k hk with h5 | h5
    · exact h.row k h5
    · right; omega
theorem Moved.down {w w' : World} {g B : Nat} {v v' : Value} (h : Moved w w' g v v') (hB : B ≤ w.heap.size) (hg : B ≤ g) (hv : ∀ k, v.ownBlock = some k → B ≤ k) : Below B w w' :=
  ⟨h.below.os, h.below.tape, h.below.output, h.below.size, fun k hk => h.keep k (by omega) (by omega) (fun e => by have := hv k e; omega)⟩
theorem Moved.base {w w' : World} {g B : Nat} {v v' : Value} (h : Moved w w' g v v') (hB : B ≤ w.heap.size) (hv : ∀ k, v.ownBlock = some k → B ≤ k) : ∀ k, v'.ownBlock = some k → B ≤ k := fun k hk => by
  rcases h.row k hk with h5 | h5
  · exact hv k h5
  · omega
set_option maxHeartbeats 1000000 in
theorem hist_New (n m a b : Int) (ha : clipI n 1 65535 = a) (hb : clipI m 0 100 = b) (w : World) :
    Calls Try.prog 13 #[.int .i64 n, .int .i64 m] w fun e w' => e = .returned (.pointer (some ⟨w.heap.size, 0, none⟩)) ∧ HV w' w.heap.size a b 0 [] (.slice none 0 0) ∧ Below w.heap.size w w' := by
  obtain ⟨p, hp⟩ : ∃ p, (if 65535 < n then 65535 else n) = p := ⟨_, rfl⟩
  obtain ⟨q, hq⟩ : ∃ p, (if 100 < m then 100 else m) = p := ⟨_, rfl⟩
  have hpa : (if 1 < p then p else 1) = a := by rw [← ha, ← hp]; unfold clipI; split <;> split <;> omega
  have hqb : (if 0 < q then q else 0) = b := by rw [← hb, ← hq]; unfold clipI; split <;> split <;> omega
  have K := Blk.new w 95 #[.int .i64 a, .int .i64 b, .int .i64 0, .slice none 0 0]
  have B : Below w.heap.size w (w.alloc (.cells #[.int .i64 a, .int .i64 b, .int .i64 0, .slice none 0 0] 95)) := (Below.refl _ w).alloc (Nat.le_refl _) _
  clear ha hb
  go_enter Try.func13, Try.ntmps13
  go_wp2_with fail
  go_ret
  exact ⟨rfl, ⟨K, ⟨rfl, .inl ⟨rfl, rfl⟩⟩, fun e => by cases e⟩, B⟩
theorem hist_Len (g : Nat) (a b c : Int) (l : List HR) (v : Value) (w : World) (h : HV w g a b c l v) :
    Calls Try.prog 21 #[.pointer (some ⟨g, 0, none⟩)] w fun e w' => e = .returned (.int .i64 (l.length : Int)) ∧ w = w' := by
  obtain ⟨va, vc, rfl, -⟩ := own_rec h.own
  have c1 := h.blk.cell
  simp at c1
  clear h
  go_enter Try.func21, Try.ntmps21
  go_wp2_with fail
  go_ret
  exact ⟨rfl, rfl⟩
theorem hist_Again2 (g : Nat) (a b c : Int) (l : List HR) (v : Value) (w : World) (h : HV w g a b c l v) :
    Calls Try.prog 39 #[.pointer (some ⟨g, 0, none⟩)] w fun e w' => e = .returned (.int .i64 c) ∧ w = w' := by
  have c1 := h.blk.cell
  simp at c1
  clear h
  go_enter Try.func39, Try.ntmps39
  go_wp2_with fail
  go_ret
  exact ⟨rfl, rfl⟩
def cmpI (x y : Int) : Int := if x < y then -1 else if y < x then 1 else 0
theorem cmp_isNaN (x : Int) (w : World) :
    Calls Try.prog 73 #[.int .i64 x] w fun e w' => e = .returned (.bool false) ∧ w = w' := by
  go_enter Try.func73, Try.ntmps73
  go_wp2_with fail
  go_ret
  exact ⟨by simp, rfl⟩
theorem cmp_Compare (x y : Int) (w : World) :
    Calls Try.prog 58 #[.int .i64 x, .int .i64 y] w fun e w' => e = .returned (.int .i64 (cmpI x y)) ∧ w = w' := by
  have HX := Lib.hid (cmp_isNaN x w)
  have HY := Lib.hid (cmp_isNaN y w)
  by_cases h1 : x < y
  · have HE := Lib.hid (show cmpI x y = -1 by unfold cmpI; rw [if_pos h1])
    go_enter Try.func58, Try.ntmps58
    go_wp2_with fail
    refine HX.out.mono ?_
    rintro e w' ⟨rfl, rfl⟩
    go_wp2_with fail
    refine HY.out.mono ?_
    rintro e w' ⟨rfl, rfl⟩
    go_wp2_with fail
    go_ret
    exact ⟨by rw [HE.out]; rfl, rfl⟩
  · by_cases h2 : y < x
    · have HE := Lib.hid (show cmpI x y = 1 by unfold cmpI; rw [if_neg h1, if_pos h2])
      go_enter Try.func58, Try.ntmps58
      go_wp2_with fail
      refine HX.out.mono ?_
      rintro e w' ⟨rfl, rfl⟩
      go_wp2_with fail
      refine HY.out.mono ?_
      rintro e w' ⟨rfl, rfl⟩
      go_wp2_with fail
      go_ret
      exact ⟨by rw [HE.out]; rfl, rfl⟩
    · have HE := Lib.hid (show cmpI x y = 0 by unfold cmpI; rw [if_neg h1, if_neg h2])
      go_enter Try.func58, Try.ntmps58
      go_wp2_with fail
      refine HX.out.mono ?_
      rintro e w' ⟨rfl, rfl⟩
      go_wp2_with fail
      refine HY.out.mono ?_
      rintro e w' ⟨rfl, rfl⟩
      go_wp2_with fail
      go_ret
      exact ⟨by rw [HE.out]; rfl, rfl⟩
/-- The search's way of comparing. -/
theorem hist_cmp (r : HR) (s : Int) (w : World) :
    Calls Try.prog 70 #[r.val, .int .i64 s] w fun e w' => e = .returned (.int .i64 (cmpI r.seq s)) ∧ Below w.heap.size w w' := by
  have HC := Lib.hid (fun W => cmp_Compare r.seq s W)
  have B : Below w.heap.size w (w.alloc (.cells #[.int .i64 r.seq, .int .i64 r.tries, .int .i64 r.path, .string r.data] 33)) := (Below.refl _ w).alloc (Nat.le_refl _) _
  have K := (Blk.new w 33 #[.int .i64 r.seq, .int .i64 r.tries, .int .i64 r.path, .string r.data]).cell
  simp at K
  unfold HR.val
  go_enter Try.func70, Try.ntmps70
  go_wp2_with fail
  refine (HC.out _).mono ?_
  rintro e w' ⟨rfl, rfl⟩
  go_wp2_with fail
  go_ret
  exact ⟨rfl, B⟩
/-- Where a number stands, or would. -/
structure PosR (l : List HR) (s : Int) (p : Nat) : Prop where
  le : p ≤ l.length
  lo : ∀ k r, l[k]? = some r → k < p → r.seq < s
  hi : ∀ k r, l[k]? = some r → p ≤ k → s ≤ r.seq
def foundR (l : List HR) (s : Int) (p : Nat) : Bool := match l[p]? with
  | some r => r.seq == s
  | none => false
/-- By rising numbers. -/
def Rising (l : List HR) : Prop := ∀ (i j : Nat) (a b : HR), i < j → l[i]? = some a → l[j]? = some b → a.seq < b.seq

set_option maxHeartbeats 4000000 in
theorem hist_search (l : List HR) (v : Value) (s : Int) (B : Nat) (w : World) (h : w.ownsRow B 33 4 v l.length (rowR l)) (hr : Rising l) (hl : l.length ≤ 100000) :
    Calls Try.prog 69 #[v, .int .i64 s, .func (.func 70) #[] #[]] w fun e w' => ∃ (p : Nat) (fd : Bool), e = .returned (.tuple #[.int .i64 (p : Nat), .bool fd]) ∧ foundR l s p = fd ∧ PosR l s p ∧ Below w.heap.size w w' := by
  obtain ⟨va, vc, rfl, hc⟩ := own_rec h
  obtain ⟨n, hn⟩ : ∃ n, l.length = n := ⟨_, rfl⟩
  rw [hn] at hc hl ⊢
  have HN := Lib.hid hn
  have HC := Lib.hid hc
  have HR' := Lib.hid (show ∀ (i j : Nat) (a b : HR), i < j → l[i]? = some a → l[j]? = some b → a.seq < b.seq from hr)
  clear h hc hr hn
  go_enter Try.func69, Try.ntmps69
  go_wp2_with fail
  go_loopw [9, 10] (fun xi xj wr => ∃ i j : Nat, i ≤ j ∧ j ≤ n ∧ xi = .int .i64 i ∧ xj = .int .i64 j ∧ (∀ k r, l[k]? = some r → k < i → r.seq < s) ∧ (∀ k r, l[k]? = some r → j ≤ k → s ≤ r.seq) ∧ Below w.heap.size w wr) (fun xi xj _ => (intOf xj - intOf xi).toNat)
  case atStart => exact ⟨0, n, by omega, by omega, rfl, rfl, fun k r _ hk => absurd hk (by omega), fun k r hk h => absurd (List.getElem?_eq_some_iff.1 hk).1 (by have := HN.out; omega), Below.refl _ _⟩
  case round =>
    obtain ⟨i, j, hij, hj, rfl, rfl, hlo, hhi, Bw⟩ := hrel
    have HLO := Lib.hid hlo
    have HHI := Lib.hid hhi
    clear hlo hhi
    by_cases hlt : i < j
    · obtain ⟨g, rfl, hg, hcell⟩ := HC.out (by omega)
      obtain ⟨m, hm⟩ : ∃ m, i + j = m := ⟨_, rfl⟩
      obtain ⟨q, hq⟩ : ∃ q, m / 2 = q := ⟨_, rfl⟩
      have q1 : i ≤ q := by omega
      have q2 : q < j := by omega
      have hql : q < l.length := by have := HN.out; omega
      obtain ⟨r, hrr⟩ : ∃ r, l[q]? = some r := ⟨_, List.getElem?_eq_getElem hql⟩
      have hrr' := Lib.hid hrr
      obtain ⟨c0, c1, c2, c3⟩ := hcell q r hrr
      have d0 := (Bw.cell (p := ⟨g, q * 4, none⟩) hg).trans c0
      have d1 := (Bw.cell (p := ⟨g, q * 4 + 1, none⟩) hg).trans c1
      have d2 := (Bw.cell (p := ⟨g, q * 4 + 2, none⟩) hg).trans c2
      have d3 := (Bw.cell (p := ⟨g, q * 4 + 3, none⟩) hg).trans c3
      have wm : IntKind.i64.wrap ((i : Int) + (j : Int)) = (m : Int) := by rw [IntWalk.i64_in _ (by omega)]; omega
      have wu : IntKind.u64.wrap (m : Int) = (m : Int) := by simp [IntKind.wrap, IntKind.signed, IntKind.bits]; omega
      have ws : (m : Int) / 2 = (q : Int) := by omega
      have wq : IntKind.i64.wrap (q : Int) = (q : Int) := IntWalk.i64_in _ (by omega)
      have wq1 : IntKind.i64.wrap ((q : Int) + 1) = ((q + 1 : Nat) : Int) := by rw [IntWalk.i64_in _ (by omega)]; omega
      have p1 : (i : Int) < (j : Int) := by omega
      have p2 : (0 : Int) ≤ (q : Int) := by omega
      have p3 : (q : Int) < (n : Int) := by omega
      have HCM := Lib.hid (fun W => hist_cmp r s W)
      unfold HR.val at HCM
      clear hm hq hrr c0 c1 c2 c3 hcell hql
      go_wp2_with fail
      refine (HCM.out wr).mono ?_
      rintro e w2 ⟨rfl, B2⟩
      have BW := below_then Bw B2 (Nat.le_refl _)
      by_cases hcs : r.seq < s
      · have e1 : cmpI r.seq s < 0 := by unfold cmpI; rw [if_pos hcs]; omega
        go_wp2_with fail
        go_roundw
        case rel =>
          refine ⟨q + 1, j, by omega, hj, by go_num, rfl, fun k r' hk hkq => ?_, HHI.out, BW⟩
          rcases Nat.lt_or_ge k q with h1 | h1
          · have := HR'.out k q r' r h1 hk hrr'.out
            omega
          · obtain rfl : k = q := by omega
            rw [hrr'.out] at hk
            injection hk with hk
            rw [← hk]; exact hcs
        case measure => simp only [intOf]; omega
      · have e1 : ¬ cmpI r.seq s < 0 := by unfold cmpI; rw [if_neg hcs]; split <;> omega
        go_wp2_with fail
        go_roundw
        case rel =>
          refine ⟨i, q, by omega, by omega, rfl, rfl, HLO.out, fun k r' hk hkq => ?_, BW⟩
          rcases Nat.lt_or_ge q k with h1 | h1
          · have := HR'.out q k r r' h1 hrr'.out hk
            omega
          · obtain rfl : k = q := by omega
            rw [hrr'.out] at hk
            injection hk with hk
            rw [← hk]; omega
        case measure => simp only [intOf]; omega
    · obtain rfl : i = j := by omega
      have p1 : ¬ (i : Int) < (i : Int) := by omega
      have hP : PosR l s i := ⟨by have := HN.out; omega, HLO.out, HHI.out⟩
      have HP := Lib.hid hP
      clear hP
      by_cases hin : i < n
      · obtain ⟨g, rfl, hg, hcell⟩ := HC.out (by omega)
        have hql : i < l.length := by have := HN.out; omega
        obtain ⟨r, hrr⟩ : ∃ r, l[i]? = some r := ⟨_, List.getElem?_eq_getElem hql⟩
        obtain ⟨c0, c1, c2, c3⟩ := hcell i r hrr
        have d0 := (Bw.cell (p := ⟨g, i * 4, none⟩) hg).trans c0
        have d1 := (Bw.cell (p := ⟨g, i * 4 + 1, none⟩) hg).trans c1
        have d2 := (Bw.cell (p := ⟨g, i * 4 + 2, none⟩) hg).trans c2
        have d3 := (Bw.cell (p := ⟨g, i * 4 + 3, none⟩) hg).trans c3
        have p2 : (0 : Int) ≤ (i : Int) := by omega
        have p3 : (i : Int) < (n : Int) := by omega
        have HCM := Lib.hid (fun W => hist_cmp r s W)
        unfold HR.val at HCM
        obtain ⟨fd, hfd⟩ : ∃ fd, foundR l s i = fd := ⟨_, rfl⟩
        have hfe : foundR l s i = (r.seq == s) := by unfold foundR; rw [hrr]
        obtain ⟨c, hcc⟩ : ∃ c, cmpI r.seq s = c := ⟨_, rfl⟩
        have hcz : (c = 0) = (r.seq = s) := by
          rw [← hcc]; unfold cmpI
          apply propext
          constructor
          · intro h; split at h
            · omega
            · split at h <;> omega
          · intro h
            rw [if_neg (by omega), if_neg (by omega)]
        have f1 : (c == 0) = fd := by
          rw [← hfd, hfe, Bool.eq_iff_iff]
          simp [hcz]
        have f2 : decide (c = 0) = fd := by rw [← f1]; by_cases h : c = 0 <;> simp [h]
        have HFD := Lib.hid hfd
        rw [hcc] at HCM
        clear hrr c0 c1 c2 c3 hcell hql hfd hfe hcc hcz
        go_wp2_with fail
        refine (HCM.out wr).mono ?_
        rintro e w2 ⟨rfl, B2⟩
        have BW := below_then Bw B2 (Nat.le_refl _)
        go_wp2_with fail
        refine bodyPost_ret (v := .tuple #[.int .i64 (i : Nat), .bool fd]) ?_ rfl ⟨i, fd, rfl, HFD.out, HP.out, BW⟩
        simp [results, Try.results69, go_sem]
      · have p3 : ¬ (i : Int) < (n : Int) := by omega
        have hfd : foundR l s i = false := by
          unfold foundR
          rw [List.getElem?_eq_none (by have := HN.out; omega)]
        have HFD := Lib.hid hfd
        clear hfd
        go_wp2_with fail
        refine bodyPost_ret (v := .tuple #[.int .i64 (i : Nat), .bool false]) ?_ rfl ⟨i, .inl ⟨rfl, HFD.out, HP.out, Bw⟩⟩
        simp [results, Try.results69, go_sem]
end Go.Proofs.Ytonamlgipoannaa
