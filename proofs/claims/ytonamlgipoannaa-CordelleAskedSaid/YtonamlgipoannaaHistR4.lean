/- The document's history: Again. No condition but that the row can be read, by rising numbers. (Printed by gen_hra.py.) -/
import Derived.Test.YtonamlgipoannaaHistR3
namespace Go.Proofs.Ytonamlgipoannaa
open Go.RowKit BigFrame
attribute [local go_sem ↓] Go.wp_at_zero Go.wp_at_succ

theorem three_new0 (w : World) (A B C : Array Value) (t u v : TypeId) :
    Blk (((w.alloc (.cells A t)).alloc (.cells B u)).alloc (.cells C v)) w.heap.size t A ∧ Blk (((w.alloc (.cells A t)).alloc (.cells B u)).alloc (.cells C v)) (w.heap.size + 1) u B ∧
    Blk (((w.alloc (.cells A t)).alloc (.cells B u)).alloc (.cells C v)) (w.heap.size + 1 + 1) v C ∧ Below w.heap.size w (((w.alloc (.cells A t)).alloc (.cells B u)).alloc (.cells C v)) ∧ (((w.alloc (.cells A t)).alloc (.cells B u)).alloc (.cells C v)).heap.size = w.heap.size + 3 :=
  ⟨((Blk.new w t A).alloc _).alloc _, (Blk.new1 w _ u B).alloc _, (by have := Blk.new1 (w.alloc (.cells A t)) (.cells B u) v C; simpa using this),
   (((Below.refl _ w).alloc (Nat.le_refl _) _).alloc (by simp) _).alloc (by simp; omega) _, by simp⟩
set_option maxRecDepth 8000 in
set_option maxHeartbeats 8000000 in
theorem ref21_AgainNo (x : Value) (a b c : Int) (l : List HR) (sa : Option Addr) (sc : Nat) (s pa : Int) (w : World) (R : RR w x a b c l sa sc) (hl : l.length ≤ 100000) (hno : ∀ r, getR l s = some r → b ≤ r.tries) :
    Calls Try.prog 44 #[x, .int .i64 s, .int .i64 pa] w fun e w' => e = .returned (.tuple #[x, hrZero.val, .bool false]) ∧ Below w.heap.size w w' := by
  have R0 := R
  obtain ⟨rfl, row⟩ := R
  obtain ⟨n, hn⟩ : ∃ n, l.length = n := ⟨_, rfl⟩
  rw [hn] at R0 hl ⊢
  obtain ⟨o, ho⟩ : ∃ o, getR l s = o := ⟨_, rfl⟩
  have HG := Lib.hid (fun W (hb : Below w.heap.size w W) => ref21_Get _ a b c l sa sc s W (R0.below hb) (by omega))
  rw [ho] at HG hno
  clear row hn ho
  obtain ⟨K1, K2, K3, B1, z1⟩ := three_new0 w #[.int .i64 a, .int .i64 b, .int .i64 c, .slice sa n sc] #[.int .i64 0, .int .i64 0, .int .i64 0, .slice none 0 0] #[.int .i64 0, .int .i64 0, .int .i64 0, .string ⟨#[]⟩] 43 43 99
  go_enter Try.func44, Try.ntmps44
  go_upto_region 1 with fail
  generalize ((w.alloc (.cells #[.int .i64 a, .int .i64 b, .int .i64 c, .slice sa n sc] 43)).alloc (.cells #[.int .i64 0, .int .i64 0, .int .i64 0, .slice none 0 0] 43)).alloc (.cells #[.int .i64 0, .int .i64 0, .int .i64 0, .string ⟨#[]⟩] 99) = w1 at *
  have c1 := K1.cell
  simp at c1
  go_wp2_with fail
  refine (HG.out w1 B1).mono ?_
  rintro e w2 ⟨rfl, B2⟩
  have BB := below_then B1 B2 (Nat.le_refl _)
  have s2 := B2.size
  obtain ⟨q, hq⟩ : ∃ q, o.getD hrZero = q := ⟨_, rfl⟩
  obtain ⟨is, his⟩ : ∃ is, o.isSome = is := ⟨_, rfl⟩
  have hnoq : is = true → b ≤ q.tries := fun e => by
    cases o with
    | none => subst his; cases e
    | some r => have := hno r rfl; subst hq; exact this
  rw [hq, his]
  have Bq : Below w2.heap.size w2 (w2.alloc (.cells #[.int .i64 q.seq, .int .i64 q.tries, .int .i64 q.path, .string q.data] 99)) := (Below.refl _ w2).alloc (Nat.le_refl _) _
  have Kq := Blk.new w2 99 #[.int .i64 q.seq, .int .i64 q.tries, .int .i64 q.path, .string q.data]
  have K1q := (K1.below B2 K1.lt).below Bq (by have := K1.lt; omega)
  have K2q := (K2.below B2 K2.lt).below Bq (by have := K2.lt; omega)
  have K3q := (K3.below B2 K3.lt).below Bq (by have := K3.lt; omega)
  have BBq := below_then BB Bq (Nat.le_refl _)
  unfold HR.val
  clear c1 hno hq his HG
  go_upto_region 2 with fail
  generalize w2.alloc (.cells #[.int .i64 q.seq, .int .i64 q.tries, .int .i64 q.path, .string q.data] 99) = w3 at *
  have cq := Kq.cell
  have c1 := K1q.cell
  have c2 := K2q.cell
  have f2 := K2q.frozen
  have f3 := K3q.frozen
  simp at cq c1 c2
  obtain ⟨w5, e5, K5, B5, hk5⟩ := four_set K2q rfl (.int .i64 a) (.int .i64 b) (.int .i64 c) (.slice sa n sc) w.heap.size (by omega)
  have K35 : Blk w5 (w.heap.size + 1 + 1) 99 #[.int .i64 0, .int .i64 0, .int .i64 0, .string ⟨#[]⟩] := (hk5 _ (by omega)).trans K3q
  obtain ⟨w6, e6, K6, B6, hk6⟩ := four_set K35 rfl (.int .i64 0) (.int .i64 0) (.int .i64 0) (.string ⟨#[]⟩) w.heap.size (by omega)
  have K56 : Blk w6 (w.heap.size + 1) 43 _ := (hk6 _ (by omega)).trans K5
  have c35 := K35.cell
  have f35 := K35.frozen
  have c6 := K6.cell
  have c56 := K56.cell
  simp at c35 c6 c56
  have BE := (BBq.trans B5).trans B6
  cases is with
  | false =>
    clear hnoq
    go_wp2_with fail
    refine bodyPost_ret (v := .tuple #[.agg #[.int .i64 a, .int .i64 b, .int .i64 c, .slice sa n sc], hrZero.val, .bool false]) ?_ rfl ⟨rfl, BE⟩
    simp [results, Try.results44, go_sem, c6, c56, HR.val, hrZero]
    try rfl
  | true =>
    have hb := hnoq rfl
    clear hnoq
    go_wp2_with fail
    refine bodyPost_ret (v := .tuple #[.agg #[.int .i64 a, .int .i64 b, .int .i64 c, .slice sa n sc], hrZero.val, .bool false]) ?_ rfl ⟨rfl, BE⟩
    simp [results, Try.results44, go_sem, c6, c56, HR.val, hrZero]
    try rfl
set_option maxRecDepth 8000 in
set_option maxHeartbeats 8000000 in
theorem ref21_AgainYes (x : Value) (a b c : Int) (l : List HR) (sa : Option Addr) (sc : Nat) (s pa : Int) (w : World) (R : RR w x a b c l sa sc) (hr : Rising l) (hl : l.length ≤ 100000) (p : Nat) (q : HR) (hqp : l[p]? = some q) (hqs : q.seq = s) (hqt : q.tries < b) (hb : b ≤ 100) (ht : 0 ≤ q.tries) (c0 : 0 ≤ c) (c1 : c ≤ 1000000000000) :
    Calls Try.prog 44 #[x, .int .i64 s, .int .i64 pa] w fun e w' => ∃ x', e = .returned (.tuple #[x', (q.again pa).val, .bool true]) ∧ RefPost w w' x' a b (c + 1) (l.set p (q.again pa)) sa := by
  obtain ⟨i0, hi0, hz0, hz1, hz2⟩ := info_ref
  have R0 := R
  obtain ⟨rfl, row⟩ := R
  obtain ⟨n, hn⟩ : ∃ n, l.length = n := ⟨_, rfl⟩
  rw [hn] at R0 hl row ⊢
  have HN := Lib.hid hn
  have HROW := Lib.hid row
  have hsc := row.cap
  have hsm := row.most
  have HG := Lib.hid (fun W (hb : Below w.heap.size w W) => ref21_Get _ a b c l sa sc s W (R0.below hb) (by omega))
  rw [getR_some hr hqp hqs] at HG
  simp only [Option.getD_some, Option.isSome_some] at HG
  have HQP := Lib.hid hqp
  have HR3 := Lib.hid (show ∀ (i j : Nat) (a b : HR), i < j → l[i]? = some a → l[j]? = some b → a.seq < b.seq from hr)
  obtain ⟨L', hL'⟩ : ∃ L', l.set p (q.again pa) = L' := ⟨_, rfl⟩
  rw [hL']
  have HL' := Lib.hid hL'
  have HLN := Lib.hid (show L'.length = n by rw [← hL', List.length_set, hn])
  unfold HR.val at HG
  have hval : (q.again pa).val = .agg #[.int .i64 s, .int .i64 (q.tries + 1), .int .i64 pa, .string q.data] := by rw [← hqs]; rfl
  rw [hval]
  have hcells : (q.again pa).cells = [.int .i64 s, .int .i64 (q.tries + 1), .int .i64 pa, .string q.data] := by rw [← hqs]; rfl
  have HCL := Lib.hid hcells
  have HQS := Lib.hid hqs
  rw [hqs] at HG
  have wt : IntKind.i64.wrap (q.tries + 1) = q.tries + 1 := IntWalk.i64_in _ (by omega)
  have wc : IntKind.i64.wrap (c + 1) = c + 1 := IntWalk.i64_in _ (by omega)
  have nb : ¬ b ≤ q.tries := by omega
  clear row hn hqp hqs hr hL' hval hcells R0
  obtain ⟨K1, K2, K3, B1, z1⟩ := three_new0 w #[.int .i64 a, .int .i64 b, .int .i64 c, .slice sa n sc] #[.int .i64 0, .int .i64 0, .int .i64 0, .slice none 0 0] #[.int .i64 0, .int .i64 0, .int .i64 0, .string ⟨#[]⟩] 43 43 99
  go_enter Try.func44, Try.ntmps44
  go_upto_region 1 with fail
  generalize ((w.alloc (.cells #[.int .i64 a, .int .i64 b, .int .i64 c, .slice sa n sc] 43)).alloc (.cells #[.int .i64 0, .int .i64 0, .int .i64 0, .slice none 0 0] 43)).alloc (.cells #[.int .i64 0, .int .i64 0, .int .i64 0, .string ⟨#[]⟩] 99) = w1 at *
  have d1 := K1.cell
  simp at d1
  go_wp2_with fail
  refine (HG.out w1 B1).mono ?_
  rintro e w2 ⟨rfl, B2⟩
  have BB := below_then B1 B2 (Nat.le_refl _)
  have s2 := B2.size
  have Bq : Below w2.heap.size w2 (w2.alloc (.cells #[.int .i64 s, .int .i64 q.tries, .int .i64 q.path, .string q.data] 99)) := (Below.refl _ w2).alloc (Nat.le_refl _) _
  have Kq := Blk.new w2 99 #[.int .i64 s, .int .i64 q.tries, .int .i64 q.path, .string q.data]
  have K1q := (K1.below B2 K1.lt).below Bq (by have := K1.lt; omega)
  have K2q := (K2.below B2 K2.lt).below Bq (by have := K2.lt; omega)
  have K3q := (K3.below B2 K3.lt).below Bq (by have := K3.lt; omega)
  have BBq := below_then BB Bq (Nat.le_refl _)
  clear d1 HG
  go_upto_region 2 with fail
  obtain ⟨bq, hbq⟩ : ∃ bq, w2.heap.size = bq := ⟨_, rfl⟩
  have hbq3 : w.heap.size + 3 ≤ bq := by omega
  rw [hbq] at Kq ⊢
  generalize w2.alloc (.cells #[.int .i64 s, .int .i64 q.tries, .int .i64 q.path, .string q.data] 99) = w3' at *
  clear hbq K1 K2 K3 B1 B2 BB
  have cq := Kq.cell
  have fq := Kq.frozen
  have d1 := K1q.cell
  simp at cq d1
  go_upto_region 5 with fail
  have Kq1 := Kq.set_ 1 (.int .i64 (q.tries + 1))
  have K1a := K1q.far (p := ⟨bq, 1, none⟩) (by simp; omega) (.int .i64 (q.tries + 1))
  have K2a := K2q.far (p := ⟨bq, 1, none⟩) (by simp; omega) (.int .i64 (q.tries + 1))
  have K3a := K3q.far (p := ⟨bq, 1, none⟩) (by simp; omega) (.int .i64 (q.tries + 1))
  have Ba1 : Below w.heap.size w (w3'.setCell ⟨bq, 1, none⟩ (.int .i64 (q.tries + 1))) := BBq.setCell (p := ⟨bq, 1, none⟩) (by show w.heap.size ≤ bq; omega) _
  simp at Kq1
  generalize w3'.setCell ⟨bq, 1, none⟩ (.int .i64 (q.tries + 1)) = w4 at *
  clear cq fq d1 Kq K1q K2q K3q BBq Bq
  have cq := Kq1.cell
  have fq := Kq1.frozen
  simp at cq
  go_upto_region 6 with fail
  have Kq2 := Kq1.set_ 2 (.int .i64 pa)
  have K1b := K1a.far (p := ⟨bq, 2, none⟩) (by simp; omega) (.int .i64 pa)
  have K2b := K2a.far (p := ⟨bq, 2, none⟩) (by simp; omega) (.int .i64 pa)
  have K3b := K3a.far (p := ⟨bq, 2, none⟩) (by simp; omega) (.int .i64 pa)
  have Bb1 : Below w.heap.size w (w4.setCell ⟨bq, 2, none⟩ (.int .i64 pa)) := Ba1.setCell (p := ⟨bq, 2, none⟩) (by show w.heap.size ≤ bq; omega) _
  simp at Kq2
  generalize w4.setCell ⟨bq, 2, none⟩ (.int .i64 pa) = w6 at *
  clear cq fq Kq1 K1a K2a K3a Ba1
  have ownl := own_lit w6 99 4
  have Bl : Below w6.heap.size w6 (w6.alloc (.cells #[] 99)) := (Below.refl _ w6).alloc (Nat.le_refl _) _
  have K1l := K1b.below Bl K1b.lt
  have hbl := Kq2.lt
  have s6 := Bb1.size
  go_upto_region 7 with fail
  generalize w6.alloc (.cells #[] 99) = w7 at *
  have d1 := K1l.cell
  simp at d1
  go_wp2_with fail
  go_loopw [11, 41] (fun x11 x41 wr => ∃ k : Nat, k ≤ n ∧ x41 = .int .i64 k ∧ wr.ownsRow w6.heap.size 99 4 x11 k (rowR (L'.take k)) ∧ Below w6.heap.size w6 wr) (fun _ x41 _ => n - (intOf x41).toNat)
  case atStart => exact ⟨0, by omega, rfl, by simpa [rowR] using ownl, Bl⟩
  case round =>
    obtain ⟨k, hk, rfl, own, Bw⟩ := hrel
    have Bx := below_then Bb1 Bw (Nat.le_refl _)
    have K1r := K1b.below Bw K1b.lt
    have K2r := K2b.below Bw K2b.lt
    have K3r := K3b.below Bw K3b.lt
    have Kqr := Kq2.below Bw Kq2.lt
    have swr := Bw.size
    by_cases hlt : k < n
    · obtain ⟨g, off, rfl, hg, hcell⟩ := (HROW.out).rec_ (by omega)
      have hql : k < l.length := by have := HN.out; omega
      obtain ⟨r, hrr⟩ : ∃ r, l[k]? = some r := ⟨_, List.getElem?_eq_getElem hql⟩
      obtain ⟨e0, e1, e2, e3⟩ := hcell k r hrr
      have d0 := (Bx.cell (p := ⟨g, off + k * 4, none⟩) hg).trans e0
      have d1 := (Bx.cell (p := ⟨g, off + k * 4 + 1, none⟩) hg).trans e1
      have d2 := (Bx.cell (p := ⟨g, off + k * 4 + 2, none⟩) hg).trans e2
      have d3 := (Bx.cell (p := ⟨g, off + k * 4 + 3, none⟩) hg).trans e3
      have HRR := Lib.hid hrr
      have p0 : (0 : Int) ≤ (k : Int) := by omega
      have p1 : (k : Int) < (n : Int) := by omega
      have wk : IntKind.i64.wrap ((k : Int) + 1) = ((k + 1 : Nat) : Int) := by rw [IntWalk.i64_in _ (by omega)]; omega
      have Ka := Blk.new wr 99 #[.int .i64 r.seq, .int .i64 r.tries, .int .i64 r.path, .string r.data]
      have Ba : Below wr.heap.size wr (wr.alloc (.cells #[.int .i64 r.seq, .int .i64 r.tries, .int .i64 r.path, .string r.data] 99)) := (Below.refl _ wr).alloc (Nat.le_refl _) _
      have owna := own_at own (w' := wr.alloc (.cells #[.int .i64 r.seq, .int .i64 r.tries, .int .i64 r.path, .string r.data] 99)) (fun j hj => Ba.block j (own.lt j hj).2)
      have Kqa := Kqr.below Ba Kqr.lt
      have hown := own.lt
      have Bw2 := below_then Bw Ba (Nat.le_refl _)
      clear e0 e1 e2 e3 hrr hcell hql own
      go_upto_region 10 with fail
      clear d0 d1 d2 d3
      obtain ⟨bc, hbc⟩ : ∃ bc, wr.heap.size = bc := ⟨_, rfl⟩
      have HBC := Lib.hid hbc
      rw [hbc] at Ka ⊢
      generalize wr.alloc (.cells #[.int .i64 r.seq, .int .i64 r.tries, .int .i64 r.path, .string r.data] 99) = wa at *
      clear hbc
      have ca := Ka.cell
      simp at ca
      have sw2 := Bw2.size
      by_cases hs : r.seq = s
      · have hkp : k = p := by
          have h1 := HQS.out
          rcases Nat.lt_trichotomy k p with h | h | h
          · have := HR3.out k p r q h HRR.out HQP.out; omega
          · exact h
          · have := HR3.out p k q r h HQP.out HRR.out; omega
        have HD := Lib.hid (show L'.take (k + 1) = L'.take k ++ [q.again pa] by
          rw [List.take_add_one, ← HL'.out, hkp, List.getElem?_set_self (by have := (List.getElem?_eq_some_iff.1 HQP.out).1; exact this)]; rfl)
        subst hs
        have fa := Ka.frozen
        have cqa := Kqa.cell
        simp at cqa
        obtain ⟨w8, e8, K8, B8, hk8⟩ := four_set Ka rfl (.int .i64 r.seq) (.int .i64 (q.tries + 1)) (.int .i64 pa) (.string q.data) w6.heap.size (by have := HBC.out; omega)
        have owna8 := own_at owna (w' := w8) (fun j hj => hk8 j (by have := (hown j hj).2; have := HBC.out; omega))
        have Bw8 := Bw2.trans B8
        clear hkp
        go_upto_region 12 with fail
        clear ca fa cqa e8 hk8 owna Bw2 B8 sw2
        obtain ⟨wa, rfl⟩ : ∃ wa, wa = w8 := ⟨_, rfl⟩
        have owna := owna8
        have Bw2 := Bw8
        have sw2 := Bw2.size
        have ca := K8.cell
        simp at ca
        have hnew := World.news_of_block (Blk.new wa 99 #[.int .i64 r.seq, .int .i64 (q.tries + 1), .int .i64 pa, .string q.data])
        go_wp2_with (at_builtin; refine wpList_append_lies _ rfl _ _ 41 rfl w6.heap.size 99 i0 (.agg zRec) 4 40 Try.underlying41 hi0 hz0 hz1 hz2 rfl (by decide) _ _ _ rfl (owna.alloc _) ⟨wa.heap.size, 0, none⟩ 1 1 [.int .i64 r.seq, .int .i64 (q.tries + 1), .int .i64 pa, .string q.data] rfl rfl hnew (by simp [Value.oneCell']) (by omega) (by rw [maxLen_eq]; omega) (by omega) (by simp; omega) _ rfl ?_; intro g3 k3 w3 own3 hgrow3 hat3 hlt3)
        have B3 : Below w6.heap.size w6 w3 := (Bw2.alloc sw2 _).grown hgrow3 (by simp; omega) (fun j hj => (owna.lt j hj).1)
        go_roundw
        case rel =>
          refine ⟨k + 1, by omega, by go_num, ?_, B3⟩
          rw [HD.out, rowR_append, rowR_one1, HCL.out]
          exact own3
        case measure => simp only [intOf]; omega
      · have q1 : (r.seq == s) = false := by simp [hs]
        have hkp : k ≠ p := fun e => by
          subst e
          have h1 := HRR.out
          rw [HQP.out] at h1
          injection h1 with h1
          exact hs (by rw [← h1]; exact HQS.out)
        have HD := Lib.hid (show L'.take (k + 1) = L'.take k ++ [r] by
          rw [List.take_add_one, ← HL'.out, List.getElem?_set_ne (Ne.symm hkp), HRR.out]; rfl)
        have hnew := World.news_of_block (Blk.new wa 99 #[.int .i64 r.seq, .int .i64 r.tries, .int .i64 r.path, .string r.data])
        clear hkp
        go_wp2_with (at_builtin; refine wpList_append_lies _ rfl _ _ 41 rfl w6.heap.size 99 i0 (.agg zRec) 4 40 Try.underlying41 hi0 hz0 hz1 hz2 rfl (by decide) _ _ _ rfl (owna.alloc _) ⟨wa.heap.size, 0, none⟩ 1 1 [.int .i64 r.seq, .int .i64 r.tries, .int .i64 r.path, .string r.data] rfl rfl hnew (by simp [Value.oneCell']) (by omega) (by rw [maxLen_eq]; omega) (by omega) (by simp; omega) _ rfl ?_; intro g3 k3 w3 own3 hgrow3 hat3 hlt3)
        have B3 : Below w6.heap.size w6 w3 := (Bw2.alloc sw2 _).grown hgrow3 (by simp; omega) (fun j hj => (owna.lt j hj).1)
        go_roundw
        case rel =>
          refine ⟨k + 1, by omega, by go_num, ?_, B3⟩
          rw [HD.out, rowR_append, rowR_one1]
          exact own3
        case measure => simp only [intOf]; omega
    · obtain rfl : k = n := by omega
      have p1 : ¬ (k : Int) < (k : Int) := by omega
      have hall : L'.take k = L' := by have := HLN.out; rw [← this]; exact List.take_length
      rw [hall] at own
      obtain ⟨ga, gn, gc, rfl⟩ : ∃ a n c, u11 = .slice a n c := by
        obtain ⟨a, c, e⟩ := own_sl own
        exact ⟨a, k, c, e⟩
      obtain rfl : gn = k := by
        obtain ⟨a, c, e⟩ := own_sl own
        injection e
      have R3 := RowAt.of_own own HLN.out
      have hrow := own.lt
      have e1 := K1r.cell
      have f1 := K1r.frozen
      simp at e1
      have K14 := K1r.set_ 3 (.slice ga gn gc)
      have K24 := K2r.far (p := ⟨w.heap.size, 3, none⟩) (by simp) (.slice ga gn gc)
      have K34 := K3r.far (p := ⟨w.heap.size, 3, none⟩) (by simp; omega) (.slice ga gn gc)
      have Kq4 := Kqr.far (p := ⟨w.heap.size, 3, none⟩) (by simp; omega) (.slice ga gn gc)
      have B4 : Below w.heap.size w (wr.setCell ⟨w.heap.size, 3, none⟩ (.slice ga gn gc)) := Bx.setCell (p := ⟨w.heap.size, 3, none⟩) (Nat.le_refl _) _
      have R4 := R3.at_ (W' := wr.setCell ⟨w.heap.size, 3, none⟩ (.slice ga gn gc)) (by simp) (fun g off e _ => Below.heap_setCell _ ⟨w.heap.size, 3, none⟩ _ g (by
        have := (hrow g (by rw [e]; rfl)).1
        simp; omega))
      simp at K14
      clear hall d1 p1 K1r K2r K3r Kqr
      go_upto_region 15 with fail
      generalize wr.setCell ⟨w.heap.size, 3, none⟩ (.slice ga gn gc) = w9 at *
      clear e1 f1
      have e1 := K14.cell
      have f1 := K14.frozen
      simp at e1
      have K15 := K14.set_ 2 (.int .i64 (c + 1))
      have K25 := K24.far (p := ⟨w.heap.size, 2, none⟩) (by simp) (.int .i64 (c + 1))
      have K35 := K34.far (p := ⟨w.heap.size, 2, none⟩) (by simp; omega) (.int .i64 (c + 1))
      have Kq5 := Kq4.far (p := ⟨w.heap.size, 2, none⟩) (by simp; omega) (.int .i64 (c + 1))
      have B5 : Below w.heap.size w (w9.setCell ⟨w.heap.size, 2, none⟩ (.int .i64 (c + 1))) := B4.setCell (p := ⟨w.heap.size, 2, none⟩) (Nat.le_refl _) _
      have R5 := R4.at_ (W' := w9.setCell ⟨w.heap.size, 2, none⟩ (.int .i64 (c + 1))) (by simp) (fun g off e _ => Below.heap_setCell _ ⟨w.heap.size, 2, none⟩ _ g (by
        have := (hrow g (by rw [e]; rfl)).1
        simp; omega))
      simp at K15
      go_upto_region 16 with fail
      generalize w9.setCell ⟨w.heap.size, 2, none⟩ (.int .i64 (c + 1)) = w10 at *
      clear e1 f1 K14 K24 K34 Kq4 B4 R4 R3
      have e1 := K15.cell
      have eq := Kq5.cell
      have e2 := K25.cell
      have e3 := K35.cell
      have f2 := K25.frozen
      have f3 := K35.frozen
      simp at e1 eq e2 e3
      go_region_with fail
      all_goals
        clear e1 eq e2 e3 f2 f3
        obtain ⟨w11, e11, K11, B11, hk11⟩ := four_set K25 rfl (.int .i64 a) (.int .i64 b) (.int .i64 (c + 1)) (.slice ga gn gc) w.heap.size (by omega)
        have K311 : Blk w11 (w.heap.size + 1 + 1) 99 _ := (hk11 _ (by omega)).trans K35
        obtain ⟨w12, e12, K12, B12, hk12⟩ := four_set K311 rfl (.int .i64 s) (.int .i64 (q.tries + 1)) (.int .i64 pa) (.string q.data) w.heap.size (by omega)
        have K112 : Blk w12 (w.heap.size + 1) 43 _ := (hk12 _ (by omega)).trans K11
        have BE := ((B5.trans B11).trans B12).drew
        have R12 := (R5.at_ (W' := w12) (Nat.le_trans B11.size B12.size) (fun g off e _ => (hk12 g (by
          have := (hrow g (by rw [e]; rfl)).1
          omega)).trans (hk11 g (by
          have := (hrow g (by rw [e]; rfl)).1
          omega)))).below ((Below.refl _ w12).drew)
        have g12 := K12.drew.cell
        have g112 := K112.drew.cell
        simp at g12 g112
        rw [e11, e12]
        go_wp2_with fail
        refine bodyPost_ret (v := .tuple #[.agg #[.int .i64 a, .int .i64 b, .int .i64 (c + 1), .slice ga gn gc], .agg #[.int .i64 s, .int .i64 (q.tries + 1), .int .i64 pa, .string q.data], .bool true]) ?_ rfl ⟨_, rfl, _, _, ⟨by rw [HLN.out], by rw [HLN.out]; exact R12⟩, fun g' o' e => .inr (by
          have := (hrow g' (by rw [e]; rfl)).1
          omega), BE⟩
        simp [results, Try.results44, go_sem, g12, g112]
        try rfl
end Go.Proofs.Ytonamlgipoannaa
