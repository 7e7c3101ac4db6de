/- HistoryTries, walked. No condition. -/
import Derived.Test.YtonamlgipoannaaHistoryPlays
import Derived.Test.YtonamlgipoannaaMapsI
namespace Go.Proofs.Ytonamlgipoannaa
open Go.RowKit BigFrame
attribute [local go_sem ↓] Go.wp_at_zero Go.wp_at_succ
attribute [local go_sem] i64_and31 i64_and3

/-- The record with a number. -/
def nthR (l : List HR) (n : Int) : Option HR := if 1 ≤ n then l[(n - 1).toNat]? else none
structure TInv (l : List HR) (t : Int) : Prop where
  seqs : ∀ (k : Nat) (r : HR), l[k]? = some r → r.seq = (k : Int) + 1
  tries : ∀ r ∈ l, 0 ≤ r.tries ∧ r.tries ≤ t
  size : ∀ r ∈ l, r.data.size ≤ 20
theorem TInv.rising {l : List HR} {t : Int} (h : TInv l t) : Rising l := fun i j a b hij ha hb => by
  have := h.seqs i a ha
  have := h.seqs j b hb
  omega
theorem TInv.get {l : List HR} {t : Int} (h : TInv l t) {n : Int} {r : HR} (hr : nthR l n = some r) : l[(n - 1).toNat]? = some r ∧ r.seq = n ∧ 1 ≤ n := by
  unfold nthR at hr
  split at hr
  · have := h.seqs _ _ hr
    exact ⟨hr, by omega, by omega⟩
  · cases hr
theorem TInv.none_ {l : List HR} {t : Int} (h : TInv l t) {n : Int} (hn : 1 ≤ n) (hr : nthR l n = none) : ∀ r, getR l n = some r → False := fun r e => by
  obtain ⟨p, hp, hs⟩ := getR_at e
  have := h.seqs p r hp
  unfold nthR at hr
  rw [if_pos hn, show (n - 1).toNat = p by omega, hp] at hr
  cases hr
theorem nthR_push (l : List HR) (r : HR) (n : Int) : nthR (l ++ [r]) n = if n = (l.length : Int) + 1 then some r else nthR l n := by
  unfold nthR
  by_cases h1 : 1 ≤ n
  · rw [if_pos h1, if_pos h1]
    by_cases h2 : n = (l.length : Int) + 1
    · rw [if_pos h2, show (n - 1).toNat = l.length by omega]
      simp
    · rw [if_neg h2]
      rcases Nat.lt_or_ge (n - 1).toNat l.length with h3 | h3
      · rw [List.getElem?_append_left h3]
      · rw [List.getElem?_eq_none (by simp; omega), List.getElem?_eq_none (by omega)]
  · rw [if_neg h1, if_neg h1, if_neg (by omega)]
theorem nthR_set {l : List HR} {p : Nat} {q r : HR} (hp : l[p]? = some q) (n : Int) : nthR (l.set p r) n = if n = (p : Int) + 1 then some r else nthR l n := by
  have hpl := (List.getElem?_eq_some_iff.1 hp).1
  unfold nthR
  by_cases h1 : 1 ≤ n
  · rw [if_pos h1, if_pos h1]
    by_cases h2 : n = (p : Int) + 1
    · rw [if_pos h2, show (n - 1).toNat = p by omega, List.getElem?_set_self hpl]
    · rw [if_neg h2, List.getElem?_set_ne (by omega)]
  · rw [if_neg h1, if_neg h1, if_neg (by omega)]
theorem TInv.push {l : List HR} {t : Int} (h : TInv l t) (ht : 0 ≤ t) (pa : Int) (s : ByteArray) (hs : s.size ≤ 20) : TInv (l ++ [⟨(l.length : Int) + 1, 0, pa, s⟩]) t := by
  refine ⟨fun k r hk => ?_, fun r hr => ?_, fun r hr => ?_⟩
  · rcases Nat.lt_or_ge k l.length with h1 | h1
    · rw [List.getElem?_append_left h1] at hk
      exact h.seqs k r hk
    · have := (List.getElem?_eq_some_iff.1 hk).1
      rw [List.length_append, List.length_singleton] at this
      obtain rfl : k = l.length := by omega
      simp at hk
      rw [← hk]
  · rw [List.mem_append, List.mem_singleton] at hr
    rcases hr with h1 | h1
    · exact h.tries r h1
    · subst h1; exact ⟨Int.le_refl _, ht⟩
  · rw [List.mem_append, List.mem_singleton] at hr
    rcases hr with h1 | h1
    · exact h.size r h1
    · subst h1; exact hs
theorem TInv.again {l : List HR} {t : Int} (h : TInv l t) {p : Nat} {q : HR} (hp : l[p]? = some q) (hq : q.tries < t) (pa : Int) : TInv (l.set p (q.again pa)) t := by
  have hpl := (List.getElem?_eq_some_iff.1 hp).1
  have hqm := List.mem_of_getElem? hp
  have key : ∀ i r, (l.set p (q.again pa))[i]? = some r → l[i]? = some r ∨ (i = p ∧ r = q.again pa) := fun i r hi => by
    by_cases e : i = p
    · subst e
      rw [List.getElem?_set_self hpl] at hi
      injection hi with hi
      exact .inr ⟨rfl, hi.symm⟩
    · rw [List.getElem?_set_ne (Ne.symm e)] at hi
      exact .inl hi
  refine ⟨fun k r hk => ?_, fun r hr => ?_, fun r hr => ?_⟩
  · rcases key k r hk with h1 | ⟨rfl, rfl⟩
    · exact h.seqs k r h1
    · exact h.seqs k q hp
  · obtain ⟨i, hi, rfl⟩ := List.mem_iff_getElem.1 hr
    rcases key i _ (List.getElem?_eq_getElem hi) with h1 | ⟨_, h1⟩
    · exact h.tries _ (List.mem_of_getElem? h1)
    · rw [h1]
      have := (h.tries q hqm).1
      show 0 ≤ q.tries + 1 ∧ q.tries + 1 ≤ t
      omega
  · obtain ⟨i, hi, rfl⟩ := List.mem_iff_getElem.1 hr
    rcases key i _ (List.getElem?_eq_getElem hi) with h1 | ⟨_, h1⟩
    · exact h.size _ (List.mem_of_getElem? h1)
    · rw [h1]; exact h.size q hqm
theorem strm_congr {W : World} {b n : Nat} {f f' : Int → Option ByteArray} (h : StrM W b n f) (e : ∀ i, f i = f' i) : StrM W b n f' := (funext e : f = f') ▸ h
theorem numm_congr {W : World} {b n : Nat} {f f' : Int → Int} (h : NumM W b n f) (e : ∀ i, f i = f' i) : NumM W b n f' := (funext e : f = f') ▸ h

set_option maxRecDepth 8000 in
set_option maxHeartbeats 8000000 in
theorem HistoryTries_walk (a0 : Int) (a1a : Option Addr) (a1l a1c : Nat) (a1e0 : Nat → Int) (a1e1 : Nat → Int) (a1e2 : Nat → Int) (a1e3 : Nat → ByteArray) (w : World) (a0w : (Lit.int .i64 a0).wf = true) (a1S : SliceOf w a1a a1l a1c 4 (fun i => [.int .i64 (a1e0 i), .int .i64 (a1e1 i), .int .i64 (a1e2 i), .string (a1e3 i)])) (a1F0 : ∀ i, i < a1l → (Lit.int .i64 (a1e0 i)).wf = true) (a1F1 : ∀ i, i < a1l → (Lit.int .i64 (a1e1 i)).wf = true) (a1F2 : ∀ i, i < a1l → (Lit.int .i64 (a1e2 i)).wf = true) (a1F3 : ∀ i, i < a1l → (a1e3 i).size ≤ maxLen) :
    Calls Try.prog 3 #[.int .i64 a0, .slice a1a a1l a1c] w fun e w' => e = .returned (.bool true) ∧ Below w.heap.size w w' := by
  obtain ⟨t, ht⟩ : ∃ t, a0 % 4 = t := ⟨_, rfl⟩
  have t01 : 0 ≤ t ∧ t ≤ 3 := by omega
  have HNew := Lib.hid (fun W => hist_New 100 t 100 t (by decide) (by unfold clipI; omega) W)
  have HS := Lib.hid a1S
  have HF3 := Lib.hid a1F3
  have hl1 := a1S.size_le
  have hmm := @run_makeMap Try.prog
  clear a1S a1F0 a1F1 a1F2 a1F3 a0w
  go_enter Try.func3, Try.ntmps3
  go_wp2_with fail
  refine (law21_awake _).mono ?_
  rintro e w1 ⟨rfl, B1⟩
  go_upto_region 4 with fail
  clear ht
  go_wp2_with fail
  refine (HNew.out _).mono ?_
  rintro e w2 ⟨rfl, q2, B2⟩
  obtain ⟨g, hg⟩ : ∃ g, w1.heap.size = g := ⟨_, rfl⟩
  rw [hg] at q2 B2 ⊢
  have s1 := B1.size
  have gl := q2.blk.lt
  have P3 := StrM.made w2
  have Q3 := NumM.made (w2.alloc (.map #[] 0))
  have Bm := ((Below.refl w2.heap.size w2).alloc (Nat.le_refl _) (.map #[] 0)).alloc (by simp) (.map #[] 0)
  have P3' := P3.at_ (((Below.refl _ (w2.alloc (.map #[] 0))).alloc (Nat.le_refl _) (.map #[] 0)).block w2.heap.size (by simp))
  have q3 := q2.below Bm
  have B03 : Below w.heap.size w ((w2.alloc (.map #[] 0)).alloc (.map #[] 0)) := (B1.trans (B2.mono (by omega))).trans (Bm.mono (by have := B2.size; omega))
  have hz2 : (w2.alloc (.map #[] 0)).heap.size = w2.heap.size + 1 := by simp
  rw [hz2] at Q3
  obtain ⟨mp, hmp⟩ : ∃ mp, w2.heap.size = mp := ⟨_, rfl⟩
  have hgw : w.heap.size ≤ g := by omega
  have hgm : g < mp := by omega
  go_upto_region 8 with fail
  clear hmm
  rw [hmp] at P3' Q3
  generalize (w2.alloc (.map #[] 0)).alloc (.map #[] 0) = w3 at *
  clear P3 Bm B1 B2 q2 hz2 hmp
  go_wp2_with fail
  go_loopw [8, 9] (fun x8 x9 wr => ∃ (i : Nat) (c : Int) (l : List HR) (v : Value) (n1 n2 : Nat), i ≤ a1l ∧ i ≤ 60 ∧ x9 = .int .i64 i ∧ x8 = .int .i64 (l.length : Int) ∧ HV wr g 100 t c l v ∧ TInv l t ∧ l.length ≤ i ∧ 0 ≤ c ∧ c ≤ i ∧ n1 ≤ i ∧ n2 ≤ i ∧
    StrM wr mp n1 (fun n => (nthR l n).map HR.data) ∧ NumM wr (mp + 1) n2 (fun n => ((nthR l n).map HR.tries).getD 0) ∧ (∀ k, v.ownBlock = some k → w.heap.size ≤ k ∧ k ≠ mp ∧ k ≠ mp + 1) ∧ Below w.heap.size w wr) (fun _ x9 _ => a1l - (intOf x9).toNat)
  case atStart =>
    have e0 : ∀ n, nthR [] n = none := fun n => by unfold nthR; split <;> simp
    exact ⟨0, 0, [], _, 0, 0, by omega, by omega, rfl, rfl, q3, ⟨fun k r h => by simp at h, (fun r h => by cases h), (fun r h => by cases h)⟩, by simp, by omega, by omega, by omega, by omega, strm_congr P3' (fun n => by rw [e0]; rfl), numm_congr Q3 (fun n => by rw [e0]; rfl), (fun k e => by cases e), B03⟩
  case round =>
    clear P3' Q3 q3 B03 gl
    obtain ⟨i, c, l, v, n1, n2, hi, hi60, rfl, rfl, H, hT, hl, hc0, hc1, hn1, hn2, MP, MA, hv, B⟩ := hrel
    have hml := MP.lt
    have hal := MA.lt
    have sB := B.size
    by_cases hgo : i < a1l ∧ i < 60
    · obtain ⟨hlt, h60⟩ := hgo
      obtain ⟨bb, off, rfl, hbb, hcell⟩ := HS.out.at4x (by omega)
      obtain ⟨hc0', hc1', hc2', hc3'⟩ := hcell i hlt
      have SF := HF3.out i hlt
      have d0 := (B.cell (p := ⟨bb, off + i * 4, none⟩) hbb).trans hc0'
      have d1 := (B.cell (p := ⟨bb, off + i * 4 + 1, none⟩) hbb).trans hc1'
      have d2 := (B.cell (p := ⟨bb, off + i * 4 + 2, none⟩) hbb).trans hc2'
      have d3 := (B.cell (p := ⟨bb, off + i * 4 + 3, none⟩) hbb).trans hc3'
      obtain ⟨kd, hkd⟩ : ∃ kd, a1e0 i = kd := ⟨_, rfl⟩
      obtain ⟨sq, hsq⟩ : ∃ kd, a1e1 i = kd := ⟨_, rfl⟩
      obtain ⟨pa, hpa⟩ : ∃ kd, a1e2 i = kd := ⟨_, rfl⟩
      obtain ⟨data, hdata⟩ : ∃ kd, a1e3 i = kd := ⟨_, rfl⟩
      rw [hkd] at d0
      rw [hsq] at d1
      rw [hpa] at d2
      rw [hdata] at d3 SF
      clear hkd hsq hpa hdata hcell hc0' hc1' hc2' hc3'
      have i0 : (0 : Int) ≤ (i : Int) := by omega
      have i1 : (i : Int) < (a1l : Int) := by omega
      have i2 : (i : Int) < 60 := by omega
      have wk : IntKind.i64.wrap ((i : Int) + 1) = ((i + 1 : Nat) : Int) := by rw [IntWalk.i64_in _ (by omega)]; omega
      obtain ⟨m, hm⟩ : ∃ m, l.length = m := ⟨_, rfl⟩
      have HM := Lib.hid hm
      rw [hm] at hl ⊢
      have wm : IntKind.i64.wrap ((m : Int) + 1) = (m : Int) + 1 := IntWalk.i64_in _ (by omega)
      have K0 := Blk.new wr 29 #[.int .i64 kd, .int .i64 sq, .int .i64 pa, .string data]
      have B0 : Below wr.heap.size wr (wr.alloc (.cells #[.int .i64 kd, .int .i64 sq, .int .i64 pa, .string data] 29)) := (Below.refl _ wr).alloc (Nat.le_refl _) _
      have H0 := H.below B0
      have MP0 := MP.at_ (B0.block mp hml)
      have MA0 := MA.at_ (B0.block (mp + 1) hal)
      have BA0 := below_then B B0 (Nat.le_refl _)
      go_upto_region 13 with fail
      obtain ⟨ba, hba⟩ : ∃ ba, wr.heap.size = ba := ⟨_, rfl⟩
      rw [hba] at K0 ⊢
      have s0 := B0.size
      have hvl := fun k (e : v.ownBlock = some k) => (H.own.lt k e).2
      have HBA := Lib.hid hba
      have hgl := H.blk.lt
      generalize wr.alloc (.cells #[.int .i64 kd, .int .i64 sq, .int .i64 pa, .string data] 29) = w0 at *
      clear hba H MP MA B d0 d1 d2 d3 B0
      have k0 := K0.cell
      simp at k0
      by_cases hk : kd = 0
      · -- one is put
        obtain ⟨dc, hdc⟩ : ∃ dc, cutB data 20 = dc := ⟨_, rfl⟩
        have hdz : dc.size ≤ 20 := by rw [← hdc]; exact (cutB_size data 20).1
        have HCUT := Lib.hid (law02_Cut data dc 20 SF (by decide) hdc)
        have hall : ∀ r ∈ l, r.seq < (m : Int) + 1 := fun r hr => by
          obtain ⟨j, hj, rfl⟩ := List.mem_iff_getElem.1 hr
          have := hT.seqs j _ (List.getElem?_eq_getElem hj)
          have := HM.out
          omega
        have HPY := Lib.hid (hist_PutYes g 100 t c l l v ((m : Int) + 1) pa dc w0 H0 (by decide) (by have := HM.out; omega) (by have := HM.out; omega) (all_lastOk hall) (by have := HM.out; rw [if_neg (by omega)]))
        have hT' := hT.push t01.1 pa dc hdz
        rw [HM.out] at hT'
        have hlast : (l ++ [⟨(m : Int) + 1, 0, pa, dc⟩])[(l ++ [(⟨(m : Int) + 1, 0, pa, dc⟩ : HR)]).length - 1]? = some ⟨(m : Int) + 1, 0, pa, dc⟩ := by simp
        have HPN := Lib.hid (fun W v' (q : HV W g 100 t c (l ++ [⟨(m : Int) + 1, 0, pa, dc⟩]) v') => hist_PutNo g 100 t c _ v' ((m : Int) + 1) pa ⟨#[120]⟩ W q (by simp; have := HM.out; omega) _ hlast (Int.le_refl _))
        have hwf : (Lit.int .i64 ((m : Int) + 1)).wf = true := by simp [Lit.wf, IntKind.min, IntKind.max, IntKind.bits, IntKind.signed]; omega
        have hT2 := Lib.hid hT'
        clear hdc hall hT' hlast
        subst hk
        go_upto_region 15 with fail
        go_wp2_with fail
        refine (HCUT.out _).mono ?_
        rintro e w' ⟨rfl, rfl⟩
        go_upto_region 16 with fail
        go_wp2_with fail
        refine HPY.out.mono ?_
        rintro e w4 ⟨rfl, v4, H4, M4⟩
        have K4 : Blk w4 ba 29 _ := (M4.keep ba K0.lt (by have := HBA.out; omega) (fun e => by have := hvl _ e; have := HBA.out; omega)).trans K0
        have MP4 := MP0.at_ (M4.keep mp (by omega) (by omega) (fun e => (hv _ e).2.1 rfl))
        have MA4 := MA0.at_ (M4.keep (mp + 1) (by omega) (by omega) (fun e => (hv _ e).2.2 rfl))
        have B4 := BA0.trans (M4.down (by have := BA0.size; omega) hgw (fun k e => (hv k e).1))
        have hv4 : ∀ k, v4.ownBlock = some k → w.heap.size ≤ k ∧ k ≠ mp ∧ k ≠ mp + 1 := fun k e => by
          rcases M4.row k e with h1 | h1
          · exact hv k h1
          · exact ⟨by have := BA0.size; omega, by omega, by omega⟩
        clear MP0 MA0 BA0 M4 H0 hvl
        have k4 := K4.cell
        simp at k4
        go_wp2_with fail
        refine (HPN.out w4 v4 H4).mono ?_
        rintro e w5 ⟨rfl, B5⟩
        have K5 := K4.below B5 K4.lt
        have H5 := H4.below B5
        have MP5 := MP4.at_ (B5.block mp MP4.lt)
        have MA5 := MA4.at_ (B5.block (mp + 1) MA4.lt)
        have BB5 := below_then B4 B5 (Nat.le_refl _)
        obtain ⟨w6, hrun, MP6, hgr⟩ := MP5.put ((m : Int) + 1) hwf dc (by rw [maxLen_eq]; omega) (by unfold maxLen; omega)
        have far := grown_far hgr
        have H6 : HV w6 g 100 t c (l ++ [⟨(m : Int) + 1, 0, pa, dc⟩]) v4 := ⟨(far g H5.blk.lt (by omega)).trans H5.blk, own_at H5.own (fun j hj => far j (H5.own.lt j hj).2 (hv4 j hj).2.1), H5.ne⟩
        have MA6 := MA5.at_ (far (mp + 1) MA5.lt (by omega))
        have BB6 := BB5.trans (grown_below hgr (B := w.heap.size) (by omega) BB5.size)
        clear K5 H5 MP5 MA5 BB5 hgr far B5 K4 H4 MP4 MA4 B4
        have ML := MP6.lt
        go_wp2_with fail
        go_roundw
        case rel =>
          have e1 : ∀ n : Int, nthR (l ++ [⟨(m : Int) + 1, 0, pa, dc⟩]) n = if n = (m : Int) + 1 then some ⟨(m : Int) + 1, 0, pa, dc⟩ else nthR l n := fun n => by rw [nthR_push, HM.out]
          refine ⟨i + 1, c, l ++ [⟨(m : Int) + 1, 0, pa, dc⟩], v4, n1 + 1, n2, by omega, by omega, by go_num, by simp [HM.out], H6, hT2.out, by simp [HM.out]; omega, by omega, by omega, by omega, by omega, strm_congr MP6 (fun n => ?_), numm_congr MA6 (fun n => ?_), hv4, BB6⟩
          · rw [e1]; split <;> rfl
          · rw [e1]; split
            · rename_i h; subst h
              have : nthR l ((m : Int) + 1) = none := by
                unfold nthR
                rw [if_pos (by omega), List.getElem?_eq_none (by have := HM.out; omega)]
              rw [this]; rfl
            · rfl
        case measure => simp only [intOf]; omega
      · -- one is sent once more
        have e0 : (kd == 0) = false := by simp [hk]
        obtain ⟨n, hn⟩ : ∃ n, 1 + sq % 32 = n := ⟨_, rfl⟩
        have hnb : 1 ≤ n ∧ n ≤ 32 := by omega
        have wn : IntKind.i64.wrap (1 + sq % 32) = n := by rw [hn]; exact IntWalk.i64_in _ (by omega)
        have hwf : (Lit.int .i64 n).wf = true := by simp [Lit.wf, IntKind.min, IntKind.max, IntKind.bits, IntKind.signed]; omega
        obtain ⟨o, ho⟩ : ∃ o, nthR l n = o := ⟨_, rfl⟩
        have hob : (fun n => (nthR l n).map HR.data) n = o.map HR.data := by simp only [ho]
        have hoa : (fun n => ((nthR l n).map HR.tries).getD 0) n = (o.map HR.tries).getD 0 := by simp only [ho]
        clear hn
        by_cases hy : ∃ r, o = some r ∧ r.tries < t
        · obtain ⟨r, rfl, hrt⟩ := hy
          obtain ⟨hp, hrs, _⟩ := hT.get ho
          obtain ⟨p, hpp⟩ : ∃ p : Nat, (n - 1).toNat = p := ⟨_, rfl⟩
          rw [hpp] at hp
          have hnp : n = (p : Int) + 1 := by omega
          have hr0 := hT.tries r (List.mem_of_getElem? hp)
          have HA := Lib.hid (hist_AgainYes g 100 t c l v n pa w0 H0 hT.rising (by have := HM.out; omega) p r hp hrs hrt (by omega) hr0.1 (by omega) (by omega))
          have hT2 := Lib.hid (hT.again hp hrt pa)
          have HP := Lib.hid hp
          have hrs' := Lib.hid hrs
          have hval : (r.again pa).val = .agg #[.int .i64 n, .int .i64 (r.tries + 1), .int .i64 pa, .string r.data] := by
            unfold HR.val HR.again
            simp only
            rw [hrs]
          rw [hval] at HA
          clear hval
          have hwt : IntKind.i64.wrap (r.tries + 1) = r.tries + 1 := IntWalk.i64_in _ (by omega)
          have hwft : (Lit.int .i64 (r.tries + 1)).wf = true := by simp [Lit.wf, IntKind.min, IntKind.max, IntKind.bits, IntKind.signed]; omega
          obtain ⟨rt, hrtt⟩ : ∃ x, r.tries = x := ⟨_, rfl⟩
          obtain ⟨rd, hrd⟩ : ∃ x, r.data = x := ⟨_, rfl⟩
          have hT3 := Lib.hid hT
          have HO := Lib.hid ho
          have HNP := Lib.hid hnp
          simp only [Option.map_some, Option.getD_some] at hob hoa
          rw [hrtt] at hoa hwt hwft hrt HA hr0
          rw [hrd] at hob HA
          have HRT := Lib.hid hrtt
          have HRD := Lib.hid hrd
          clear hp hrs hpp hnp hT ho hrtt hrd
          go_upto_region 20 with fail
          clear wn
          go_wp2_with fail
          refine HA.out.mono ?_
          rintro e w4 ⟨rfl, H4, M4⟩
          have K4 : Blk w4 ba 29 _ := (M4.keep ba K0.lt (by have := HBA.out; omega) (fun e => by have := hvl _ e; have := HBA.out; omega)).trans K0
          have MP4 := MP0.at_ (M4.keep mp (by omega) (by omega) (fun e => (hv _ e).2.1 rfl))
          have MA4 := MA0.at_ (M4.keep (mp + 1) (by omega) (by omega) (fun e => (hv _ e).2.2 rfl))
          have B4 := BA0.trans (M4.down (by have := BA0.size; omega) hgw (fun k e => (hv k e).1))
          have K5 := Blk.new w4 33 #[.int .i64 n, .int .i64 (rt + 1), .int .i64 pa, .string rd]
          have B5 : Below w4.heap.size w4 (w4.alloc (.cells #[.int .i64 n, .int .i64 (rt + 1), .int .i64 pa, .string rd] 33)) := (Below.refl _ w4).alloc (Nat.le_refl _) _
          have K5a := K4.below B5 K4.lt
          have H5 := H4.below B5
          have MP5 := MP4.at_ (B5.block mp MP4.lt)
          have MA5 := MA4.at_ (B5.block (mp + 1) MA4.lt)
          have BB5 := below_then B4 B5 (Nat.le_refl _)
          clear k0 H0 MP0 MA0 BA0 M4
          go_upto_region 21 with fail
          obtain ⟨br, hbr⟩ : ∃ br, w4.heap.size = br := ⟨_, rfl⟩
          rw [hbr] at K5 ⊢
          generalize w4.alloc (.cells #[.int .i64 n, .int .i64 (rt + 1), .int .i64 pa, .string rd] 33) = w5 at *
          clear hbr B5 K4 H4 MP4 MA4 B4
          have k5 := K5.cell
          have k5a := K5a.cell
          simp at k5 k5a
          have hlk := MP5.look n hwf _ hob
          have hlk1 := MP5.look1 n hwf _ hob
          have hla := MA5.look n hwf _ hoa
          simp only [Option.getD_some, Option.isSome_some] at hlk hlk1 hla
          obtain ⟨w6, hrun, MA6, hgr⟩ := MA5.put n hwf (rt + 1) hwft (by unfold maxLen; omega)
          have far := grown_far hgr
          have H6 : HV w6 g 100 t (c + 1) (l.set p (r.again pa)) v := ⟨(far g H5.blk.lt (by omega)).trans H5.blk, own_at H5.own (fun j hj => far j (H5.own.lt j hj).2 (hv j hj).2.2), H5.ne⟩
          have MP6 := MP5.at_ (far mp MP5.lt (by omega))
          have BB6 := BB5.trans (grown_below hgr (B := w.heap.size) (by have := MA5.lt; omega) BB5.size)
          have t1 : decide (rt < t) = true := by simpa using hrt
          clear H5 MP5 MA5 BB5 hgr far
          go_wp2_with fail
          go_roundw
          case rel =>
            have e1 : ∀ z : Int, nthR (l.set p (r.again pa)) z = if z = n then some (r.again pa) else nthR l z := fun z => by rw [nthR_set HP.out, HNP.out]
            refine ⟨i + 1, c + 1, l.set p (r.again pa), v, n1, n2 + 1, by omega, by omega, by go_num, by simp [HM.out], H6, hT2.out, by simp [HM.out]; omega, by omega, by omega, by omega, by omega, strm_congr MP6 (fun z => ?_), numm_congr MA6 (fun z => ?_), hv, BB6⟩
            · rw [e1]; split
              · rename_i h; subst h; rw [HO.out]; rfl
              · rfl
            · rw [e1]; split
              · show rt + 1 = r.tries + 1
                rw [HRT.out]
              · rfl
          case measure => simp only [intOf]; omega
        · have hno : ∀ r, getR l n = some r → t ≤ r.tries := fun r hr => by
            cases o with
            | none => exact absurd (hT.none_ hnb.1 ho r hr) id
            | some q =>
              obtain ⟨hp, hrs, _⟩ := hT.get ho
              rw [getR_some hT.rising hp hrs] at hr
              injection hr with hr
              subst hr
              rcases Int.lt_or_le q.tries t with h1 | h1
              · exact absurd ⟨q, rfl, h1⟩ hy
              · exact h1
          have HA := Lib.hid (hist_AgainNo g 100 t c l v n pa w0 H0 hT.rising (by have := HM.out; omega) hno)
          unfold HR.val hrZero at HA
          simp only at HA
          obtain ⟨od, hod⟩ : ∃ x, (o.map HR.data).getD .empty = x := ⟨_, rfl⟩
          obtain ⟨ot, hot⟩ : ∃ x, (o.map HR.tries).getD 0 = x := ⟨_, rfl⟩
          obtain ⟨os, hos⟩ : ∃ x, (o.map HR.data).isSome = x := ⟨_, rfl⟩
          have hot' : os = true → ¬ ot < t := fun e => by
            cases o with
            | none => rw [← hos] at e; cases e
            | some q =>
              intro h1
              rw [← hot] at h1
              exact hy ⟨q, rfl, h1⟩
          have hT3 := Lib.hid hT
          rw [hot] at hoa
          have HOB := Lib.hid hob
          have HOA := Lib.hid hoa
          clear hT ho hno hy hot hob hoa
          go_upto_region 20 with fail
          clear wn
          go_wp2_with fail
          refine HA.out.mono ?_
          rintro e w4 ⟨rfl, B4⟩
          have K4 := K0.below B4 K0.lt
          have B4w := below_then BA0 B4 (Nat.le_refl _)
          have K5 := Blk.new w4 33 #[.int .i64 0, .int .i64 0, .int .i64 0, .string ⟨#[]⟩]
          have B5 : Below w4.heap.size w4 (w4.alloc (.cells #[.int .i64 0, .int .i64 0, .int .i64 0, .string ⟨#[]⟩] 33)) := (Below.refl _ w4).alloc (Nat.le_refl _) _
          have B05 := below_then B4 B5 (Nat.le_refl _)
          have K5a := K4.below B5 K4.lt
          have H5 := H0.below B05
          have MP5 := MP0.at_ (B05.block mp MP0.lt)
          have MA5 := MA0.at_ (B05.block (mp + 1) MA0.lt)
          have BB5 := below_then B4w B5 (Nat.le_refl _)
          clear k0 H0 MP0 MA0 BA0 B05
          go_upto_region 21 with fail
          obtain ⟨br, hbr⟩ : ∃ br, w4.heap.size = br := ⟨_, rfl⟩
          rw [hbr] at K5 ⊢
          generalize w4.alloc (.cells #[.int .i64 0, .int .i64 0, .int .i64 0, .string ⟨#[]⟩] 33) = w5 at *
          clear hbr B5 K4 B4 B4w
          have k5 := K5.cell
          have k5a := K5a.cell
          simp at k5 k5a
          have hlk := MP5.look n hwf _ HOB.out
          have hla := MA5.look n hwf _ HOA.out
          rw [hod, hos] at hlk
          clear hod hos
          cases os with
          | true =>
            have t1 : ¬ ot < t := by have := hot' rfl; omega
            clear hot'
            go_wp2_with fail
            go_roundw
            case rel => exact ⟨i + 1, c, l, v, n1, n2, by omega, by omega, by go_num, by rw [HM.out], H5, hT3.out, by rw [HM.out]; omega, by omega, by omega, by omega, by omega, MP5, MA5, hv, BB5⟩
            case measure => simp only [intOf]; omega
          | false =>
            clear hot'
            go_wp2_with fail
            go_roundw
            case rel => exact ⟨i + 1, c, l, v, n1, n2, by omega, by omega, by go_num, by rw [HM.out], H5, hT3.out, by rw [HM.out]; omega, by omega, by omega, by omega, by omega, MP5, MA5, hv, BB5⟩
            case measure => simp only [intOf]; omega
    · have hex : (i : Int) < (a1l : Int) → ¬ (i : Int) < 60 := by omega
      by_cases h1 : i < a1l
      · have i1 : (i : Int) < (a1l : Int) := by omega
        have i2 : ¬ (i : Int) < 60 := by omega
        go_wp2_with fail
        go_ret
        exact ⟨rfl, B⟩
      · have i1 : ¬ (i : Int) < (a1l : Int) := by omega
        go_wp2_with fail
        go_ret
        exact ⟨rfl, B⟩
end Go.Proofs.Ytonamlgipoannaa
