/- Package nack: Pairs. No condition but the numbers' bounds. -/
import Derived.Test.YtonamlgipoannaaNack3
namespace Go.Proofs.Ytonamlgipoannaa
open Go.RowKit BigFrame
attribute [local go_sem ↓] Go.wp_at_zero Go.wp_at_succ

/-- How long a slice is. -/
def lenOfV : Value → Nat
  | .slice _ n _ => n
  | _ => 0
/-- The pairs of numbers, one by one. -/
def pairsF : Nat → List Int → List (Int × Nat)
  | 0, _ => []
  | _ + 1, [] => []
  | f + 1, p :: r => (p, blpOf p r) :: pairsF f (r.filter fun n => !inR p n)
def pairsL (l : List Int) : List (Int × Nat) := pairsF l.length l
theorem pairsF_nil (f : Nat) : pairsF f [] = [] := by cases f <;> rfl
theorem pairsF_more : ∀ (f g : Nat) (l : List Int), l.length ≤ f → l.length ≤ g → pairsF f l = pairsF g l
  | f, g, [], _, _ => by rw [pairsF_nil, pairsF_nil]
  | 0, _, _ :: _, h, _ => absurd h (by simp)
  | _, 0, _ :: _, _, h => absurd h (by simp)
  | f + 1, g + 1, p :: r, h1, h2 => by
    unfold pairsF
    have := List.length_filter_le (fun n => !inR p n) r
    simp at h1 h2
    rw [pairsF_more f g _ (by omega) (by omega)]
theorem pairsL_cons (p : Int) (r : List Int) : pairsL (p :: r) = (p, blpOf p r) :: pairsL (r.filter fun n => !inR p n) := by
  unfold pairsL
  have := List.length_filter_le (fun n => !inR p n) r
  show (p, blpOf p r) :: pairsF r.length (r.filter fun n => !inR p n) = _
  rw [pairsF_more r.length (r.filter fun n => !inR p n).length _ this (Nat.le_refl _)]
theorem pairsF_len : ∀ (f : Nat) (l : List Int), (pairsF f l).length ≤ l.length
  | 0, l => by simp [pairsF]
  | _ + 1, [] => by simp [pairsF]
  | f + 1, p :: r => by
    unfold pairsF
    have := List.length_filter_le (fun n => !inR p n) r
    have := pairsF_len f (r.filter fun n => !inR p n)
    simp
    omega
theorem pairsL_len (l : List Int) : (pairsL l).length ≤ l.length := pairsF_len _ l
theorem own_rowI {W : World} {B n : Nat} {v : Value} {l : List Int} (h : W.ownsRow B 90 1 v n (cellsK .u16 l)) (hl : l.length = n) :
    ∃ a c, v = .slice a n c ∧ SliceOf W a n c 1 (fun i => [.int .u16 (l.getD i 0)]) := by
  subst hl
  exact SliceOf.of_cells h
theorem own_ne_own {W : World} {B B' e e' z z' n n' : Nat} {v v' : Value} {xs xs' : List Value} (h : W.ownsRow B e z v n xs) (h' : W.ownsRow B' e' z' v' n' xs') (hne : e ≠ e') (k : Nat) (hk : v.ownBlock = some k) : v'.ownBlock ≠ some k := by
  rcases h.2 with ⟨rfl, _⟩ | ⟨g, cap, cur, rfl, _, hg, _⟩
  · cases hk
  · rcases h'.2 with ⟨rfl, _⟩ | ⟨g', cap', cur', rfl, _, hg', _⟩
    · intro e2; cases e2
    · intro e2
      simp only [Value.ownBlock, Option.some.injEq] at hk e2
      subst hk
      subst e2
      rw [hg] at hg'
      injection hg' with hg'
      injection hg' with e1 e2
      exact hne e2
theorem own_ne_blkN {W : World} {B e z n : Nat} {v : Value} {xs : List Value} (h : W.ownsRow B e z v n xs) {g : Nat} {t : TypeId} {cs : Array Value} (K : Blk W g t cs) (hne : e ≠ t) : v.ownBlock ≠ some g := fun hk => by
  rcases h.2 with ⟨rfl, _⟩ | ⟨g', cap, cur, rfl, _, hg, _⟩
  · cases hk
  · simp only [Value.ownBlock, Option.some.injEq] at hk
    subst hk
    have K' : W.heap[g']? = _ := K
    rw [hg] at K'
    injection K' with K'
    injection K' with e1 e2
    exact hne e2
theorem own_row_open {W : World} {B n c : Nat} {a : Option Addr} {l : List Int} (h : W.ownsRow B 90 1 (.slice a n c) n (cellsK .u16 l)) (hl : l.length = n) (hp : 0 < n) :
    ∃ g, a = some ⟨g, 0, none⟩ ∧ g < W.heap.size ∧ (∀ i x, l[i]? = some x → W.cell? ⟨g, i, none⟩ = some (.int .u16 x)) ∧ n ≤ c ∧ c ≤ maxLen := by
  rcases h.2 with ⟨h1, h0⟩ | ⟨g, cap, cur, h1, hb, hg, hn, hm', hs, hx⟩
  · omega
  · injection h1 with h2 h3 h4
    subst h2 h4
    refine ⟨g, rfl, (h.lt g rfl).2, fun i x hi => ?_, hn, hm'⟩
    have hil := (List.getElem?_eq_some_iff.1 hi).1
    rw [World.ownsRow.cellAt h i (by omega)]
    exact cellsK_some .u16 l i x hi
theorem own_any {W : World} {B e z n : Nat} {v : Value} {xs : List Value} (h : W.ownsRow B e z v n xs) : ∃ a c, v = .slice a n c := by
  rcases h.2 with ⟨rfl, rfl⟩ | ⟨g, cap, cur, rfl, _⟩
  · exact ⟨_, _, rfl⟩
  · exact ⟨_, _, rfl⟩
theorem info_pair : ∃ i, Try.prog.info? 129 = some i ∧ i.zero = some (.agg #[.int .u16 0, .int .u16 0]) ∧ i.size = 2 ∧ i.bytes = 4 := by
  have h : (Try.prog.info? 129).map (fun i => (i.zero, i.size, i.bytes)) = some (some (.agg #[.int .u16 0, .int .u16 0]), 2, 4) := by kernel_rfl
  obtain ⟨i, hi, he⟩ := Option.map_eq_some_iff.1 h
  simp only [Prod.mk.injEq] at he
  exact ⟨i, hi, he.1, he.2.1, he.2.2⟩
set_option maxRecDepth 8000 in
set_option maxHeartbeats 8000000 in
theorem nack_Pairs (a : Option Addr) (l c : Nat) (e : Nat → Int) (w : World) (S : SliceOf w a l c 1 (fun i => [.int .u16 (e i)])) (hl : l ≤ 10000) (he : ∀ i, i < l → 0 ≤ e i ∧ e i ≤ 65535) :
    Calls Try.prog 66 #[.slice a l c] w fun e' w' => ∃ v, e' = .returned v ∧ w'.ownsRow w.heap.size 129 2 v (pairsL (dst e l)).length (rowP (pairsL (dst e l))) ∧ Below w.heap.size w w' := by
  obtain ⟨i0, hi0, hz0, hz1, hz2⟩ := info_parts (show (Try.prog.info? 90).map (fun i => (i.zero, i.size, i.bytes)) = some (some (.int .u16 0), 1, 2) by kernel_rfl)
  obtain ⟨ip, hp0, hp1, hp2, hp3⟩ := info_pair
  have HDS := Lib.hid (serial_Distinct a l c e w S (by omega) he)
  obtain ⟨D, hD⟩ : ∃ D, dst e l = D := ⟨_, rfl⟩
  have hDl : D.length ≤ 10000 := by rw [← hD]; have := dst_len e l; omega
  rw [hD] at HDS ⊢
  clear hD he S
  go_enter Try.func66, Try.ntmps66
  go_wp2_with fail
  refine HDS.out.mono ?_
  rintro e' w1 ⟨v1, rfl, own1, B1⟩
  obtain ⟨a1, c1, rfl, -⟩ := own_rowI own1 rfl
  go_wp2_with fail
  go_loopw [0, 3] (fun x0 x3 wr => ∃ (cur : List Int) (out : List (Int × Nat)), pairsL D = out ++ pairsL cur ∧ cur.length + out.length ≤ 10000 ∧ (∃ ac cc, x0 = .slice ac cur.length cc) ∧ wr.ownsRow w.heap.size 90 1 x0 cur.length (cellsK .u16 cur) ∧ (∃ ao co, x3 = .slice ao out.length co) ∧ wr.ownsRow w.heap.size 129 2 x3 out.length (rowP out) ∧ Below w.heap.size w wr) (fun x0 _ _ => lenOfV x0)
  case atStart => exact ⟨D, [], by simp, by simp; omega, ⟨_, _, rfl⟩, own1, ⟨_, _, rfl⟩, ⟨rfl, .inl ⟨rfl, rfl⟩⟩, B1⟩
  case round =>
    clear own1 B1
    obtain ⟨cur, out, hpl, hsz, ⟨ac, cc, rfl⟩, ownc, ⟨ao, co, rfl⟩, owno, B⟩ := hrel
    have HPL := Lib.hid hpl
    clear hpl
    cases cur with
    | nil =>
      have e0 : pairsL D = out := by rw [HPL.out]; simp [pairsL, pairsF]
      have E0 := Lib.hid e0
      clear e0
      simp only [List.length_nil] at ownc ⊢
      go_wp2_with fail
      go_ret
      exact ⟨_, rfl, by rw [E0.out]; exact owno, B⟩
    | cons p r =>
      obtain ⟨m, hm⟩ : ∃ m, r.length = m := ⟨_, rfl⟩
      have HM := Lib.hid hm
      have hlc : (p :: r).length = m + 1 := by rw [List.length_cons, hm]
      rw [hlc] at hsz ownc ⊢
      obtain ⟨g, rfl, hgl, hcell, hcc, hcm⟩ := own_row_open ownc hlc (by omega)
      rw [maxLen_eq] at hcm
      have c0 := hcell 0 p rfl
      have i0' : (0 : Int) < ((m + 1 : Nat) : Int) := by omega
      obtain ⟨off, hoff, hrest⟩ : ∃ off, (if cc = 1 then some (⟨g, 0, none⟩ : Addr) else some ⟨g, 1, none⟩) = some ⟨g, off, none⟩ ∧ ∀ i x, r[i]? = some x → wr.cell? ⟨g, off + i, none⟩ = some (.int .u16 x) := by
        by_cases h : cc = 1
        · refine ⟨0, by rw [if_pos h], fun i x hi => ?_⟩
          have := (List.getElem?_eq_some_iff.1 hi).1
          omega
        · refine ⟨1, by rw [if_neg h], fun i x hi => ?_⟩
          rw [Nat.add_comm]
          exact hcell (i + 1) x (by simpa using hi)
      have HREST := Lib.hid hrest
      have K0 := Blk.new wr 129 #[.int .u16 p, .int .u16 0]
      have B0 : Below wr.heap.size wr (wr.alloc (.cells #[.int .u16 p, .int .u16 0] 129)) := (Below.refl _ wr).alloc (Nat.le_refl _) _
      have sB := B.size
      clear hrest hcell hlc
      go_upto_region 5 with fail
      clear c0
      obtain ⟨gp, hgp⟩ : ∃ gp, wr.heap.size = gp := ⟨_, rfl⟩
      rw [hgp] at K0 B0 ⊢
      generalize wr.alloc (.cells #[.int .u16 p, .int .u16 0] 129) = w0 at *
      go_wp2_with fail
      obtain ⟨wl, hwl⟩ : ∃ wl, wl = wr := ⟨_, rfl⟩
      subst hwl
      go_loopw [5, 20] (fun x5 x20 wr => ∃ (k : Nat) (lf : List Int), k ≤ m ∧ x20 = .int .i64 k ∧ lf = (r.take k).filter (fun n => !inR p n) ∧ (∃ al cl, x5 = .slice al lf.length cl) ∧ wr.ownsRow gp 90 1 x5 lf.length (cellsK .u16 lf) ∧ Blk wr gp 129 #[.int .u16 p, .int .u16 (blpOf p (r.take k) : Nat)] ∧ Below gp wl wr ∧ gp < wr.heap.size) (fun _ x20 _ => m - (intOf x20).toNat)
      case atStart => exact ⟨0, [], by omega, rfl, rfl, ⟨_, _, rfl⟩, ⟨rfl, .inl ⟨rfl, rfl⟩⟩, by simpa [blpOf] using K0, B0, K0.lt⟩
      case round =>
        obtain ⟨k, lf, hk, rfl, hlf, ⟨al, cl, rfl⟩, ownl, K, Bi, hgi⟩ := hrel
        have HLF := Lib.hid hlf
        clear hlf
        by_cases hlt : k < m
        · have hkl : k < r.length := by have := HM.out; omega
          obtain ⟨x, hx⟩ : ∃ x, r[k]? = some x := ⟨_, List.getElem?_eq_getElem hkl⟩
          have d := (Bi.cell (p := ⟨g, off + k, none⟩) (by show g < gp; omega)).trans (HREST.out k x hx)
          have k00 : (0 : Int) ≤ (k : Int) := by omega
          have i1 : (k : Int) < (m : Int) := by omega
          have wk : IntKind.i64.wrap ((k : Int) + 1) = ((k + 1 : Nat) : Int) := by rw [IntWalk.i64_in _ (by omega)]; omega
          have htk : r.take (k + 1) = r.take k ++ [x] := by rw [List.take_add_one, hx]; rfl
          have HTK := Lib.hid htk
          have hlen := List.length_filter_le (fun n => !inR p n) (r.take k)
          rw [List.length_take, ← HLF.out] at hlen
          obtain ⟨t, ht⟩ : ∃ t, inR p x = t := ⟨_, rfl⟩
          have HT := Lib.hid (pair_take gp p x (blpOf p (r.take k)) (blpOf_lt _ _) t ht wr K)
          have HIN := Lib.hid ht
          rw [← blpOf_snoc, ← htk] at HT
          obtain ⟨b', hb'⟩ : ∃ b', blpOf p (r.take (k + 1)) = b' := ⟨_, rfl⟩
          rw [hb'] at HT
          have HB' := Lib.hid hb'
          have nb := own_ne_blkN ownl K (by decide)
          clear hx htk ht hb' K hkl
          cases t with
          | true =>
            go_wp2_with fail
            refine HT.out.mono ?_
            rintro e2 w3 ⟨rfl, K3, hk3, B3⟩
            have own3 := own_at2 ownl (fun j hj => hk3 j (fun e => nb (by rw [hj, e])))
            go_wp2_with fail
            go_roundw
            case rel =>
              refine ⟨k + 1, lf, by omega, by go_num, ?_, ⟨_, _, rfl⟩, own3, by rw [HB'.out]; exact K3, Bi.trans B3, by have := B3.size; omega⟩
              rw [HTK.out, List.filter_append, ← HLF.out]
              simp [HIN.out]
            case measure => simp only [intOf]; omega
          | false =>
            go_wp2_with fail
            refine HT.out.mono ?_
            rintro e2 w3 ⟨rfl, K3, hk3, B3⟩
            have own3 := own_at2 ownl (fun j hj => hk3 j (fun e => nb (by rw [hj, e])))
            have B13 := Bi.trans B3
            have hg3 : gp < w3.heap.size := by have := B3.size; omega
            go_wp2_with (at_builtin; refine wpList_append_lies _ rfl _ _ 82 rfl gp 90 i0 (.int .u16 0) 1 2 Try.underlying82 hi0 hz0 hz1 hz2 rfl (by decide) _ _ _ rfl (own3.alloc _) ⟨w3.heap.size, 0, none⟩ 1 1 [.int .u16 x] rfl rfl (cell_one_new _ _ _) (by simp [Value.oneCell']) (by omega) (by rw [maxLen_eq]; omega) (by omega) (by simp; omega) _ rfl ?_; intro g2 cap w6 own6 hgrow hat hlt6)
            have K6 : Blk w6 gp 129 _ := (hgrow.block gp (by simp; omega) (fun e => nb e.symm)).trans ((Below.heap_alloc _ _ _ hg3).trans K3)
            have hB6 : Below gp wl w6 := (B13.alloc (by omega) _).grown hgrow (by simp; omega) (fun j hj => (own3.lt j hj).1)
            go_roundw
            case rel =>
              refine ⟨k + 1, lf ++ [x], by omega, by go_num, ?_, ⟨_, _, by rw [List.length_append]; rfl⟩, by rw [List.length_append, cellsK_snoc]; exact own6, by rw [HB'.out]; exact K6, hB6, by have := hgrow.size; simp at this; omega⟩
              rw [HTK.out, List.filter_append, ← HLF.out]
              simp [HIN.out]
            case measure => simp only [intOf]; omega
        · obtain rfl : k = m := by omega
          have j1 : ¬ (k : Int) < (k : Int) := by omega
          have hall : r.take k = r := by have := HM.out; rw [← this]; exact List.take_length
          rw [hall] at K
          have hlf : lf = r.filter (fun n => !inR p n) := by rw [HLF.out, hall]
          have hlen := List.length_filter_le (fun n => !inR p n) r
          rw [← hlf, HM.out] at hlen
          have HLF2 := Lib.hid hlf
          have owno2 := own_at2 owno (w' := wr) (fun j hj => Bi.block j (by rw [← hgp]; exact (owno.lt j hj).2))
          have owno3 := ownsRow_alloc owno2 (.cells #[.int .u16 p, .int .u16 (blpOf p r : Nat)] 129)
          have ownl3 := ownsRow_alloc ownl (.cells #[.int .u16 p, .int .u16 (blpOf p r : Nat)] 129)
          have hnew := World.news_of_block (Blk.new wr 129 #[.int .u16 p, .int .u16 (blpOf p r : Nat)])
          have kc := K.cell
          simp at kc
          obtain ⟨b', hb'⟩ : ∃ b', blpOf p r = b' := ⟨_, rfl⟩
          rw [hb'] at kc owno3 ownl3 hnew
          have HB' := Lib.hid hb'
          have B2 : Below w.heap.size w wr := B.trans (Bi.mono (by omega))
          have s2 := B2.size
          clear hall hlf hb' owno
          go_wp2_with (at_builtin; refine wpList_append_lies _ rfl _ _ 84 rfl w.heap.size 129 ip (.agg #[.int .u16 0, .int .u16 0]) 2 4 Try.underlying84 hp0 hp1 hp2 hp3 rfl (by decide) _ _ _ rfl owno3 ⟨wr.heap.size, 0, none⟩ 1 1 [.int .u16 p, .int .u16 (b' : Nat)] rfl rfl hnew (by simp [Value.oneCell']) (by omega) (by rw [maxLen_eq]; omega) (by omega) (by simp; omega) _ rfl ?_; intro g4 k4 w4 own4 hgrow4 hat4 hlt4)
          have own5 : w4.ownsRow gp 90 1 (.slice al lf.length cl) lf.length (cellsK .u16 lf) := own_at2 ownl3 (fun j hj => hgrow4.block j (ownl3.lt j hj).2 (fun e => own_ne_own ownl3 owno3 (by decide) j hj e.symm))
          have B4 : Below w.heap.size w w4 := (B2.alloc s2 _).grown hgrow4 (by simp; omega) (fun j hj => (owno3.lt j hj).1)
          go_roundw
          case rel =>
            refine ⟨lf, out ++ [(p, b')], ?_, by rw [List.length_append, List.length_singleton]; omega, ⟨_, _, rfl⟩, ?_, ⟨_, _, by rw [List.length_append]; rfl⟩, ?_, B4⟩
            · rw [HPL.out, pairsL_cons, HB'.out, HLF2.out]
              simp
            · refine ⟨own5.1, ?_⟩
              rcases own5.2 with h | ⟨g', cap, cur, h, hb, rest⟩
              · exact .inl h
              · exact .inr ⟨g', cap, cur, h, by omega, rest⟩
            · rw [List.length_append, rowP_append]
              exact own4
          case measure => simp only [lenOfV]; omega
end Go.Proofs.Ytonamlgipoannaa
