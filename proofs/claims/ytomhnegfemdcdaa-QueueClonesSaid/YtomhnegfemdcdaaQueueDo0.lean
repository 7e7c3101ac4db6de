/- The statements' do of queues: Push. No condition but that both stand. -/
import Derived.Test.YtomhnegfemdcdaaQueueDo
namespace Go.Proofs.Ytomhnegfemdcdaa
open Go.RowKit BigFrame
attribute [local go_sem ↓] Go.wp_at_zero Go.wp_at_succ

/-- While Push's and the result's parts are drawn. -/
structure CPush (w0 : World) (g r : Nat) (a b : Int) (l l' : List ByteArray) (v : Value) (rt : TypeId) (zs cs : Array Value) (L : Nat → Bool) (G : Nat → Value) (W : World) : Prop where
  size : w0.heap.size ≤ W.heap.size
  below : Below 0 w0 W
  keep : ∀ k, k < w0.heap.size → k ≠ g → v.ownBlock ≠ some k → k ≠ r → W.heap[k]? = w0.heap[k]?
  q0 : L 3 = false → QV W g a b l (sumQ l) v
  q1 : L 3 = true → ∃ v', QV W g a b l' (sumQ l') v' ∧ ∀ k, v'.ownBlock = some k → v.ownBlock = some k ∨ w0.heap.size ≤ k
  r0 : L 6 = false → Blk W r rt zs
  r1 : L 6 = true → Blk W r rt cs
def GPush (ok : Bool) (q : Nat) (v : Value) : Prop := q = 3 → v = .bool ok

set_option maxHeartbeats 8000000 in
theorem law20_do0 (g : Nat) (x : Value) (a b N : Int) (l : List ByteArray) (v sv : Value) (la : Option Addr) (ll lc : Nat) (ss : Nat → ByteArray) (w : World) (h : QV w g a b l (sumQ l) v) (R : RQ w x a b l sv) (hsep : ∀ k, sv.ownBlock = some k → v.ownBlock ≠ some k ∧ k ≠ g)
    (SA : SliceOf w la ll lc 1 (fun j => [.string (ss j)])) (SF : ∀ j, j < ll → (ss j).size ≤ maxLen) (a0 : 0 ≤ a) (a1 : a ≤ 1073741824) (b0 : 0 ≤ b) (b1 : b ≤ 1073741824) (hl : l.length ≤ 9000) (hs : ∀ s ∈ l, s.size ≤ 20) (hla : (l.length : Int) ≤ a) (hlb : sumQ l ≤ b) :
    Calls Try.prog 25 #[.pointer (some ⟨g, 0, none⟩), x, .agg #[.int .i64 0, .int .i64 N, .slice la ll lc]] w fun e w' => ∃ x', e = .returned (.tuple #[x', .bool true]) ∧ ∃ v' sv' l', DoPost w w' g a b l v sv x' l' v' sv' ∧ l'.length ≤ l.length + 6 ∧ (∀ s ∈ l', s.size ≤ 20) ∧ (l'.length : Int) ≤ a ∧ sumQ l' ≤ b := by
  obtain ⟨i0, hi0, hz0, hz1, hz2⟩ := info_parts (show (Try.prog.info? 49).map (fun i => (i.zero, i.size, i.bytes)) = some (some (.string ByteArray.empty), 1, 16) by kernel_rfl)
  obtain ⟨y0, -⟩ := sumQ_bd l
  have hll := SA.size_le
  obtain ⟨n, hn⟩ : ∃ n, min ll 6 = n := ⟨_, rfl⟩
  have hn6 : n ≤ 6 := by omega
  obtain ⟨m, hm⟩ : ∃ m, (List.range n).map (fun i => cutB (ss i) 20) = m := ⟨_, rfl⟩
  have hml : m.length = n := by rw [← hm]; simp
  have hms : ∀ s ∈ m, s.size ≤ 20 := fun s hs => by
    rw [← hm] at hs
    obtain ⟨i, _, rfl⟩ := List.mem_map.1 hs
    exact (cutB_size _ _).1
  have hmc : cutCells ss 20 n = textCells m := by rw [← hm]; unfold cutCells textCells; rw [List.map_map]; rfl
  have hsm := sumQ_small m hms
  obtain ⟨ym0, -⟩ := sumQ_bd m
  have happ := sumQ_append l m
  obtain ⟨ok, hok⟩ : ∃ ok, decide ((l.length : Int) + m.length ≤ a ∧ sumQ (l ++ m) ≤ b) = ok := ⟨_, rfl⟩
  obtain ⟨l', hl'⟩ : ∃ l', (if ok then l ++ m else l) = l' := ⟨_, rfl⟩
  have HEND := Lib.hid (show l'.length ≤ l.length + 6 ∧ (∀ s ∈ l', s.size ≤ 20) ∧ (l'.length : Int) ≤ a ∧ sumQ l' ≤ b by
    rw [← hl']
    cases ok with
    | true =>
      have := of_decide_eq_true hok
      simp only [if_true, List.length_append]
      refine ⟨by omega, fun s hs' => ?_, by omega, by omega⟩
      rcases List.mem_append.1 hs' with h1 | h1
      · exact hs s h1
      · exact hms s h1
    | false => exact ⟨by simp, hs, hla, hlb⟩)
  have HP := Lib.hid (show ∀ (B : Nat) (W : World) (ao : Option Addr) (co : Nat), QV W g a b l (sumQ l) v → W.ownsRow B 49 1 (.slice ao n co) n (textCells m) → Calls Try.prog 21 #[.pointer (some ⟨g, 0, none⟩), .slice ao n co] W fun e w' => e = .returned (.bool ok) ∧ ∃ v', QV w' g a b l' (sumQ l') v' ∧ Moved W w' g v v' from fun B W ao co q own => by
    obtain ⟨a', c', e, S⟩ := SliceOf.of_own own (fun i => .string (m.getD i .empty)) (fun i hi => by unfold textCells; simp [hml, hi])
    cases e
    subst hl'
    cases ok with
    | true =>
      have hd := of_decide_eq_true hok
      refine (queue_PushA g a b (sumQ l) l m v ao n co W q a0 a1 b0 b1 y0 (by omega) (by omega) hml (by omega) S ⟨by omega, by omega⟩).mono ?_
      rintro e w' ⟨rfl, v', q', M⟩
      rw [← happ] at q'
      exact ⟨rfl, v', q', M⟩
    | false =>
      have hd := of_decide_eq_false hok
      refine (queue_PushNoA g a b (sumQ l) l m v ao n co W q a0 a1 b0 b1 y0 (by omega) (by omega) hml (by omega) S (by omega)).mono ?_
      rintro e w' ⟨rfl, hb⟩
      exact ⟨rfl, v, q.below hb, Moved.of_below hb⟩)
  have HR := Lib.hid (show ∀ (W : World) (af : Option Addr) (cf : Nat), RQ W x a b l sv → SliceOf W af n cf 1 (fun i => [.string (m.getD i .empty)]) → Calls Try.prog 38 #[x, .slice af n cf] W fun e w' => ∃ x', e = .returned (.tuple #[x', .bool ok]) ∧ ∃ sv', RQ w' x' a b l' sv' ∧ (∀ k, sv'.ownBlock = some k → sv.ownBlock = some k ∨ W.heap.size ≤ k) ∧ Below W.heap.size W w' from fun W af cf r S => by
    have := ref20_Push x a b l m sv af cf W r (by rw [hml]; exact S) (by omega) (by omega) (fun s hs' => by
      rcases List.mem_append.1 hs' with h1 | h1
      · have := hs s h1; omega
      · have := hms s h1; omega) ok hok
    rw [hml, hl'] at this
    exact this)
  have HFEW := Lib.hid (show ∀ W, Below w.heap.size w W → Calls Try.prog 19 #[.slice la ll lc, .int .i64 ((6 : Nat) : Int), .int .i64 ((20 : Nat) : Int)] W (OwnsRes W 9 n (textCells m)) from fun W hb => by
    have := law02_Few la ll lc ss 6 20 W (SA.below hb) SF (by omega) (by omega)
    rw [hn, hmc] at this
    exact this)
  have HML := Lib.hid hml
  have HSEP := Lib.hid hsep
  obtain ⟨ra, rc, rfl, SL⟩ := R.slice_
  have hx0 := R.eq
  obtain ⟨nl, hnl⟩ : ∃ n, l.length = n := ⟨_, rfl⟩
  rw [hnl] at hx0 HEND HR HSEP
  rw [hx0] at HR ⊢
  obtain ⟨K1, K2, K3, B1, z1⟩ := three_new0 w #[.int .i64 a, .int .i64 b, .slice ra nl rc] #[.int .i64 0, .int .i64 N, .slice la ll lc] #[.int .i64 0, .int .i64 0, .slice none 0 0] 58 63 58
  rw [hx0, hnl] at R
  rw [hnl]
  clear SL hx0 hsep hl' hok hml hms hmc hsm happ hn hm SA SF hll hla hlb hl hs
  go_enter Try.func25, Try.ntmps25
  go_upto_region 1 with fail
  generalize ((w.alloc (.cells #[.int .i64 a, .int .i64 b, .slice ra nl rc] 58)).alloc (.cells #[.int .i64 0, .int .i64 N, .slice la ll lc] 63)).alloc (.cells #[.int .i64 0, .int .i64 0, .slice none 0 0] 58) = w1 at *
  have c2 := K2.cell
  simp at c2
  have hgw := h.blk.lt
  go_upto_region 3 with fail
  go_wp2_with fail
  refine (HFEW.out w1 B1).mono ?_
  rintro e w2 ⟨vf, rfl, ownf, B2⟩
  obtain ⟨af, cf, rfl, SFW⟩ := SliceOf.of_own ownf (fun i => .string (m.getD i .empty)) (fun i hi => by have := HML.out; unfold textCells; simp [this, hi])
  have s2 := B2.size
  clear c2 ownf
  go_wp2_with fail
  go_loopw [9, 33] (fun x9 xi wr => ∃ d : Nat, d ≤ n ∧ xi = .int .i64 d ∧ wr.ownsRow w2.heap.size 49 1 x9 d (textCells (m.take d)) ∧ Below w2.heap.size w2 wr) (fun _ i _ => n - (intOf i).toNat)
  case atStart => exact ⟨0, by omega, rfl, ⟨rfl, .inl ⟨rfl, rfl⟩⟩, Below.refl _ _⟩
  case round =>
    obtain ⟨d, hd, rfl, o1, Bd⟩ := hrel
    by_cases hdr : d < n
    · obtain ⟨bb, off, rfl, hbb, hcell⟩ := SFW.at1 (by omega)
      have dc := (Bd.cell (p := ⟨bb, off + d, none⟩) hbb).trans (hcell d hdr)
      obtain ⟨t, ht⟩ : ∃ t, m.getD d .empty = t := ⟨_, rfl⟩
      rw [ht] at dc
      have HT := Lib.hid ht
      clear ht hcell
      have d0 : (0 : Int) ≤ (d : Int) := by omega
      have d1 : (d : Int) < (n : Int) := by omega
      go_wp2_with (at_builtin; refine wpList_append_lies _ rfl _ _ 50 rfl w2.heap.size 49 i0 (.string ByteArray.empty) 1 16 Try.underlying50 hi0 hz0 hz1 hz2 rfl (by decide) _ _ _ rfl (o1.alloc _) ⟨wr.heap.size, 0, none⟩ 1 1 [.string t] rfl rfl (cell_one_new _ _ _) (by simp [Value.oneCell']) (by omega) (by rw [maxLen_eq]; omega) (by omega) (Nat.le_trans Bd.size (by simp)) _ rfl ?_; intro g2 cap w6 own1 hgrow hat hlt1)
      have hB1 := (Bd.alloc Bd.size _).grown hgrow (by have := Bd.size; simp; omega) (fun j hj => (o1.lt j hj).1)
      go_roundw
      case rel =>
        refine ⟨d + 1, by omega, by go_num, ?_, hB1⟩
        have e1 : m.take (d + 1) = m.take d ++ [t] := by
          rw [List.take_add_one, ← HT.out, List.getD_eq_getElem?_getD, List.getElem?_eq_getElem (by rw [HML.out]; exact hdr)]
          rfl
        rw [e1, textCells_one]
        exact own1
      case measure => simp only [intOf]; omega
    · obtain rfl : d = n := by omega
      have j1 : ¬ (d : Int) < (d : Int) := by omega
      have hall : m.take d = m := by have := HML.out; rw [← this]; exact List.take_length
      rw [hall] at o1
      obtain ⟨ao, co, rfl, -⟩ := SliceOf.of_own o1 (fun i => .string (m.getD i .empty)) (fun i hi => by have := HML.out; unfold textCells; simp [this, hi])
      have B1r : Below w.heap.size w wr := below_then B1 (below_then B2 Bd (Nat.le_refl _)) (Nat.le_refl _)
      have Rr := R.below B1r
      have B12r := below_then B2 Bd (Nat.le_refl _)
      have K1r := K1.below B12r K1.lt
      have K3r := K3.below B12r K3.lt
      have Sr := SFW.below Bd
      have sr := Bd.size
      have c1 := K1r.cell
      simp at c1
      go_upto_region 10 with fail
      clear j1 hall
      go_wp2_with fail
      refine (HR.out wr af cf Rr Sr).mono ?_
      rintro e w3 ⟨x', rfl, sv', R3, hf, B3⟩
      have hx' := R3.eq
      obtain ⟨rb, rd, rfl, -⟩ := R3.slice_
      obtain ⟨m', hm'⟩ : ∃ m', l'.length = m' := ⟨_, rfl⟩
      rw [hm'] at hx' R3 hf
      subst hx'
      have s3 := B3.size
      have K4 := Blk.new w3 58 #[.int .i64 a, .int .i64 b, .slice rb m' rd]
      have B4' : Below w3.heap.size w3 (w3.alloc (.cells #[.int .i64 a, .int .i64 b, .slice rb m' rd] 58)) := (Below.refl _ w3).alloc (Nat.le_refl _) _
      clear c1
      go_upto_region 11 with fail
      generalize w3.alloc (.cells #[.int .i64 a, .int .i64 b, .slice rb m' rd] 58) = w4 at *
      have s4 := B4'.size
      have hlt4 := K4.lt
      have B04 : Below w.heap.size w w4 := below_then B1r (below_then B3 B4' (Nat.le_refl _)) (Nat.le_refl _)
      have Br4 : Below wr.heap.size wr w4 := below_then B3 B4' (Nat.le_refl _)
      have q4 := h.below B04
      have R4 := R3.below B4'
      have K34 := K3r.below Br4 K3r.lt
      have own4 := own_at o1 (w' := w4) (fun j hj => Br4.block j (o1.lt j hj).2)
      have hvl := fun k (e : v.ownBlock = some k) => (h.own.lt k e).2
      have hoo := fun k (e : (Value.slice ao d co).ownBlock = some k) => o1.lt k e
      have hne : Nonempty (UWF (CPush w4 g (w.heap.size + 1 + 1) a b l l' v 58 #[.int .i64 0, .int .i64 0, .slice none 0 0] #[.int .i64 a, .int .i64 b, .slice rb m' rd])) := ⟨⟨fun _ => false, fun _ => undef, w4.drew, ⟨Nat.le_refl _, (Below.refl _ _).drew, fun _ _ _ _ _ => rfl, fun _ => q4.below ((Below.refl _ _).drew), (fun e => by cases e), fun _ => K34.drew, (fun e => by cases e)⟩⟩⟩
      refine wp_region_free [(0, 3, some 3), (4, 2, some 6), (7, 1, none)] (CPush w4 g (w.heap.size + 1 + 1) a b l l' v 58 #[.int .i64 0, .int .i64 0, .slice none 0 0] #[.int .i64 a, .int .i64 b, .slice rb m' rd]) (GPush ok) (fun q => if q = 3 then .bool ok else undef) (by kernel_rfl) (by kernel_rfl) ?_ ?_ ?_ ?_
      · intro z hz LL G W hC
        simp [moversI] at hz
        refine ⟨hC.size, hC.below, hC.keep, fun e => hC.q0 ?_, fun e => hC.q1 ?_, fun e => hC.r0 ?_, fun e => hC.r1 ?_⟩
        · rw [upd_ne LL (by omega)] at e; exact e
        · rw [upd_ne LL (by omega)] at e; exact e
        · rw [upd_ne LL (by omega)] at e; exact e
        · rw [upd_ne LL (by omega)] at e; exact e
      · exact ⟨Nat.le_refl _, (Below.refl _ _).drew, fun _ _ _ _ _ => rfl, fun _ => q4.below ((Below.refl _ _).drew), (fun e => by cases e), fun _ => K34.drew, (fun e => by cases e)⟩
      · intro z e
        subst e
        rfl
      · intro G hG
        have g3 := hG 3 rfl
        have E := fun (gw : UWF (CPush w4 g (w.heap.size + 1 + 1) a b l l' v 58 #[.int .i64 0, .int .i64 0, .slice none 0 0] #[.int .i64 a, .int .i64 b, .slice rb m' rd])) => (show Blk gw.world w3.heap.size 58 _ from (gw.holds.keep w3.heap.size hlt4 (by omega) (fun e => by have := hvl _ e; omega) (by omega)).trans K4)
        have E0 := fun gw => (E gw).cell 0
        have E1 := fun gw => (E gw).cell 1
        have E2 := fun gw => (E gw).cell 2
        simp at E0 E1 E2
        simp only [walkF, List.drop_zero, List.drop_succ_cons, List.take_succ_cons, List.take_zero, List.toList_toArray]; (repeat (go_big_quiet_step (fail))); refine wpQuiet_nil ?_
        refine ⟨_, _, _, _, _, _, rfl, .inl ⟨rfl, ?_, ?_⟩⟩
        · intro LL W hL hA hC
          refine ⟨?_⟩; go_simp; simp only [movesToUpon]
          refine (HP.out w2.heap.size W ao co (hC.q0 hL) (own_at own4 (fun j hj => hC.keep j (by have := (hoo j hj).2; omega) (by have := (hoo j hj).1; omega) (fun e => by have := hvl _ e; have := (hoo j hj).1; omega) (by have := (hoo j hj).1; omega)))).mono ?_
          rintro e w' ⟨rfl, v', q', M⟩
          have sW := hC.size
          refine ⟨_, rfl, fun _ => rfl, ⟨Nat.le_trans sW M.below.size, hC.below.trans M.below, fun k h1 h2 h3 h4 => (M.keep k (by omega) h2 h3).trans (hC.keep k h1 h2 h3 h4), (fun e => by rw [upd_at] at e; cases e), fun _ => ⟨v', q', fun k hk => ?_⟩, fun e => ?_, fun e => ?_⟩⟩
          · rcases M.row k hk with h1 | h1
            · exact .inl h1
            · right; omega
          · rw [upd_ne LL (by decide)] at e
            exact (M.keep _ (by omega) (by omega) (fun e => by have := hvl _ e; omega)).trans (hC.r0 e)
          · rw [upd_ne LL (by decide)] at e
            exact (M.keep _ (by omega) (by omega) (fun e => by have := hvl _ e; omega)).trans (hC.r1 e)
        · intro K' hK'; dsimp only at hK'; rw [g3]; go_big_quiet_op; go_big_quiet_on; (repeat (go_big_quiet_step (fail))); refine wpQuiet_nil ?_
          refine ⟨_, _, _, _, _, _, rfl, .inl ⟨rfl, ?_, ?_⟩⟩
          · intro LL W hL hA hC
            have k0 := hC.r0 hL
            have ck0 := k0.cell
            have fk0 := k0.frozen
            simp at ck0
            have sW := hC.size
            obtain ⟨wS, eS, KS, BS, hkS⟩ := three_set k0 rfl (.int .i64 a) (.int .i64 b) (.slice rb m' rd) 0 (Nat.zero_le _)
            refine ⟨?_⟩; go_simp; simp only [movesToUpon]
            refine ⟨(fun e => by cases e), ⟨Nat.le_trans sW BS.size, hC.below.trans BS, fun k h1 h2 h3 h4 => (hkS k h4).trans (hC.keep k h1 h2 h3 h4), fun e => ?_, fun e => ?_, (fun e => by rw [upd_at] at e; cases e), fun _ => KS⟩⟩
            · rw [upd_ne LL (by decide)] at e
              exact (hC.q0 e).kept (fun i _ hi => hkS i hi) (by omega) (fun e => by have := hvl _ e; omega)
            · rw [upd_ne LL (by decide)] at e
              obtain ⟨v', q', hr⟩ := hC.q1 e
              refine ⟨v', q'.kept (fun i _ hi => hkS i hi) (by omega) (fun e => ?_), hr⟩
              rcases hr _ e with h1 | h1
              · have := hvl _ h1; omega
              · omega
          · intro K' hK'; dsimp only at hK'; go_big_quiet_op; go_big_quiet_on; (repeat (go_big_quiet_step (fail))); refine wpQuiet_nil ?_
            intro LL w9 hL hC
            obtain ⟨v', q9, hr⟩ := hC.q1 (hL 3 (by decide))
            have K9 := hC.r1 (hL 6 (by decide))
            have kp := hC.keep
            have B9 := hC.below
            have c9 := K9.cell
            simp at c9
            clear hC hL hG g3 E E0 E1 E2 hne
            go_wp2_with fail
            have hf' : ∀ k, (Value.slice rb m' rd).ownBlock = some k → (Value.slice ra nl rc).ownBlock = some k ∨ w.heap.size ≤ k := fun k hk => by
              rcases hf k hk with h1 | h1
              · exact .inl h1
              · right; omega
            refine bodyPost_ret (v := .tuple #[.agg #[.int .i64 a, .int .i64 b, .slice rb m' rd], .bool true]) ?_ rfl ⟨_, rfl, v', .slice rb m' rd, l', do_end h R HSEP.out B04 R4 hf' B9 (fun k hk h1 h2 h3 => kp k hk h1 h2 ?_) hr q9, HEND.out⟩
            · simp [results, Try.results25, go_sem, c9]
            · rcases h3 with h3 | h3
              · omega
              · rcases hf k h3 with h4 | h4
                · have := (R.own.lt k h4).2; omega
                · omega
end Go.Proofs.Ytomhnegfemdcdaa
