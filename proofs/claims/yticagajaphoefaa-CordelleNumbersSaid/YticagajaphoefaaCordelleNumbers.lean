/- CordelleNumbers, walked. No condition. -/
import Derived.Test.YticagajaphoefaaPen3
import Derived.Test.YticagajaphoefaaSerial
namespace Go.Proofs.Yticagajaphoefaa
open Go.RowKit BigFrame
attribute [local go_sem ↓] Go.wp_at_zero Go.wp_at_succ
attribute [local go_sem] i64_and32767

def nv (a : Nat → Int) (n0 : Int) : Nat → Int
  | 0 => n0
  | i + 1 => nv a n0 i + (a i % 32768 - 16383)
theorem nv_bd (a : Nat → Int) (n0 : Int) (h : 0 ≤ n0 ∧ n0 ≤ 1099511627776) (i : Nat) : -16384 * i ≤ nv a n0 i ∧ nv a n0 i ≤ 1099511627776 + 16384 * i := by
  induction i with
  | zero => simp [nv]; omega
  | succ i ih => simp only [nv]; omega
theorem beI2 (x : Int) : beI x 2 = [x / 256 % 256, x % 256] := by
  simp [beI, List.range_succ]
theorem beAll_split (ns : Nat → Int) (size k : Nat) : ∀ K, k < K → ∃ rest, beAll ns size K = beAll ns size k ++ (beI (ns k % 4294967296) size ++ rest)
  | 0, h => absurd h (by omega)
  | K + 1, h => by
    rcases Nat.lt_or_ge k K with h1 | h1
    · obtain ⟨rest, e⟩ := beAll_split ns size k K h1
      exact ⟨rest ++ beI (ns K % 4294967296) size, by rw [beAll_succ, e]; simp [List.append_assoc]⟩
    · obtain rfl : k = K := by omega
      exact ⟨[], by rw [beAll_succ, List.append_nil]⟩
theorem strOfNums_drop (l : List Int) (n : Nat) : (strOfNums l).extract n (strOfNums l).size = strOfNums (l.drop n) := by
  apply ByteArray.ext
  apply Array.ext'
  rw [ByteArray.data_extract, Array.toList_extract, strOfNums_data, strOfNums_data]
  rw [strOfNums_size]
  simp [List.extract_eq_take_drop, List.map_drop, List.take_of_length_le]
theorem numS2 (l rest : List Int) (x : Int) (h : l = beI x 2 ++ rest) : (numS (strOfNums l) 2 : Int) = x % 65536 := by
  subst h
  rw [beI2]
  simp only [numS, strOfNums_data, List.cons_append, List.map_cons, List.getD_cons_zero, List.getD_cons_succ]
  have e1 : (UInt8.ofNat (x / 256 % 256).toNat).toNat = (x / 256 % 256).toNat := by simp; omega
  have e2 : (UInt8.ofNat (x % 256).toNat).toNat = (x % 256).toNat := by simp; omega
  rw [e1, e2]
  omega
theorem ext_step (l d : Int) (h1 : -4611686018427387904 ≤ l) (h2 : l ≤ 4611686018427387904) (d1 : -16383 ≤ d) (d2 : d ≤ 16384) : extI l ((l + d) % 4294967296 % 65536) = l + d := by
  rw [ext_near l _ h1 h2]
  unfold diffI
  omega
theorem SliceOf.litP {w : World} {g : Nat} {t : TypeId} {v : Value} (h : Blk w g t #[v]) : SliceOf w (some ⟨g, 0, none⟩) 1 1 1 (fun _ => [v]) := by
  refine ⟨Nat.le_refl _, by rw [maxLen_eq]; omega, fun _ => ⟨g, 0, rfl, h.lt, fun i hi j u hu => ?_⟩⟩
  obtain rfl : i = 0 := by omega
  match j, hu with
  | 0, hu =>
    simp at hu
    subst hu
    have := h.cell 0
    simpa using this
def wantC (f : Nat → Int) (n : Nat) : List Value := (List.range n).map fun i => .int .i64 (f i)
theorem wantC_succ (f : Nat → Int) (n : Nat) : wantC f (n + 1) = wantC f n ++ [.int .i64 (f n)] := by unfold wantC; rw [List.range_succ, List.map_append]; rfl
theorem wantC_get (f : Nat → Int) (n i : Nat) (h : i < n) : (wantC f n)[i]? = some (.int .i64 (f i)) := by simp [wantC, h]

set_option maxHeartbeats 8000000 in
theorem CordelleNumbers_walk (a0 : Int) (a1a : Option Addr) (a1l a1c : Nat) (a1e0 : Nat → Int) (w : World) (a0w : (Lit.int .i64 a0).wf = true) (a1S : SliceOf w a1a a1l a1c 1 (fun i => [.int .i64 (a1e0 i)])) (a1F0 : ∀ i, i < a1l → (Lit.int .i64 (a1e0 i)).wf = true) :
    Calls Try.prog 8 #[.int .i64 a0, .slice a1a a1l a1c] w fun e w' => e = .returned (.bool true) ∧ Below w.heap.size w w' := by
  obtain ⟨i0, hi0, hz0, hz1, hz2⟩ := info_parts (show (Try.prog.info? 3).map (fun i => (i.zero, i.size, i.bytes)) = some (some (.int .i64 0), 1, 8) by kernel_rfl)
  obtain ⟨n0, hn0⟩ : ∃ n, max 0 (min a0 1099511627776) = n := ⟨_, rfl⟩
  have hn0b : 0 ≤ n0 ∧ n0 ≤ 1099511627776 := by omega
  have m1 : min a0 1099511627776 = min a0 1099511627776 := rfl
  have hnv := fun i => nv_bd a1e0 n0 hn0b i
  have hE := serial_Extend 65535 0 65536 (by decide) w
  have hl := a1S.size_le
  have HS := Lib.hid a1S
  have HE := Lib.hid hE
  clear hE a1S a1F0 a0w m1
  go_enter Try.func8, Try.ntmps8
  go_wp2_with fail
  refine HE.out.mono ?_
  rintro e w1 ⟨rfl, rfl⟩
  obtain ⟨mn, hmn⟩ : ∃ mn, (if 1099511627776 < a0 then 1099511627776 else a0) = mn := ⟨_, rfl⟩
  have mx : (if 0 < mn then mn else 0) = n0 := by rw [← hn0, ← hmn]; split <;> split <;> omega
  clear hn0
  go_upto_region 5 with fail
  have K0 := Blk.new w 44 #[.slice none 0 0]
  have B0 : Below w.heap.size w (w.alloc (.cells #[.slice none 0 0] 44)) := (Below.refl _ w).alloc (Nat.le_refl _) _
  have H0 : OutAt (w.alloc (.cells #[.slice none 0 0] 44)) w.heap.size [] (.slice none 0 0) := ⟨K0, ⟨rfl, .inl ⟨rfl, rfl⟩⟩, fun e => by cases e⟩
  obtain ⟨f, hf⟩ : ∃ f : Nat → Int, (fun j => nv a1e0 n0 (j + 1)) = f := ⟨_, rfl⟩
  have HF := Lib.hid hf
  go_upto_region 6 with fail
  obtain ⟨go, hgo⟩ : ∃ g, w.heap.size = g := ⟨_, rfl⟩
  have HGO := Lib.hid hgo
  rw [hgo] at H0 B0 ⊢
  generalize w.alloc (.cells #[.slice none 0 0] 44) = w2 at *
  clear K0 hf hgo mx hmn
  have s2 := B0.size
  go_wp2_with fail
  go_loopw [5, 8, 9] (fun x5 x8 x9 wr => ∃ (i : Nat) (vO : Value), i ≤ a1l ∧ i ≤ 60 ∧ x9 = .int .i64 i ∧ x5 = .int .i64 (nv a1e0 n0 i) ∧ wr.ownsRow w2.heap.size 3 1 x8 i (wantC f i) ∧ OutAt wr go (beAll f 2 i) vO ∧ (∀ k, vO.ownBlock = some k → w2.heap.size ≤ k) ∧ (∀ k, x8.ownBlock = some k → vO.ownBlock ≠ some k) ∧ Below go w wr ∧ w2.heap.size ≤ wr.heap.size) (fun _ _ x9 _ => a1l - (intOf x9).toNat)
  case atStart => exact ⟨0, _, by omega, by omega, rfl, rfl, ⟨rfl, .inl ⟨rfl, rfl⟩⟩, H0, (fun k e => by cases e), (fun k e => by cases e), B0, Nat.le_refl _⟩
  case round =>
    have hgl := H0.blk.lt
    clear H0 B0
    obtain ⟨i, vO, hi, hi60, rfl, rfl, own, H, hvO, hsep, B, sB⟩ := hrel
    by_cases hgo' : i < a1l ∧ i < 60
    · obtain ⟨hlt, h60⟩ := hgo'
      obtain ⟨bb, off, rfl, hbb, hcell⟩ := HS.out.at1 (by omega)
      have dc := (B.cell (p := ⟨bb, off + i, none⟩) (by have := HGO.out; show bb < go; omega)).trans (hcell i hlt)
      obtain ⟨x, hx⟩ : ∃ x, a1e0 i = x := ⟨_, rfl⟩
      obtain ⟨l, hl'⟩ : ∃ l, nv a1e0 n0 i = l := ⟨_, rfl⟩
      obtain ⟨n, hn⟩ : ∃ n, l + (x % 32768 - 16383) = n := ⟨_, rfl⟩
      have HN1 := Lib.hid (show nv a1e0 n0 (i + 1) = n by simp only [nv]; rw [hl', hx]; exact hn)
      have HFI := Lib.hid (show f i = n by rw [← HF.out]; exact HN1.out)
      have hb := hnv i
      rw [hl'] at hb ⊢
      rw [hx] at dc
      have wx : IntKind.i64.wrap (x % 32768 - 16383) = x % 32768 - 16383 := IntWalk.i64_in _ (by omega)
      have wn : IntKind.i64.wrap (l + (x % 32768 - 16383)) = n := by rw [hn]; exact IntWalk.i64_in _ (by omega)
      have p0 : (0 : Int) ≤ (i : Int) := by omega
      have p1 : (i : Int) < (a1l : Int) := by omega
      have p2 : (i : Int) < 60 := by omega
      have wk : IntKind.i64.wrap ((i : Int) + 1) = ((i + 1 : Nat) : Int) := by rw [IntWalk.i64_in _ (by omega)]; omega
      have B1 : Below wr.heap.size wr (wr.alloc (.cells #[.int .i64 n] 3)) := (Below.refl _ wr).alloc (Nat.le_refl _) _
      have K1 := Blk.new wr 3 #[.int .i64 n]
      have H1 := H.below B1
      have own1 := own_at own (w' := wr.alloc (.cells #[.int .i64 n] 3)) (fun j hj => B1.block j (own.lt j hj).2)
      have hlen : (beAll f 2 i).length = i * 2 := beAll_len f 2 i
      have s1 := B1.size
      have hlt8 := fun k hk => own.lt k hk
      clear hcell hx hl' hn own
      go_upto_region 11 with fail
      go_wp2_with fail
      refine (pen_U16 go (beAll f 2 i) vO _ 1 1 (fun _ => n) _ H1 (by omega) (SliceOf.litP K1) (fun b' off' e => by
        injection e with e
        injection e with e1 e2
        subst e1
        exact ⟨by have := H.blk.lt; omega, fun e => by have := (H.own.lt _ e).2; omega⟩)).mono ?_
      rintro e w3 ⟨rfl, v3, H3, M3⟩
      have hb1 : beAll (fun _ => n) 2 1 = beI (n % 4294967296) 2 := by simp [beAll]
      rw [hb1, show beAll f 2 i ++ beI (n % 4294967296) 2 = beAll f 2 (i + 1) by rw [beAll_succ, HFI.out]] at H3
      generalize wr.alloc (.cells #[.int .i64 n] 3) = wa at *
      have s3 := M3.below.size
      have hgr := H.blk.lt
      have own3 := own_at own1 (w' := w3) (fun j hj => M3.keep j (own1.lt j hj).2 (by have := (own1.lt j hj).1; omega) (hsep j hj))
      have Bw3 : Below go wr w3 := (B1.mono (Nat.le_of_lt hgr)).trans (M3.down (by omega) (Nat.le_refl _) (fun k hk => by have := hvO k hk; omega))
      have hv3 : ∀ k, v3.ownBlock = some k → w2.heap.size ≤ k := fun k hk => by
        rcases M3.row k hk with h | h
        · exact hvO k h
        · omega
      have hsep3 : ∀ k, u8.ownBlock = some k → v3.ownBlock ≠ some k := fun k hk e => by
        rcases M3.row k e with h | h
        · exact hsep k hk h
        · have := (hlt8 k hk).2; omega
      have hlt3 := fun k (e : v3.ownBlock = some k) => (H3.own.lt k e).2
      have hg3 := H3.blk.lt
      have hne8 : u8.ownBlock ≠ some go := fun e => by have := (hlt8 go e).1; omega
      clear H1 own1 K1 M3 hb1
      go_upto_region 12 with fail
      go_wp2_with (at_builtin; refine wpList_append_lies _ rfl _ _ 27 rfl w2.heap.size 3 i0 (.int .i64 0) 1 8 Try.underlying27 hi0 hz0 hz1 hz2 rfl (by decide) _ _ _ rfl (own3.alloc _) ⟨w3.heap.size, 0, none⟩ 1 1 [.int .i64 n] rfl rfl (cell_one_new _ _ _) (by simp [Value.oneCell']) (by omega) (by rw [maxLen_eq]; omega) (by omega) (by simp; omega) _ rfl ?_; intro g2 cap w6 own6 hgrow hat hlt6)
      have hB6 : Below go w3 w6 := ((Below.refl _ w3).alloc (Nat.le_of_lt hg3) _).grown hgrow (by simp; omega) (fun j hj => by have := (hlt8 j hj).1; omega)
      have hfar : ∀ k, k < w3.heap.size → u8.ownBlock ≠ some k → w6.heap[k]? = w3.heap[k]? := fun k hk hn => (hgrow.block k (by simp; omega) (fun e => hn e.symm)).trans (((Below.refl _ w3).alloc (Nat.le_refl _) _).block k hk)
      have H6 : OutAt w6 go (beAll f 2 (i + 1)) v3 := ⟨(hfar go hg3 hne8).trans H3.blk, own_at H3.own (fun j hj => hfar j (hlt3 j hj) (fun e => hsep3 j e hj)), H3.ne⟩
      have hsep6 : ∀ k, (Value.slice (some ⟨g2, 0, none⟩) (i + 1) cap).ownBlock = some k → v3.ownBlock ≠ some k := fun k hk e => by
        have hk' : some g2 = some k := hk
        injection hk' with hk'
        subst hk'
        rcases hat with h | h
        · exact hsep3 g2 h e
        · have := hlt3 g2 e
          simp at h
          omega
      have s6 := hB6.size
      clear hgrow hat own3 H3 H
      go_wp2_with fail
      go_roundw
      case rel =>
        refine ⟨i + 1, v3, by omega, by omega, by go_num, by rw [HN1.out], ?_, H6, hv3, hsep6, B.trans (Bw3.trans hB6), by omega⟩
        rw [wantC_succ, HFI.out]
        exact own6
      case measure => simp only [intOf]; omega
    · have hex : (i : Int) < (a1l : Int) ∧ ¬ (i : Int) < 60 ∨ ¬ (i : Int) < (a1l : Int) := by omega
      clear hgo'
      obtain ⟨wl, hwl⟩ : ∃ wl, wl = wr := ⟨_, rfl⟩
      subst hwl
      obtain ⟨ba, bc, rfl, SW⟩ := SliceOf.of_own own (fun i => .int .i64 (f i)) (fun j hj => wantC_get f i j hj)
      obtain ⟨bs, hbs⟩ : ∃ bs, beAll f 2 i = bs := ⟨_, rfl⟩
      have hbl : bs.length = i * 2 := by rw [← hbs]; exact beAll_len f 2 i
      have HBS := Lib.hid hbs
      rw [hbs] at H
      have hgl := H.blk.lt
      have sB := B.size
      have HBY := Lib.hid (fun (W : World) (q : OutAt W go bs vO) => pen_Bytes go bs vO W q)
      have key : ∀ k, k < i → ∃ rest, bs.drop (k * 2) = beI (f k % 4294967296) 2 ++ rest := fun k hk => by
        obtain ⟨rest, e⟩ := beAll_split f 2 k i hk
        refine ⟨rest, ?_⟩
        rw [← HBS.out, e, ← beAll_len f 2 k, List.drop_left]
      have KEY := Lib.hid key
      clear hbs own hsep hvO key HBS
      have main : ∀ (Q : Ending → World → Prop), True := fun _ => trivial
      obtain ⟨n9, hn9⟩ : ∃ n, nv a1e0 n0 i = n := ⟨_, rfl⟩
      rw [hn9]
      clear hn9 main
      rcases hex with ⟨j1, j2⟩ | j1
      all_goals
        go_wp2_with fail
        refine (HBY.out wl H).mono ?_
        rintro e w5 ⟨rfl, rfl⟩
        go_wp2_with fail
        refine (pen_Of (strOfNums bs) wl).mono ?_
        rintro e w6 ⟨rfl, H6, B6⟩
        obtain ⟨gi, hgi⟩ : ∃ g, wl.heap.size = g := ⟨_, rfl⟩
        rw [hgi] at H6 B6 ⊢
        have HGI := Lib.hid hgi
        have HSW := Lib.hid SW
        have HB6 := Lib.hid B6
        have B06 : Below go w w6 := B.trans (B6.mono (by omega))
        clear hgi j1 SW H
        try clear j2
        go_wp2_with fail
        go_loopw [6, 50] (fun x6 x50 wr => ∃ (k : Nat), k ≤ i ∧ x50 = .int .i64 k ∧ x6 = .int .i64 (nv a1e0 n0 k) ∧ InAt wr gi (strOfNums (bs.drop (k * 2))) 0 ∧ OnlyAt w6 wr gi) (fun _ x50 _ => i - (intOf x50).toNat)
        case atStart => exact ⟨0, by omega, rfl, rfl, by simpa using H6, OnlyAt.refl _ _⟩
        case round =>
          clear H6
          obtain ⟨k, hk, rfl, rfl, H, O⟩ := hrel
          by_cases hlt : k < i
          · obtain ⟨bb, off, rfl, hbb, hcell⟩ := HSW.out.at1 (by omega)
            have hgi := HGI.out
            have hbg : bb ≠ gi := by omega
            have dc : wr.cell? ⟨bb, off + k, none⟩ = some (.int .i64 (f k)) := (World.cell?_of_block (O.2 bb hbg)).trans ((HB6.out.cell (p := ⟨bb, off + k, none⟩) (by rw [← hgi]; exact hbb)).trans (hcell k hlt))
            clear hgi
            obtain ⟨rest, hd⟩ := KEY.out k hlt
            have hq := numS2 (bs.drop (k * 2)) rest (f k % 4294967296) hd
            obtain ⟨s, hs⟩ : ∃ s, strOfNums (bs.drop (k * 2)) = s := ⟨_, rfl⟩
            have hsz : s.size = bs.length - k * 2 := by rw [← hs, strOfNums_size, List.length_drop]
            have hdr : s.extract 2 s.size = strOfNums (bs.drop ((k + 1) * 2)) := by
              rw [← hs, strOfNums_drop, List.drop_drop]
              congr 2
              omega
            rw [hs] at H hq
            obtain ⟨q, hqq⟩ : ∃ q, numS s 2 = q := ⟨_, rfl⟩
            have HU := Lib.hid (show ∀ W, InAt W gi s 0 → Calls Try.prog 24 #[.pointer (some ⟨gi, 0, none⟩)] W fun e' w' => e' = .returned (.int .i64 (q : Int)) ∧ InAt w' gi (strOfNums (bs.drop ((k + 1) * 2))) 0 ∧ OnlyAt W w' gi from fun W hW => by
              have := pen_InU16 gi s 0 W hW (by omega) (by rw [maxLen_eq]; omega)
              rw [hqq, hdr] at this
              exact this)
            rw [hqq] at hq
            obtain ⟨l, hl'⟩ : ∃ l, nv a1e0 n0 k = l := ⟨_, rfl⟩
            obtain ⟨n, hn⟩ : ∃ n, f k = n := ⟨_, rfl⟩
            have hfk : n = l + (a1e0 k % 32768 - 16383) := by rw [← hn, ← HF.out, ← hl']; rfl
            have HN1 := Lib.hid (show nv a1e0 n0 (k + 1) = n by rw [← hn, ← HF.out])
            have hb := hnv k
            rw [hl'] at hb ⊢
            rw [hn] at hq dc
            have hqb : 0 ≤ (q : Int) ∧ (q : Int) < 65536 := by omega
            have wq : IntKind.u16.wrap (q : Int) = (q : Int) := by simp [IntKind.wrap, IntKind.signed, IntKind.bits]; omega
            have HX := Lib.hid (fun W => serial_Extend l q n (by
              have := ext_step l (a1e0 k % 32768 - 16383) (by omega) (by omega) (by omega) (by omega)
              rw [← hfk, ← hq] at this
              exact this) W)
            have p0 : (0 : Int) ≤ (k : Int) := by omega
            have p1 : (k : Int) < (i : Int) := by omega
            have wk : IntKind.i64.wrap ((k : Int) + 1) = ((k + 1 : Nat) : Int) := by rw [IntWalk.i64_in _ (by omega)]; omega
            clear hcell hd hs hsz hdr hqq hl' hn hfk hq
            go_wp2_with fail
            refine (HU.out wr H).mono ?_
            rintro e w7 ⟨rfl, H7, O7⟩
            have O8 := O.trans O7
            go_wp2_with fail
            refine (HX.out w7).mono ?_
            rintro e w8 ⟨rfl, rfl⟩
            go_wp2_with fail
            go_roundw
            case rel => exact ⟨k + 1, by omega, by go_num, by rw [HN1.out], H7, O8⟩
            case measure => simp only [intOf]; omega
          · obtain rfl : k = i := by omega
            have j1 : ¬ (k : Int) < (k : Int) := by omega
            have hem : strOfNums (bs.drop (k * 2)) = ByteArray.empty := by rw [List.drop_of_length_le (by omega)]; rfl
            have HEn := Lib.hid (pen_End gi _ 0 wr H hem)
            have BE : Below w.heap.size w wr := by
              have h1 := O.down (B := go) (by have := HGI.out; omega)
              have h2 := HGO.out
              rw [h2]
              exact B06.trans h1
            clear hem H O
            go_wp2_with fail
            refine HEn.out.mono ?_
            rintro e w7 ⟨rfl, rfl⟩
            go_wp2_with fail
            go_ret
            exact ⟨rfl, BE⟩
end Go.Proofs.Yticagajaphoefaa
