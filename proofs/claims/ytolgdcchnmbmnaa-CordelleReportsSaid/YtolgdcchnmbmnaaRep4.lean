/- Package piece: kind, Check, of what may be; Pack. No condition but the sizes. (Printed by gen_rep4.py.) -/
import Derived.Test.YtolgdcchnmbmnaaRep1
import Derived.Test.YtolgdcchnmbmnaaSub3
import Derived.Test.YtolgdcchnmbmnaaPenRaw
namespace Go.Proofs.Ytolgdcchnmbmnaa
open Go.RowKit BigFrame
attribute [local go_sem ↓] Go.wp_at_zero Go.wp_at_succ

/-- A piece: how many, its kind, its body. -/
structure PcR where
  n : Int
  k : Int
  b : ByteArray
def PcR.cells (x : PcR) : List Value := [.int .i64 x.n, .int .i64 x.k, .string x.b]
theorem PcR.cells_len (x : PcR) : x.cells.length = 3 := rfl
def PcR.Ok (x : PcR) : Prop := 0 ≤ x.n ∧ x.n ≤ 31 ∧ 192 ≤ x.k ∧ x.k ≤ 223 ∧ x.b.size % 4 = 0 ∧ x.b.size ≤ 80000
def zPc : PcR := ⟨0, 0, ⟨#[]⟩⟩
structure PcAt (W : World) (a : Option Addr) (n c : Nat) (l : List PcR) : Prop where
  len : l.length = n
  row : SliceOf W a n c 3 (fun i => (l.getD i zPc).cells)
theorem PcAt.below {W W' : World} {a : Option Addr} {n c : Nat} {l : List PcR} (h : PcAt W a n c l) (hb : Below W.heap.size W W') : PcAt W' a n c l := ⟨h.len, h.row.below hb⟩
theorem PcAt.at_ {W : World} {a : Option Addr} {n c : Nat} {l : List PcR} (h : PcAt W a n c l) (hp : 0 < n) :
    ∃ g off, a = some ⟨g, off, none⟩ ∧ g < W.heap.size ∧ ∀ i, i < n → ∃ x, l[i]? = some x ∧ ∀ j v, x.cells[j]? = some v → W.cell? ⟨g, off + i * 3 + j, none⟩ = some v := by
  obtain ⟨g, off, e, hg, hc⟩ := h.row.2.2 hp
  refine ⟨g, off, e, hg, fun i hi => ⟨l.getD i zPc, ?_, fun j v hv => hc i hi j v hv⟩⟩
  have := h.len
  rw [List.getD_eq_getElem?_getD, List.getElem?_eq_getElem (by omega)]
  rfl
theorem pc_kind (n : Int) (h1 : 192 ≤ n) (h2 : n ≤ 223) (w : World) :
    Calls Try.prog 12 #[.int .i64 n] w fun e w' => e = .returned (.bool true) ∧ w = w' := by
  go_enter Try.func12, Try.ntmps12
  go_wp2_with fail
  go_ret
  exact ⟨rfl, rfl⟩
set_option maxHeartbeats 2000000 in
theorem pc_Check (xn xk : Int) (xb : ByteArray) (w : World) (h : PcR.Ok ⟨xn, xk, xb⟩) :
    Calls Try.prog 4 #[.agg #[.int .i64 xn, .int .i64 xk, .string xb]] w fun e w' => e = .returned (.int .i64 0) ∧ Below w.heap.size w w' := by
  obtain ⟨h1, h2, h3, h4, h5, h6⟩ := h
  simp only at *
  have HK := Lib.hid (fun W => pc_kind xk h3 h4 W)
  obtain ⟨z, hz⟩ : ∃ z, xb.size = z := ⟨_, rfl⟩
  rw [hz] at h5 h6
  have r1 : ((z : Int) % 4 == 0) = true := by simp; omega
  have r2 : ((z : Int) % 4 != 0) = false := by simp; omega
  have r3 : (z : Int) ≤ 262140 := by omega
  have K := Blk.new w 25 #[.int .i64 xn, .int .i64 xk, .string xb]
  have B : Below w.heap.size w (w.alloc (.cells #[.int .i64 xn, .int .i64 xk, .string xb] 25)) := (Below.refl _ w).alloc (Nat.le_refl _) _
  clear h3 h4 h5 h6
  go_enter Try.func4, Try.ntmps4
  go_upto_region 1 with fail
  generalize w.alloc (.cells #[.int .i64 xn, .int .i64 xk, .string xb] 25) = w1 at *
  have c1 := K.cell
  simp at c1
  go_wp2_with (go_at_call 12; ((with_reducible refine (HK.out _).mono ?_); rintro e w' ⟨rfl, rfl⟩))
  go_ret
  exact ⟨rfl, B⟩
/-- As bytes. -/
def encP (q kk m : Int) (sb : ByteArray) : List (List Int) := [beAll (fun i => [q, kk].getD i 0) 1 2, beAll (fun i => [m].getD i 0) 2 1, rawAll (fun i => [sb].getD i ByteArray.empty) 1]
structure Gpc_write (g : Nat) (q : Nat) (v : Value) : Prop where
  l0 : q = 5 → ∃ x, v = .slice (some ⟨x, 0, none⟩) 2 2
  c0 : q = 6 → v = .pointer (some ⟨g, 0, none⟩)
  l1 : q = 11 → ∃ x, v = .slice (some ⟨x, 0, none⟩) 1 1
  c1 : q = 12 → v = .pointer (some ⟨g, 0, none⟩)
  l2 : q = 15 → ∃ x, v = .slice (some ⟨x, 0, none⟩) 1 1
  c2 : q = 16 → v = .pointer (some ⟨g, 0, none⟩)
def bytP (x : PcR) : List Int := (encP (128 + x.n) x.k (x.b.size / 4 : Nat) x.b).flatMap id
theorem or128 (n : Int) (h0 : 0 ≤ n) (h1 : n ≤ 31) : bits .or .i64 128 n = 128 + n := by
  have h : ∀ k : Fin 32, bits .or .i64 128 ((k.1 : Nat) : Int) = 128 + ((k.1 : Nat) : Int) := by decide
  have := h ⟨n.toNat, by omega⟩
  simp only at this
  rw [Int.toNat_of_nonneg h0] at this
  exact this
set_option maxRecDepth 8000 in
set_option maxHeartbeats 16000000 in
theorem pc_Pack (la : Option Addr) (n c : Nat) (l : List PcR) (w : World) (S : PcAt w la n c l) (hok : ∀ x ∈ l, x.Ok) (hn : n ≤ 1000) (htot : (l.flatMap bytP).length ≤ 80000) :
    Calls Try.prog 8 #[.slice la n c] w fun e w' => e = .returned (.string (strOfNums (l.flatMap bytP))) ∧ Below w.heap.size w w' := by
  have HL := Lib.hid S.len
  have HOK := Lib.hid hok
  have HT := Lib.hid htot
  clear hok htot
  have K9 := Blk.new w 52 #[.slice none 0 0]
  have B9 : Below w.heap.size w (w.alloc (.cells #[.slice none 0 0] 52)) := (Below.refl _ w).alloc (Nat.le_refl _) _
  have O4 : OutAt (w.alloc (.cells #[.slice none 0 0] 52)) w.heap.size [] (.slice none 0 0) := ⟨K9, ⟨rfl, .inl ⟨rfl, rfl⟩⟩, (fun e => by cases e)⟩
  go_enter Try.func8, Try.ntmps8
  go_upto_region 2 with fail
  obtain ⟨g, hg⟩ : ∃ g, w.heap.size = g := ⟨_, rfl⟩
  have gw : w.heap.size ≤ g := by omega
  rw [hg] at O4 ⊢
  clear K9 hg
  generalize w.alloc (.cells #[.slice none 0 0] 52) = w4 at *
  go_wp2_with fail
  go_loopw [8] (fun x wr => ∃ (k : Nat) (v : Value), k ≤ n ∧ x = .int .i64 k ∧ OutAt wr g ((l.take k).flatMap bytP) v ∧ (∀ k, v.ownBlock = some k → w.heap.size ≤ k) ∧ Below w.heap.size w wr) (fun x _ => n - (intOf x).toNat)
  case atStart => exact ⟨0, _, by omega, rfl, by simpa using O4, (fun k e => by cases e), B9⟩
  case round =>
    clear O4 B9
    obtain ⟨k, v, hk, rfl, O, hv, B⟩ := hrel
    by_cases hlt : k < n
    · obtain ⟨ga, off, rfl, hga, hcell⟩ := S.at_ (by omega)
      obtain ⟨x, hx, hcl⟩ := hcell k hlt
      have hox := HOK.out x (List.mem_of_getElem? hx)
      have HFS := Lib.hid (flat_snoc bytP l k _ hx)
      have htk : ((l.take (k + 1)).flatMap bytP).length ≤ 80000 := by
        have h := HT.out
        rw [← List.take_append_drop (k + 1) l, List.flatMap_append, List.length_append] at h
        omega
      rw [HFS.out, List.length_append] at htk
      obtain ⟨xn, xk, xb⟩ := x
      have e0 := (B.cell (p := ⟨ga, off + k * 3, none⟩) hga).trans (hcl 0 _ rfl)
      have e1 := (B.cell (p := ⟨ga, off + k * 3 + 1, none⟩) hga).trans (hcl 1 _ rfl)
      have e2 := (B.cell (p := ⟨ga, off + k * 3 + 2, none⟩) hga).trans (hcl 2 _ rfl)
      simp only at e0 e1 e2
      have HCK := Lib.hid (fun W => pc_Check xn xk xb W hox)
      obtain ⟨q, hq⟩ : ∃ q, 128 + xn = q := ⟨_, rfl⟩
      obtain ⟨m, hm⟩ : ∃ m : Int, (xb.size : Int) / 4 = m := ⟨_, rfl⟩
      have hor : bits .or .i64 128 xn = q := by rw [or128 xn hox.1 hox.2.1]; exact hq
      obtain ⟨PP, hPP⟩ : ∃ P, encP q xk m xb = P := ⟨_, rfl⟩
      have hbp : PP.flatMap id = bytP ⟨xn, xk, xb⟩ := by rw [← hPP, ← hq, ← hm]; unfold bytP; rw [show ((xb.size / 4 : Nat) : Int) = (xb.size : Int) / 4 by omega]
      rw [← hbp] at htk
      have HBP := Lib.hid hbp
      obtain ⟨bs, hbs⟩ : ∃ bs, (l.take k).flatMap bytP = bs := ⟨_, rfl⟩
      rw [hbs] at htk O
      have hp0 : PP[0]? = some (beAll (fun i => [q, xk].getD i 0) 1 2) := by rw [← hPP]; rfl
      have hp1 : PP[1]? = some (beAll (fun i => [m].getD i 0) 2 1) := by rw [← hPP]; rfl
      have hp2 : PP[2]? = some (rawAll (fun i => [xb].getD i ByteArray.empty) 1) := by rw [← hPP]; rfl
      have hrl : (rawAll (fun i => [xb].getD i ByteArray.empty) 1).length ≤ 80000 := by
        have : rawAll (fun i => [xb].getD i ByteArray.empty) 1 = bytesI xb := by unfold rawAll; simp
        rw [this, bytesI_len]
        exact hox.2.2.2.2.2
      have HRL := Lib.hid hrl
      have HS := fun k => stL_len bs PP k
      have hPl : bs.length + (PP.flatMap id).length ≤ 80000 := htk
      have hfin : stL bs PP 3 = bs ++ PP.flatMap id := by rw [← hPP]; rfl
      have hbsz : xb.size ≤ 80000 := hox.2.2.2.2.2
      have HBS := Lib.hid hbs
      have i0 : (0 : Int) ≤ (k : Int) := by omega
      have i1 : (k : Int) < (n : Int) := by omega
      clear hcell hcl hx hox htk hbp hPP hrl hq hbs
      go_upto_region 5 with fail
      have k4 := Blk.new wr 25 #[.int .i64 xn, .int .i64 xk, .string xb]
      have B4 : Below wr.heap.size wr (wr.alloc (.cells #[.int .i64 xn, .int .i64 xk, .string xb] 25)) := (Below.refl _ wr).alloc (Nat.le_refl _) _
      have O5 := O.below B4
      have B5 := below_then B B4 (Nat.le_refl _)
      generalize wr.alloc (.cells #[.int .i64 xn, .int .i64 xk, .string xb] 25) = w5' at *
      generalize wr.heap.size = g4 at *
      clear e0 e1 e2 B4 B O
      have c4 := k4.cell
      simp at c4
      go_wp2_with fail
      refine (HCK.out _).mono ?_
      rintro e w1 ⟨rfl, hb6⟩
      have K := k4.below hb6 k4.lt
      have H1 := O5.below hb6
      have B6 := below_then B5 hb6 (Nat.le_refl _)
      have sz6 := B6.size
      have M1 : MovedP w1 w1 g v v := MovedP.refl _ _ _
      clear hb6 c4 k4 B5 O5 HCK
      have c1 := K.cell
      simp at c1
      go_upto_region 7 with fail
      have H1' : OutAt w1 g (stL bs PP 0) v := by unfold stL; simpa using H1
      have E0 := fun (gw : UWF (PenW w1 g v (stL bs PP) [6, 12, 16] [(5, 3, [.int .i64 q, .int .i64 xk]), (11, 3, [.int .i64 m]), (15, 9, [.string xb])])) => (gw.holds.blk H1' K (by decide) (by decide)).cell
      simp at E0
      have hne : Nonempty (UWF (PenW w1 g v (stL bs PP) [6, 12, 16] [(5, 3, [.int .i64 q, .int .i64 xk]), (11, 3, [.int .i64 m]), (15, 9, [.string xb])])) := PenW.ne H1'
      have hPL := Lib.hid hPl
      have HPS := Lib.hid HS
      clear c1 hPl HS
      refine wp_region_free [(0, 5, some 5), (6, 0, some 6), (7, 4, some 11), (12, 0, some 12), (13, 2, some 15), (16, 0, some 16), (17, 0, none)] (PenW w1 g v (stL bs PP) [6, 12, 16] [(5, 3, [.int .i64 q, .int .i64 xk]), (11, 3, [.int .i64 m]), (15, 9, [.string xb])]) (Gpc_write g) (fun q => if q = 5 then .slice (some ⟨0, 0, none⟩) 2 2 else if q = 11 then .slice (some ⟨0, 0, none⟩) 1 1 else if q = 15 then .slice (some ⟨0, 0, none⟩) 1 1 else .pointer (some ⟨g, 0, none⟩)) (by kernel_rfl) (by kernel_rfl) ?_ ?_ ?_ ?_
      · intro z hz LL G W hC
        simp [moversI] at hz
        exact hC.quiet (by simp; omega) (by simp; omega)
      · exact PenW.start H1' _
      · intro z
        exact ⟨fun e => by subst e; exact ⟨0, rfl⟩, fun e => by subst e; rfl, fun e => by subst e; exact ⟨0, rfl⟩, fun e => by subst e; rfl, fun e => by subst e; exact ⟨0, rfl⟩, fun e => by subst e; rfl⟩
      · intro G hG
        obtain ⟨x0, g5⟩ := (hG 5).l0 rfl
        have k6 := (hG 6).c0 rfl
        obtain ⟨x1, g11⟩ := (hG 11).l1 rfl
        have k12 := (hG 12).c1 rfl
        obtain ⟨x2, g15⟩ := (hG 15).l2 rfl
        have k16 := (hG 16).c2 rfl
        simp only [walkF, List.drop_zero, List.drop_succ_cons, List.take_succ_cons, List.take_zero, List.toList_toArray]; (repeat (go_big_quiet_step (fail))); refine wpQuiet_nil ?_
        refine ⟨_, _, _, _, _, _, rfl, .inl ⟨rfl, ?_, ?_⟩⟩
        · intro LL W hL hA hC
          refine ⟨?_⟩; go_simp; simp only [movesToUpon]
          exact ⟨⟨fun _ => ⟨_, rfl⟩, (fun e => by cases e), (fun e => by cases e), (fun e => by cases e), (fun e => by cases e), (fun e => by cases e)⟩, hC.made (n := 2) (by simp) (by simp) (by simp) rfl⟩
        · intro K' hK'; dsimp only at hK'; rw [g5]; go_big_quiet_op; go_big_quiet_on; (repeat (go_big_quiet_step (fail))); refine wpQuiet_nil ?_
          refine ⟨_, _, _, _, _, _, rfl, .inl ⟨rfl, ?_, ?_⟩⟩
          · intro LL W hL hA hC
            obtain ⟨v1, O1, M0⟩ := hC.at 0 6 rfl hL (fun m' e _ => absurd e (by omega))
            have KL := hC.at_lit (m := 5) (t := 3) (cs := [.int .i64 q, .int .i64 xk]) (by simp) (hA 5 (by kernel_rfl)) g5
            refine ⟨?_⟩; go_simp; simp only [movesToUpon]
            refine (pen_U8 g _ v1 _ 2 2 (fun i => [q, xk].getD i 0) W O1 (by have h1 := HPS.out 0; have h2 := hPL.out; omega) (SliceOf.of_blk (n := 2) KL (fun i => .int .i64 ([q, xk].getD i 0)) rfl (by omega) (fun i hi => by match i, hi with
                | 0, _ => rfl
                | 1, _ => rfl
                )) (fun b off e => by injection e with e; injection e with e1 e2; subst e1; exact ⟨Blk.ne_ KL O1.blk (by decide), own_ne_blk O1.own KL (by decide)⟩)).mono ?_
            rintro e w' ⟨rfl, v2, O2, M2⟩
            refine ⟨_, rfl, ⟨(fun e => by cases e), fun _ => rfl, (fun e => by cases e), (fun e => by cases e), (fun e => by cases e), (fun e => by cases e)⟩, hC.call (by decide) 0 6 rfl hL (fun m' e _ => absurd e (by omega)) (fun a ha => by simp at ha; rcases ha with rfl | rfl | rfl <;> simp) O1 M0 (by rw [stL_succ _ _ _ _ hp0]; exact O2) M2 _⟩
          · intro K' hK'; dsimp only at hK'; rw [k6]; go_big_quiet_op; go_big_quiet_on; (repeat (go_big_quiet_step (fail))); refine wpQuiet_nil ?_
            refine ⟨_, _, _, _, _, _, rfl, .inl ⟨rfl, ?_, ?_⟩⟩
            · intro LL W hL hA hC
              refine ⟨?_⟩; go_simp; simp only [movesToUpon]
              exact ⟨⟨(fun e => by cases e), (fun e => by cases e), fun _ => ⟨_, rfl⟩, (fun e => by cases e), (fun e => by cases e), (fun e => by cases e)⟩, hC.made (n := 1) (by simp) (by simp) (by simp) rfl⟩
            · intro K' hK'; dsimp only at hK'; rw [g11]; go_big_quiet_op; go_big_quiet_on; (repeat (go_big_quiet_step (fail))); refine wpQuiet_nil ?_
              refine ⟨_, _, _, _, _, _, rfl, .inl ⟨rfl, ?_, ?_⟩⟩
              · intro LL W hL hA hC
                obtain ⟨v1, O1, M0⟩ := hC.at 1 12 rfl hL (fun m' _ e => by simp at e; subst e; exact hA 6 (by kernel_rfl))
                have KL := hC.at_lit (m := 11) (t := 3) (cs := [.int .i64 m]) (by simp) (hA 11 (by kernel_rfl)) g11
                refine ⟨?_⟩; go_simp; simp only [movesToUpon]
                refine (pen_U16 g _ v1 _ 1 1 (fun i => [m].getD i 0) W O1 (by have h1 := HPS.out 1; have h2 := hPL.out; omega) (SliceOf.of_blk (n := 1) KL (fun i => .int .i64 ([m].getD i 0)) rfl (by omega) (fun i hi => by match i, hi with
                    | 0, _ => rfl
                    )) (fun b off e => by injection e with e; injection e with e1 e2; subst e1; exact ⟨Blk.ne_ KL O1.blk (by decide), own_ne_blk O1.own KL (by decide)⟩)).mono ?_
                rintro e w' ⟨rfl, v2, O2, M2⟩
                refine ⟨_, rfl, ⟨(fun e => by cases e), (fun e => by cases e), (fun e => by cases e), fun _ => rfl, (fun e => by cases e), (fun e => by cases e)⟩, hC.call (by decide) 1 12 rfl hL (fun m' _ e => by simp at e; subst e; exact hA 6 (by kernel_rfl)) (fun a ha => by simp at ha; rcases ha with rfl | rfl | rfl <;> simp) O1 M0 (by rw [stL_succ _ _ _ _ hp1]; exact O2) M2 _⟩
              · intro K' hK'; dsimp only at hK'; rw [k12]; go_big_quiet_op; go_big_quiet_on; (repeat (go_big_quiet_step (fail))); refine wpQuiet_nil ?_
                refine ⟨_, _, _, _, _, _, rfl, .inl ⟨rfl, ?_, ?_⟩⟩
                · intro LL W hL hA hC
                  refine ⟨?_⟩; go_simp; simp only [movesToUpon]
                  exact ⟨⟨(fun e => by cases e), (fun e => by cases e), (fun e => by cases e), (fun e => by cases e), fun _ => ⟨_, rfl⟩, (fun e => by cases e)⟩, hC.made (n := 1) (by simp) (by simp) (by simp) rfl⟩
                · intro K' hK'; dsimp only at hK'; rw [g15]; go_big_quiet_op; go_big_quiet_on; (repeat (go_big_quiet_step (fail))); refine wpQuiet_nil ?_
                  refine ⟨_, _, _, _, _, _, rfl, .inl ⟨rfl, ?_, ?_⟩⟩
                  · intro LL W hL hA hC
                    obtain ⟨v1, O1, M0⟩ := hC.at 2 16 rfl hL (fun m' _ e => by simp at e; subst e; exact hA 12 (by kernel_rfl))
                    have KL := hC.at_lit (m := 15) (t := 9) (cs := [.string xb]) (by simp) (hA 15 (by kernel_rfl)) g15
                    refine ⟨?_⟩; go_simp; simp only [movesToUpon]
                    refine (pen_OutRaw g _ v1 _ 1 1 (fun i => [xb].getD i ByteArray.empty) W O1 (by have h1 := HPS.out 2; have h2 := hPL.out; have h3 := HRL.out; omega) (SliceOf.of_blk (n := 1) KL (fun i => .string ([xb].getD i ByteArray.empty)) rfl (by omega) (fun i hi => by match i, hi with
                        | 0, _ => rfl
                        )) (fun b off e => by injection e with e; injection e with e1 e2; subst e1; exact ⟨Blk.ne_ KL O1.blk (by decide), own_ne_blk O1.own KL (by decide)⟩)).mono ?_
                    rintro e w' ⟨rfl, v2, O2, M2⟩
                    refine ⟨_, rfl, ⟨(fun e => by cases e), (fun e => by cases e), (fun e => by cases e), (fun e => by cases e), (fun e => by cases e), fun _ => rfl⟩, hC.call (by decide) 2 16 rfl hL (fun m' _ e => by simp at e; subst e; exact hA 12 (by kernel_rfl)) (fun a ha => by simp at ha; rcases ha with rfl | rfl | rfl <;> simp) O1 M0 (by rw [stL_succ _ _ _ _ hp2]; exact O2) M2 _⟩
                  · intro K' hK'; dsimp only at hK'; rw [k16]; go_big_quiet_op; go_big_quiet_on; (repeat (go_big_quiet_step (fail))); refine wpQuiet_nil ?_
                    intro LL w9 hL hC
                    obtain ⟨v9, O9, M9⟩ := hC.all (fun m hm => by simp at hm; exact hL m (by rcases hm with rfl | rfl | rfl <;> decide))
                    rw [show ([6, 12, 16] : List Nat).length = 3 from rfl, hfin] at O9
                    have M19 := M1.trans M9
                    clear hC hL hG E0 hne
                    have B09 : Below w.heap.size w w9 := B6.trans (M19.down sz6 gw hv)
                    have hv9 : ∀ k, v9.ownBlock = some k → w.heap.size ≤ k := M19.base sz6 hv
                    have O10 : OutAt w9 g ((l.take (k + 1)).flatMap bytP) v9 := by rw [HFS.out, ← HBP.out, HBS.out]; exact O9
                    clear O9 M9 M19 B6
                    go_wp2_with fail
                    go_roundw
                    case rel => exact ⟨k + 1, v9, by omega, by go_num, O10, hv9, B09⟩
                    case measure => simp only [intOf]; omega
    · obtain rfl : k = n := by omega
      have hall : l.take k = l := by have := HL.out; rw [← this]; exact List.take_length
      rw [hall] at O
      have HPB := Lib.hid (pen_Bytes g _ v wr O)
      clear hall O
      go_wp2_with fail
      refine HPB.out.mono ?_
      rintro e w7 ⟨rfl, rfl⟩
      go_wp2_with fail
      go_ret
      exact ⟨rfl, B⟩
end Go.Proofs.Ytolgdcchnmbmnaa
