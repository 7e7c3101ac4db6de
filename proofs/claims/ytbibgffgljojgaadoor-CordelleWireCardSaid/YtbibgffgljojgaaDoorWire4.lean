/- Package rtp: Parse, of what Pack wrote. No condition but the sizes. (Printed by gen_wire4.py.) -/
import Derived.Test.YtbibgffgljojgaaDoorWire2
import Derived.Test.YtbibgffgljojgaaDoorWire3
import Derived.Test.YtbibgffgljojgaaDoorPhR
namespace Go.Proofs.YtbibgffgljojgaaDoor
open Go.RowKit BigFrame
attribute [local go_sem ↓] Go.wp_at_zero Go.wp_at_succ

def restK (hx : Bool) (pf em : Int) (ex da : ByteArray) : List Int := if hx then beI pf 2 ++ (beI em 2 ++ (bytesI ex ++ bytesI da)) else bytesI da
theorem raw2 (da : ByteArray) : rawAll (fun i => [da, ByteArray.empty].getD i ByteArray.empty) 2 = bytesI da := by
  unfold rawAll
  have h0 : bytesI ByteArray.empty = [] := rfl
  simp [List.range_succ, h0]
theorem bytK_eq (mk : Bool) (kd sq tm sc : Int) (on : Nat) (hx : Bool) (pf : Int) (ex da : ByteArray) (f : Nat → Int) (q0 q1 em : Int) (h0 : firstP on hx = q0) (h1 : secondP mk kd = q1) (h2 : (ex.size : Int) / 4 = em) (b0 : 0 ≤ q0 ∧ q0 < 4294967296) (b1 : 0 ≤ q1 ∧ q1 < 4294967296) (b2 : 0 ≤ em ∧ em < 4294967296) (b3 : 0 ≤ sq ∧ sq < 4294967296) (b4 : 0 ≤ pf ∧ pf < 4294967296) :
    bytK mk kd sq tm sc f on hx pf ex da = beI q0 1 ++ (beI q1 1 ++ (beI sq 2 ++ (beI tm 4 ++ (beI sc 4 ++ (be4All f on ++ restK hx pf em ex da))))) := by
  unfold bytK headK extK restK
  rw [h0, h1, h2, raw2]
  have e0 : beAll (fun i => [q0, q1].getD i 0) 1 2 = beI q0 1 ++ beI q1 1 := by
    unfold beAll
    simp [List.range_succ, Int.emod_eq_of_lt b0.1 b0.2, Int.emod_eq_of_lt b1.1 b1.2]
  have e1 : beAll (fun i => [sq].getD i 0) 2 1 = beI sq 2 := by
    unfold beAll
    simp [List.range_succ, Int.emod_eq_of_lt b3.1 b3.2]
  have e2 : be4All (fun i => [tm, sc].getD i 0) 2 = beI tm 4 ++ beI sc 4 := by
    unfold be4All
    simp [List.range_succ]
  have e3 : beAll (fun i => [pf, em].getD i 0) 2 2 = beI pf 2 ++ beI em 2 := by
    unfold beAll
    simp [List.range_succ, Int.emod_eq_of_lt b4.1 b4.2, Int.emod_eq_of_lt b2.1 b2.2]
  have e4 : rawAll (fun i => [ex].getD i ByteArray.empty) 1 = bytesI ex := by unfold rawAll; simp
  rw [e0, e1, e2, e3, e4]
  cases hx <;> simp
theorem be4_next (f : Nat → Int) (k n : Nat) (h : k < n) : be4All (fun i => f (k + i)) (n - k) = beI (f k) 4 ++ be4All (fun i => f (k + 1 + i)) (n - (k + 1)) := by
  obtain ⟨m, hm⟩ : ∃ m, n - k = m + 1 := ⟨n - k - 1, by omega⟩
  have hm2 : n - (k + 1) = m := by omega
  rw [hm, hm2]
  unfold be4All
  rw [List.range_succ_eq_map, List.flatMap_cons, List.flatMap_map]
  have e : (fun a => beI (f (k + Nat.succ a)) 4) = (fun i => beI (f (k + 1 + i)) 4) := by
    funext i
    rw [show k + Nat.succ i = k + 1 + i by omega]
  simp only [Nat.add_zero]
  rw [e]
theorem and_first : ∀ k : Fin 16, (bits .and .i64 (128 + ((k.1 : Nat) : Int)) 192 = 128 ∧ bits .and .i64 (128 + ((k.1 : Nat) : Int)) 16 = 0 ∧ bits .and .i64 (128 + ((k.1 : Nat) : Int)) 15 = ((k.1 : Nat) : Int) ∧ bits .and .i64 (128 + ((k.1 : Nat) : Int)) 32 = 0) ∧ (bits .and .i64 (144 + ((k.1 : Nat) : Int)) 192 = 128 ∧ bits .and .i64 (144 + ((k.1 : Nat) : Int)) 16 = 16 ∧ bits .and .i64 (144 + ((k.1 : Nat) : Int)) 15 = ((k.1 : Nat) : Int) ∧ bits .and .i64 (144 + ((k.1 : Nat) : Int)) 32 = 0) := by decide
theorem and_second : ∀ k : Fin 128, (bits .and .i64 ((k.1 : Nat) : Int) 128 = 0 ∧ bits .and .i64 ((k.1 : Nat) : Int) 127 = ((k.1 : Nat) : Int)) ∧ (bits .and .i64 (((k.1 : Nat) : Int) + 128) 128 = 128 ∧ bits .and .i64 (((k.1 : Nat) : Int) + 128) 127 = ((k.1 : Nat) : Int)) := by decide
theorem first_bits (on : Nat) (hx : Bool) (h : on ≤ 15) (q : Int) (hq : firstP on hx = q) : bits .and .i64 q 192 = 128 ∧ (∃ x, bits .and .i64 q 16 = x ∧ (x != 0) = hx) ∧ bits .and .i64 q 15 = (on : Int) ∧ bits .and .i64 q 32 = 0 := by
  obtain ⟨⟨a1, a2, a3, a4⟩, ⟨b1, b2, b3, b4⟩⟩ := and_first ⟨on, by omega⟩
  simp only at a1 a2 a3 a4 b1 b2 b3 b4
  cases hx
  · have e : q = 128 + (on : Int) := by rw [← hq]; unfold firstP; simp
    rw [e]
    exact ⟨a1, ⟨_, a2, rfl⟩, a3, a4⟩
  · have e : q = 144 + (on : Int) := by rw [← hq]; unfold firstP; simp; omega
    rw [e]
    exact ⟨b1, ⟨_, b2, rfl⟩, b3, b4⟩
theorem second_bits (mk : Bool) (kd : Int) (h0 : 0 ≤ kd) (h1 : kd ≤ 127) (q : Int) (hq : secondP mk kd = q) : (∃ x, bits .and .i64 q 128 = x ∧ (x != 0) = mk) ∧ bits .and .i64 q 127 = kd := by
  obtain ⟨⟨a1, a2⟩, ⟨b1, b2⟩⟩ := and_second ⟨kd.toNat, by omega⟩
  simp only at a1 a2 b1 b2
  rw [Int.toNat_of_nonneg h0] at a1 a2 b1 b2
  cases mk
  · have e : q = kd := by rw [← hq]; unfold secondP; simp
    rw [e]
    exact ⟨⟨_, a1, rfl⟩, a2⟩
  · have e : q = kd + 128 := by rw [← hq]; unfold secondP; simp
    rw [e]
    exact ⟨⟨_, b1, rfl⟩, b2⟩
/-- While one other source is read and put behind the others. -/
def StO (w0 : World) (B gi gp gr m : Nat) (tl : List Int) (mk : Bool) (kd sq tm sc : Int) (hx : Bool) (xs : List Value) (x : Int) (k : Nat) (G : Nat → Value) (W : World) : Prop :=
  match k with
  | 0 => W = w0.drew
  | 1 => InZ W gi tl ∧ OldBut w0 W gi
  | 2 => ∃ W2, InZ W2 gi tl ∧ OldBut w0 W2 gi ∧ W = W2.alloc (.cells ([.int .u32 x] : List Value).toArray 23) ∧ G 5 = .slice (some ⟨W2.heap.size, 0, none⟩) 1 1
  | 3 => ∃ g4 cap, G 6 = .slice (some ⟨g4, 0, none⟩) (m + 1) cap ∧ W.ownsRow B 23 1 (.slice (some ⟨g4, 0, none⟩) (m + 1) cap) (m + 1) (xs ++ [.int .u32 x]) ∧ InZ W gi tl ∧ Below B w0 W ∧ W.heap[gp]? = w0.heap[gp]? ∧ W.heap[gr]? = w0.heap[gr]?
  | 4 => ∃ g4 cap, G 6 = .slice (some ⟨g4, 0, none⟩) (m + 1) cap ∧ W.ownsRow B 23 1 (.slice (some ⟨g4, 0, none⟩) (m + 1) cap) (m + 1) (xs ++ [.int .u32 x]) ∧ InZ W gi tl ∧ Below B w0 W ∧ Blk W gp 28 #[.bool mk, .int .i64 kd, .int .u16 sq, .int .u32 tm, .int .u32 sc, .slice (some ⟨g4, 0, none⟩) (m + 1) cap, .bool hx, .int .i64 0, .string ⟨#[]⟩, .string ⟨#[]⟩, .int .i64 0] ∧ W.heap[gr]? = w0.heap[gr]?
  | _ => False
structure GO (m : Nat) (sv : Value) (x : Int) (q : Nat) (v : Value) : Prop where
  a2 : q = 2 → v = sv
  a4 : q = 4 → v = .int .u32 x
  a5 : q = 5 → ∃ g, v = .slice (some ⟨g, 0, none⟩) 1 1
  a6 : q = 6 → ∃ g cap, v = .slice (some ⟨g, 0, none⟩) (m + 1) cap
section
variable {w0 W : World} {B gi gp gr m : Nat} {tl : List Int} {mk : Bool} {kd sq tm sc : Int} {hx : Bool} {xs : List Value} {x : Int} {G : Nat → Value} {k : Nat}
theorem StO.old (h : StO w0 B gi gp gr m tl mk kd sq tm sc hx xs x k G W) (hk : k ≤ 3) (hn : gp ≠ gi) (hl : gp < w0.heap.size) : W.heap[gp]? = w0.heap[gp]? := by
  match k, hk with
  | 0, _ => rw [show W = w0.drew from h]; rfl
  | 1, _ => exact h.2.keep gp hl hn
  | 2, _ =>
    obtain ⟨W2, _, hO, rfl, _⟩ := h
    exact (Below.heap_alloc _ _ _ (by have := hO.below.size; omega)).trans (hO.keep gp hl hn)
  | 3, _ =>
    obtain ⟨g4, cap, _, _, _, _, h1, _⟩ := h
    exact h1
theorem StO.up (k : Nat) (G : Nat → Value) (W : World) (u : Value) (h : StO w0 B gi gp gr m tl mk kd sq tm sc hx xs x k G W) : StO w0 B gi gp gr m tl mk kd sq tm sc hx xs x k (upF G 2 u) W := by
  have e1 : upF G 2 u 5 = G 5 := upF_ne _ _ (by decide)
  have e2 : upF G 2 u 6 = G 6 := upF_ne _ _ (by decide)
  unfold StO at h ⊢
  rw [e1, e2]
  exact h
theorem StO.top (h : StO w0 B gi gp gr m tl mk kd sq tm sc hx xs x k G W) : k ≤ 4 := by
  unfold StO at h
  split at h
  all_goals first | exact h.elim | omega
end
set_option maxRecDepth 20000 in
set_option maxHeartbeats 16000000 in
theorem rtp_Parse (mk : Bool) (kd sq tm sc : Int) (on : Nat) (hx : Bool) (pf : Int) (ex da : ByteArray) (f : Nat → Int) (t : ByteArray) (ht : bytesI t = bytK mk kd sq tm sc f on hx pf ex da) (hz : mayH kd pf on hx ex = true) (he : ex.size ≤ 1000) (hda : da.size ≤ 1000) (hsq : 0 ≤ sq ∧ sq < 65536) (htm : 0 ≤ tm ∧ tm < 4294967296) (hsc : 0 ≤ sc ∧ sc < 4294967296) (hf : ∀ i, i < on → 0 ≤ f i ∧ f i < 4294967296) (w : World) :
    Calls Tryd.prog 11 #[.string t] w fun e w' => ∃ a c, e = .returned (.tuple #[.agg #[.bool mk, .int .i64 kd, .int .u16 sq, .int .u32 tm, .int .u32 sc, .slice a on c, .bool hx, .int .i64 pf, .string ex, .string da, .int .i64 0], .int .i64 0]) ∧ w'.ownsRow w.heap.size 23 1 (.slice a on c) on (rowL on (fun i => .int .u32 (f i))) ∧ Below w.heap.size w w' := by
  obtain ⟨i0, hi0, hz0, hz1, hz2⟩ := info_parts (show (Tryd.prog.info? 23).map (fun i => (i.zero, i.size, i.bytes)) = some (some (.int .u32 0), 1, 4) by kernel_rfl)
  unfold mayH at hz
  simp at hz
  obtain ⟨hxx, ⟨hk0, hk1⟩, hon, ⟨hp0, hp1⟩, hx4⟩ := hz
  obtain ⟨q0, hq0⟩ : ∃ q, firstP on hx = q := ⟨_, rfl⟩
  obtain ⟨q1, hq1⟩ : ∃ q, secondP mk kd = q := ⟨_, rfl⟩
  obtain ⟨em, hem⟩ : ∃ q, (ex.size : Int) / 4 = q := ⟨_, rfl⟩
  have b0 : 0 ≤ q0 ∧ q0 ≤ 255 := by rw [← hq0]; unfold firstP; split <;> omega
  have b1 : 0 ≤ q1 ∧ q1 ≤ 255 := by rw [← hq1]; unfold secondP; split <;> omega
  obtain ⟨x192, ⟨x16, x16', x16b⟩, x15, x32⟩ := first_bits on hx hon q0 hq0
  obtain ⟨⟨x128, x128', x128b⟩, x127⟩ := second_bits mk kd hk0 hk1 q1 hq1
  have hL := bytK_eq mk kd sq tm sc on hx pf ex da f q0 q1 em hq0 hq1 hem (by omega) (by omega) (by omega) (by omega) (by omega)
  rw [hL] at ht
  have hrk : (restK hx pf em ex da).length ≤ 2010 := by
    unfold restK
    split
    · simp only [List.length_append, beI_len, bytesI_len]; omega
    · rw [bytesI_len]; omega
  obtain ⟨R6, hR6⟩ : ∃ R, restK hx pf em ex da = R := ⟨_, rfl⟩
  rw [hR6] at ht hrk
  have HR6 := Lib.hid hR6
  have hb4 : (be4All f on).length = on * 4 := be4All_len _ _
  obtain ⟨RO, hRO⟩ : ∃ R, be4All f on ++ R6 = R := ⟨_, rfl⟩
  have lRO : RO.length ≤ 3000 := by rw [← hRO, List.length_append, hb4]; omega
  rw [hRO] at ht
  obtain ⟨R5, hR5⟩ : ∃ R, beI sc 4 ++ RO = R := ⟨_, rfl⟩
  have lR5 : R5.length = 4 + RO.length := by rw [← hR5, List.length_append, beI_len]
  rw [hR5] at ht
  obtain ⟨R4, hR4⟩ : ∃ R, beI tm 4 ++ R5 = R := ⟨_, rfl⟩
  have lR4 : R4.length = 4 + R5.length := by rw [← hR4, List.length_append, beI_len]
  rw [hR4] at ht
  obtain ⟨R3, hR3⟩ : ∃ R, beI sq 2 ++ R4 = R := ⟨_, rfl⟩
  have lR3 : R3.length = 2 + R4.length := by rw [← hR3, List.length_append, beI_len]
  rw [hR3] at ht
  obtain ⟨R2, hR2⟩ : ∃ R, beI q1 1 ++ R3 = R := ⟨_, rfl⟩
  have lR2 : R2.length = 1 + R3.length := by rw [← hR2, List.length_append, beI_len]
  rw [hR2] at ht
  have hts : t.size = 1 + R2.length := by rw [← bytesI_len, ht, List.length_append, beI_len]
  have HOF := Lib.hid (fun W => penZ_Of t _ ht W)
  have H1 := Lib.hid (fun W g (I : InZ W g (beI q0 1 ++ R2)) => penZ_U8 g q0 R2 W I b0.1 b0.2 (by omega))
  have H2 := Lib.hid (fun W g (I : InZ W g R2) => penZ_U8 g q1 R3 W (by rw [hR2]; exact I) b1.1 b1.2 (by omega))
  have H3 := Lib.hid (fun W g (I : InZ W g R3) => penZ_U16 g sq R4 W (by rw [hR3]; exact I) hsq.1 hsq.2 (by omega))
  have H4 := Lib.hid (fun W g (I : InZ W g R4) => penZ_U32 g tm R5 W (by rw [hR4]; exact I) htm.1 htm.2 (by omega))
  have H5 := Lib.hid (fun W g (I : InZ W g R5) => penZ_U32 g sc RO W (by rw [hR5]; exact I) hsc.1 hsc.2 (by omega))
  have H7 := Lib.hid (fun W g (I : InZ W g (beI pf 2 ++ (beI em 2 ++ (bytesI ex ++ bytesI da)))) => penZ_U16 g pf (beI em 2 ++ (bytesI ex ++ bytesI da)) W I (by omega) (by omega) (by simp only [List.length_append, beI_len, bytesI_len]; omega))
  have H8 := Lib.hid (fun W g (I : InZ W g (beI em 2 ++ (bytesI ex ++ bytesI da))) => penZ_U16 g em (bytesI ex ++ bytesI da) W I (by omega) (by omega) (by simp only [List.length_append, bytesI_len]; omega))
  have H9 := Lib.hid (fun W g (I : InZ W g (bytesI ex ++ bytesI da)) => penZ_Raw g ex ex.size (bytesI da) W I rfl (by rw [bytesI_len]; omega))
  have H10 := Lib.hid (fun W g (I : InZ W g (bytesI da)) => penZ_Left g (bytesI da) W I)
  simp only [bytesI_len] at H10
  have H11 := Lib.hid (fun W g (I : InZ W g (bytesI da)) => penZ_Raw g da da.size [] W (by simpa using I) rfl (by simp; omega))
  have H12 := Lib.hid (fun W g (I : InZ W g []) => penZ_Err g [] W I)
  have HF := Lib.hid hf
  have HRO := Lib.hid hRO
  have HXX := Lib.hid hxx
  have ts12 : ¬ ((t.size : Int) < 12) := by omega
  have wsq : IntKind.u16.wrap sq = sq := by simp [IntKind.wrap, IntKind.bits, IntKind.signed]; omega
  have wsq2 : sq % 65536 = sq := by omega
  have wm4 : IntKind.i64.wrap (4 * em) = (ex.size : Int) := by rw [IntWalk.i64_in _ (by omega)]; omega
  have wkd : kd % 256 = kd := by omega
  have hem4 : 4 * em = (ex.size : Int) := by omega
  clear hL ht hR6 hRO hR5 hR4 hR3 hR2 lR5 lR4 lR3 lR2 hq0 hq1 hem hxx hsq htm hsc hf hts hb4 b0 b1 lRO
  have K0 := Blk.new w 28 #[.bool false, .int .i64 0, .int .u16 0, .int .u32 0, .int .u32 0, .slice none 0 0, .bool false, .int .i64 0, .string ⟨#[]⟩, .string ⟨#[]⟩, .int .i64 0]
  have B0 : Below w.heap.size w (w.alloc (.cells #[.bool false, .int .i64 0, .int .u16 0, .int .u32 0, .int .u32 0, .slice none 0 0, .bool false, .int .i64 0, .string ⟨#[]⟩, .string ⟨#[]⟩, .int .i64 0] 28)) := (Below.refl _ w).alloc (Nat.le_refl _) _
  go_enter Tryd.func11, Tryd.ntmps11
  go_upto_region 1 with fail
  obtain ⟨gr, hgr⟩ : ∃ g, w.heap.size = g := ⟨_, rfl⟩
  rw [hgr] at K0 B0 ⊢
  generalize w.alloc (.cells #[.bool false, .int .i64 0, .int .u16 0, .int .u32 0, .int .u32 0, .slice none 0 0, .bool false, .int .i64 0, .string ⟨#[]⟩, .string ⟨#[]⟩, .int .i64 0] 28) = w1 at *
  go_wp2_with fail
  refine (HOF.out w1).mono ?_
  rintro e w2 ⟨g, rfl, hg, I2, B2⟩
  have K2 := K0.below B2 K0.lt
  have l1 := K0.lt
  have BB2 := below_then B0 B2 (by omega)
  have grg : gr ≠ g := by omega
  have grg2 : gr ≤ g := by omega
  clear HOF K0 B0 B2 hg l1
  go_wp2_with fail
  refine (H1.out w2 g I2).mono ?_
  rintro e w3 ⟨rfl, I3, O3⟩
  go_wp2_with fail
  refine (H2.out w3 g I3).mono ?_
  rintro e w4 ⟨rfl, I4, O4⟩
  have O14 := O3.trans O4
  have K4 := O14.blk K2 grg
  have B4 := BB2.trans (O14.down (by have := BB2.size; omega) (by omega))
  have lg4 := I4.lt
  have Kp := Blk.new w4 28 #[.bool false, .int .i64 0, .int .u16 0, .int .u32 0, .int .u32 0, .slice none 0 0, .bool false, .int .i64 0, .string ⟨#[]⟩, .string ⟨#[]⟩, .int .i64 0]
  have Ba : Below w4.heap.size w4 (w4.alloc (.cells #[.bool false, .int .i64 0, .int .u16 0, .int .u32 0, .int .u32 0, .slice none 0 0, .bool false, .int .i64 0, .string ⟨#[]⟩, .string ⟨#[]⟩, .int .i64 0] 28)) := (Below.refl _ w4).alloc (Nat.le_refl _) _
  have I5 := I4.below Ba
  have K5 := K4.below Ba K4.lt
  have B5 := below_then B4 Ba (by have := B4.size; omega)
  clear H1 H2 I2 I3 I4 O3 O4 O14 K2 BB2 Ba
  have l4 := K4.lt
  go_upto_region 8 with fail
  obtain ⟨gp, hgp⟩ : ∃ p, w4.heap.size = p := ⟨_, rfl⟩
  rw [hgp] at Kp ⊢
  have gpg : gp ≠ g := by omega
  have gpr : gp ≠ gr := by omega
  have grp : gr ≤ gp := by omega
  generalize w4.alloc (.cells #[.bool false, .int .i64 0, .int .u16 0, .int .u32 0, .int .u32 0, .slice none 0 0, .bool false, .int .i64 0, .string ⟨#[]⟩, .string ⟨#[]⟩, .int .i64 0] 28) = w5 at *
  clear hgp lg4 l4 K4 B4
  have cp := Kp.cell
  have fp := Kp.frozen
  simp at cp
  have K6 := ((Kp.set_ 0 (.bool mk)).set_ 1 (.int .i64 kd)).set_ 6 (.bool hx)
  simp at K6
  have hk6 : ∀ z, z ≠ gp → (((w5.setCell ⟨gp, 0, none⟩ (.bool mk)).setCell ⟨gp, 1, none⟩ (.int .i64 kd)).setCell ⟨gp, 6, none⟩ (.bool hx)).heap[z]? = w5.heap[z]? := fun z hz => by rw [Below.heap_setCell _ _ _ _ hz, Below.heap_setCell _ _ _ _ hz, Below.heap_setCell _ _ _ _ hz]
  have I6 := I5.at_ (hk6 g (Ne.symm gpg))
  have Kr6 : Blk (((w5.setCell ⟨gp, 0, none⟩ (.bool mk)).setCell ⟨gp, 1, none⟩ (.int .i64 kd)).setCell ⟨gp, 6, none⟩ (.bool hx)) gr 28 _ := (hk6 gr (Ne.symm gpr)).trans K5
  have B6 := ((B5.setCell (p := ⟨gp, 0, none⟩) grp (.bool mk)).setCell (p := ⟨gp, 1, none⟩) grp (.int .i64 kd)).setCell (p := ⟨gp, 6, none⟩) grp (.bool hx)
  clear hk6 I5 K5 B5
  go_upto_region 9 with fail
  clear cp fp Kp
  generalize ((w5.setCell ⟨gp, 0, none⟩ (.bool mk)).setCell ⟨gp, 1, none⟩ (.int .i64 kd)).setCell ⟨gp, 6, none⟩ (.bool hx) = w6 at *
  go_wp2_with fail
  refine (H3.out w6 g I6).mono ?_
  rintro e w7 ⟨rfl, I7, O7⟩
  go_wp2_with fail
  refine (H4.out w7 g I7).mono ?_
  rintro e w8 ⟨rfl, I8, O8⟩
  go_wp2_with fail
  refine (H5.out w8 g I8).mono ?_
  rintro e w9 ⟨rfl, I9, O9⟩
  have OO := (O7.trans O8).trans O9
  have K9 := OO.blk K6 gpg
  have Kr9 := OO.blk Kr6 grg
  have B9 := B6.trans (OO.down (by have := B6.size; omega) (by omega))
  clear H3 H4 H5 I6 I7 I8 O7 O8 O9 OO K6 Kr6 B6
  have cp := K9.cell
  have fp := K9.frozen
  simp at cp
  have K10 := ((K9.set_ 2 (.int .u16 sq)).set_ 3 (.int .u32 tm)).set_ 4 (.int .u32 sc)
  simp at K10
  have hk10 : ∀ z, z ≠ gp → (((w9.setCell ⟨gp, 2, none⟩ (.int .u16 sq)).setCell ⟨gp, 3, none⟩ (.int .u32 tm)).setCell ⟨gp, 4, none⟩ (.int .u32 sc)).heap[z]? = w9.heap[z]? := fun z hz => by rw [Below.heap_setCell _ _ _ _ hz, Below.heap_setCell _ _ _ _ hz, Below.heap_setCell _ _ _ _ hz]
  have I10 := I9.at_ (hk10 g (Ne.symm gpg))
  have Kr10 : Blk (((w9.setCell ⟨gp, 2, none⟩ (.int .u16 sq)).setCell ⟨gp, 3, none⟩ (.int .u32 tm)).setCell ⟨gp, 4, none⟩ (.int .u32 sc)) gr 28 _ := (hk10 gr (Ne.symm gpr)).trans Kr9
  have B10 := ((B9.setCell (p := ⟨gp, 2, none⟩) grp (.int .u16 sq)).setCell (p := ⟨gp, 3, none⟩) grp (.int .u32 tm)).setCell (p := ⟨gp, 4, none⟩) grp (.int .u32 sc)
  clear hk10 I9 Kr9 B9
  go_upto_region 10 with fail
  clear cp fp K9
  generalize ((w9.setCell ⟨gp, 2, none⟩ (.int .u16 sq)).setCell ⟨gp, 3, none⟩ (.int .u32 tm)).setCell ⟨gp, 4, none⟩ (.int .u32 sc) = w10 at *
  have gg : gr ≤ g := grg2
  go_wp2_with fail
  go_loopw [52] (fun y wr => ∃ (k : Nat) (av : Option Addr) (cv : Nat), k ≤ on ∧ y = .int .i64 k ∧ InZ wr g (be4All (fun i => f (k + i)) (on - k) ++ R6) ∧ Blk wr gp 28 #[.bool mk, .int .i64 kd, .int .u16 sq, .int .u32 tm, .int .u32 sc, .slice av k cv, .bool hx, .int .i64 0, .string ⟨#[]⟩, .string ⟨#[]⟩, .int .i64 0] ∧ wr.ownsRow gr 23 1 (.slice av k cv) k (rowL k (fun i => .int .u32 (f i))) ∧ Blk wr gr 28 #[.bool false, .int .i64 0, .int .u16 0, .int .u32 0, .int .u32 0, .slice none 0 0, .bool false, .int .i64 0, .string ⟨#[]⟩, .string ⟨#[]⟩, .int .i64 0] ∧ Below gr w wr) (fun y _ => on - (intOf y).toNat)
  case atStart => exact ⟨0, none, 0, by omega, rfl, by simp only [Nat.zero_add, Nat.sub_zero]; rw [HRO.out]; exact I10, K10, ⟨rfl, .inl ⟨rfl, rfl⟩⟩, Kr10, B10⟩
  case round =>
    clear I10 K10 Kr10 B10
    obtain ⟨k, av, cv, hk, rfl, I, Kp, own, Kr, B⟩ := hrel
    by_cases hlt : k < on
    · rw [be4_next f k on hlt, List.append_assoc] at I
      have hxb := HF.out k hlt
      have hrw : Hid (rowL (k + 1) (fun i => .int .u32 (f i)) = rowL k (fun i => .int .u32 (f i)) ++ [.int .u32 (f k)]) := Lib.hid (rowL_snoc _ _)
      obtain ⟨x, hxk⟩ : ∃ x, f k = x := ⟨_, rfl⟩
      rw [hxk] at I hxb hrw
      obtain ⟨tl, htl⟩ : ∃ tl, be4All (fun i => f (k + 1 + i)) (on - (k + 1)) ++ R6 = tl := ⟨_, rfl⟩
      rw [htl] at I
      have HTL := Lib.hid htl
      have ltl : tl.length ≤ 3000 := by rw [← htl, List.length_append, be4All_len]; omega
      have HV := Lib.hid (fun W (I : InZ W g (beI x 4 ++ tl)) => penZ_U32 g x tl W I hxb.1 hxb.2 (by omega))
      obtain ⟨tl0, htl0⟩ : ∃ tl0, beI x 4 ++ tl = tl0 := ⟨_, rfl⟩
      rw [htl0] at I HV
      obtain ⟨xs, hxs⟩ : ∃ xs, rowL k (fun i => .int .u32 (f i)) = xs := ⟨_, rfl⟩
      rw [hxs] at own hrw
      clear htl htl0 hxs hxk ltl
      generalize k = m at *
      have p2 : (m : Int) < (on : Int) := by omega
      have p0 : (0 : Int) ≤ (m : Int) := by omega
      have sB : gr ≤ wr.heap.size := by have := B.size; omega
      have hgil := I.lt
      have hgpl := Kp.lt
      have hgrl := Kr.lt
      have no_i : (Value.slice av m cv).ownBlock ≠ some g := by obtain ⟨s9, _, I9⟩ := I; exact own_ne_blk own I9.blk (by decide)
      have no_p := own_ne_blk own Kp (by decide)
      have no_r := own_ne_blk own Kr (by decide)
      go_upto_region 12 with fail
      have hne : Nonempty (UWF (PhR [4, 5, 6, 9] [2] 9 (StO wr gr g gp gr m tl mk kd sq tm sc hx xs x))) := PhR.ne (G := fun _ => undef) (W := wr.drew) rfl
      refine wp_region_free [(0, 2, some 2), (3, 1, some 4), (5, 0, some 5), (6, 0, some 6), (7, 2, some 9), (10, 0, none)] (PhR [4, 5, 6, 9] [2] 9 (StO wr gr g gp gr m tl mk kd sq tm sc hx xs x)) (GO m (.slice av m cv) x) (fun y => if y = 2 then .slice av m cv else if y = 4 then .int .u32 x else if y = 5 then .slice (some ⟨0, 0, none⟩) 1 1 else .slice (some ⟨0, 0, none⟩) (m + 1) 0) (by kernel_rfl) (by kernel_rfl) ?_ ?_ ?_ ?_
      · intro y hy LL G W hC
        simp [moversI] at hy
        exact hC.quiet (by simp; omega) (by simp; omega) (by simp)
      · exact PhR.start rfl
      · intro y
        exact ⟨fun e => by subst e; rfl, fun e => by subst e; rfl, fun e => by subst e; exact ⟨_, rfl⟩, fun e => by subst e; exact ⟨_, _, rfl⟩⟩
      · intro G hG
        have y2 := (hG 2).a2 rfl
        have y4 := (hG 4).a4 rfl
        obtain ⟨gl, y5⟩ := (hG 5).a5 rfl
        obtain ⟨gx, gc, y6⟩ := (hG 6).a6 rfl
        simp only [walkF, List.drop_zero, List.drop_succ_cons, List.take_succ_cons, List.take_zero, List.toList_toArray]; (repeat (go_big_quiet_step (fail))); refine wpQuiet_nil ?_
        refine ⟨_, _, _, _, _, _, rfl, .inl ⟨rfl, ?_, ?_⟩⟩
        · intro LL W hL hA hC
          obtain ⟨⟨kk, hk1, hst⟩, hC'⟩ := hC.load 3 rfl (z := 2) (by simp) (by simp) hL StO.up
          have kn : Blk W gp 28 _ := (hst.old hk1 gpg hgpl).trans Kp
          have cn := kn.cell
          simp at cn
          refine ⟨?_⟩; go_simp; simp only [movesToUpon]
          exact ⟨⟨fun _ => rfl, (fun e => by cases e), (fun e => by cases e), (fun e => by cases e)⟩, hC' _⟩
        · intro K' hK'; dsimp only at hK'; rw [y2]; go_big_quiet_op; go_big_quiet_on; (repeat (go_big_quiet_step (fail))); refine wpQuiet_nil ?_
          refine ⟨_, _, _, _, _, _, rfl, .inl ⟨rfl, ?_, ?_⟩⟩
          · intro LL W hL hA hC
            have hst : W = wr.drew := hC.ph.at 0 4 rfl hL (fun m' h0 _ => absurd h0 (by omega))
            subst hst
            have I0 : InZ wr.drew g tl0 := I.at_ rfl
            refine ⟨?_⟩; go_simp; simp only [movesToUpon]
            refine (HV.out wr.drew I0).mono ?_
            rintro e w' ⟨rfl, I1, O1⟩
            exact ⟨_, rfl, ⟨(fun e => by cases e), fun _ => rfl, (fun e => by cases e), (fun e => by cases e)⟩, hC.next (by decide) 0 4 rfl hL (fun m' h0 _ => absurd h0 (by omega)) (by simp) (fun e => by cases e) ⟨I1, (OldBut.drew wr g).trans O1⟩⟩
          · intro K' hK'; dsimp only at hK'; rw [y4]; go_big_quiet_op; go_big_quiet_on; (repeat (go_big_quiet_step (fail))); refine wpQuiet_nil ?_
            refine ⟨_, _, _, _, _, _, rfl, .inl ⟨rfl, ?_, ?_⟩⟩
            · intro LL W hL hA hC
              have hp : ∀ m', 0 < 1 → [4, 5, 6, 9][1 - 1]? = some m' → LL m' = true := fun m' _ h => by
                simp at h; subst h; exact hA 4 (by kernel_rfl)
              obtain ⟨I2, O2⟩ : InZ W g tl ∧ OldBut wr W g := hC.ph.at 1 5 rfl hL hp
              refine ⟨?_⟩; go_simp; simp only [movesToUpon]
              exact ⟨⟨(fun e => by cases e), (fun e => by cases e), fun _ => ⟨_, rfl⟩, (fun e => by cases e)⟩, hC.next (by decide) 1 5 rfl hL hp (by simp) (fun e => by cases e) ⟨W, I2, O2, rfl, upF_same _ _ _⟩⟩
            · intro K' hK'; dsimp only at hK'; rw [y5]; go_big_quiet_op; go_big_quiet_on; (repeat (go_big_quiet_step (fail))); refine wpQuiet_nil ?_
              refine ⟨_, _, _, _, _, _, rfl, .inl ⟨rfl, ?_, ?_⟩⟩
              · intro LL W hL hA hC
                have hp : ∀ m', 0 < 2 → [4, 5, 6, 9][2 - 1]? = some m' → LL m' = true := fun m' _ h => by
                  simp at h; subst h; exact hA 5 (by kernel_rfl)
                obtain ⟨W2, I2, O2, rfl, hg9⟩ : ∃ W2, InZ W2 g tl ∧ OldBut wr W2 g ∧ W = W2.alloc (.cells ([.int .u32 x] : List Value).toArray 23) ∧ G 5 = .slice (some ⟨W2.heap.size, 0, none⟩) 1 1 := hC.ph.at 2 6 rfl hL hp
                rw [y5] at hg9
                injection hg9 with f1 f2 f3
                injection f1 with f1
                injection f1 with f1
                subst f1
                have own2 := own_at own (w' := W2) (fun j hj => O2.keep j (own.lt j hj).2 (fun e => no_i (by rw [hj, e])))
                have own3 := own_at own2 (w' := W2.alloc (.cells ([.int .u32 x] : List Value).toArray 23)) (fun j hj => Below.heap_alloc _ _ _ (own2.lt j hj).2)
                have hnew := World.news_of_block (Blk.new W2 23 ([.int .u32 x] : List Value).toArray)
                have sW := O2.below.size
                obtain ⟨g4, cap4, w4', hrun, own4, hgrow4, _, hlt4⟩ := run_append_lies (P := Tryd.prog) _ 24 24 gr 23 i0 (.int .u32 0) 1 4 Tryd.underlying24 hi0 hz0 hz1 hz2 rfl (by decide) _ _ _ own3 ⟨W2.heap.size, 0, none⟩ 1 1 [.int .u32 x] rfl hnew (by simp [Value.oneCell']) (by omega) (by rw [maxLen_eq]; omega) (by omega) (by simp; omega) _ rfl
                have far : ∀ k, k < wr.heap.size → k ≠ g → (Value.slice av m cv).ownBlock ≠ some k → w4'.heap[k]? = wr.heap[k]? := fun k h1 h2 h3 => (hgrow4.block k (by simp; omega) (fun e => h3 e.symm)).trans ((Below.heap_alloc _ _ _ (by omega)).trans (O2.keep k h1 h2))
                have B4 : Below gr wr w4' := ((O2.down (by omega) gg).alloc (by omega) _).grown hgrow4 (by simp; omega) (fun j hj => (own3.lt j hj).1)
                have I4 : InZ w4' g tl := I2.at_ ((hgrow4.block g (by have := I2.lt; simp; omega) (fun e => no_i e.symm)).trans (Below.heap_alloc _ _ _ I2.lt))
                refine MovesTo.append_ rfl rfl rfl hrun ?_
                exact ⟨⟨(fun e => by cases e), (fun e => by cases e), (fun e => by cases e), fun _ => ⟨_, _, rfl⟩⟩, hC.next (by decide) 2 6 rfl hL hp (by simp) (fun e => by cases e) ⟨g4, cap4, upF_same _ _ _, own4, I4, B4, far gp hgpl gpg no_p, far gr hgrl grg no_r⟩⟩
              · intro K' hK'; dsimp only at hK'; rw [y6]; go_big_quiet_op; go_big_quiet_on; (repeat (go_big_quiet_step (fail))); refine wpQuiet_nil ?_
                refine ⟨_, _, _, _, _, _, rfl, .inl ⟨rfl, ?_, ?_⟩⟩
                · intro LL W hL hA hC
                  have hp : ∀ m', 0 < 3 → [4, 5, 6, 9][3 - 1]? = some m' → LL m' = true := fun m' _ h => by
                    simp at h; subst h; exact hA 6 (by kernel_rfl)
                  obtain ⟨g4, cap4, hg10, own4, I4, B4, hn4, h14⟩ : ∃ g4 cap, G 6 = .slice (some ⟨g4, 0, none⟩) (m + 1) cap ∧ W.ownsRow gr 23 1 (.slice (some ⟨g4, 0, none⟩) (m + 1) cap) (m + 1) (xs ++ ([.int .u32 x] : List Value)) ∧ InZ W g tl ∧ Below gr wr W ∧ W.heap[gp]? = wr.heap[gp]? ∧ W.heap[gr]? = wr.heap[gr]? := hC.ph.at 3 9 rfl hL hp
                  have hg10' := hg10
                  rw [y6] at hg10'
                  injection hg10' with f1 f2 f3
                  injection f1 with f1
                  injection f1 with f1
                  subst f1 f3
                  have kn : Blk W gp 28 _ := hn4.trans Kp
                  have cn := kn.cell
                  have fn := kn.frozen
                  simp at cn
                  have kn5 := kn.set_ 5 (.slice (some ⟨gx, 0, none⟩) (m + 1) gc)
                  simp at kn5
                  have nr : gx ≠ gp := fun e => own_ne_blk own4 kn (by decide) (by rw [e]; rfl)
                  have hk5 : ∀ k, k ≠ gp → (W.setCell ⟨gp, 5, none⟩ (.slice (some ⟨gx, 0, none⟩) (m + 1) gc)).heap[k]? = W.heap[k]? := fun k hk => Below.heap_setCell _ ⟨gp, 5, none⟩ _ k hk
                  have own5 := own_at own4 (w' := W.setCell ⟨gp, 5, none⟩ (.slice (some ⟨gx, 0, none⟩) (m + 1) gc)) (fun j hj => hk5 j (by
                    simp only [Value.ownBlock, Option.some.injEq] at hj
                    omega))
                  have I5 := I4.at_ (hk5 g (Ne.symm gpg))
                  have B5 : Below gr wr (W.setCell ⟨gp, 5, none⟩ (.slice (some ⟨gx, 0, none⟩) (m + 1) gc)) := B4.setCell (p := ⟨gp, 5, none⟩) grp _
                  refine ⟨?_⟩; go_simp; simp only [movesToUpon]
                  exact ⟨⟨(fun e => by cases e), (fun e => by cases e), (fun e => by cases e), (fun e => by cases e)⟩, hC.next (by decide) 3 9 rfl hL hp (by simp) (fun _ r hr => hA r (by
                    simp at hr
                    rcases hr with rfl; kernel_rfl)) ⟨gx, gc, by rw [upF_ne _ _ (by decide)]; exact y6, own5, I5, B5, kn5, (hk5 _ (Ne.symm gpr)).trans h14⟩⟩
                · intro K' hK'; dsimp only at hK'; go_big_quiet_op; go_big_quiet_on; (repeat (go_big_quiet_step (fail))); refine wpQuiet_nil ?_
                  intro LL w9 hL hC
                  obtain ⟨g4, cap4, hg10, own4, I4, B4, kn4, h14⟩ : ∃ g4 cap, G 6 = .slice (some ⟨g4, 0, none⟩) (m + 1) cap ∧ w9.ownsRow gr 23 1 (.slice (some ⟨g4, 0, none⟩) (m + 1) cap) (m + 1) (xs ++ ([.int .u32 x] : List Value)) ∧ InZ w9 g tl ∧ Below gr wr w9 ∧ Blk w9 gp 28 #[.bool mk, .int .i64 kd, .int .u16 sq, .int .u32 tm, .int .u32 sc, .slice (some ⟨g4, 0, none⟩) (m + 1) cap, .bool hx, .int .i64 0, .string ⟨#[]⟩, .string ⟨#[]⟩, .int .i64 0] ∧ w9.heap[gr]? = wr.heap[gr]? :=
                    hC.ph.all (fun y hy => hL y (by
                      simp at hy
                      rcases hy with rfl | rfl | rfl | rfl <;> decide)) (fun k G W h => h.top)
                  have K29 : Blk w9 gr 28 _ := h14.trans Kr
                  have BE := B.trans B4
                  clear hC hL hG y2 y4 y5 y6 hne
                  go_wp2_with fail
                  go_roundw
                  case rel => exact ⟨m + 1, _, _, by omega, by go_num, by rw [HTL.out]; exact I4, kn4, by rw [hrw.out]; exact own4, K29, BE⟩
                  case measure => simp only [intOf]; omega
    · obtain rfl : k = on := by omega
      have I : InZ wr g R6 := by
        have e : be4All (fun i => f (k + i)) (k - k) = [] := by rw [Nat.sub_self]; rfl
        rw [e] at I
        exact I
      have no_p := own_ne_blk own Kp (by decide)
      have no_r := own_ne_blk own Kr (by decide)
      have sB : gr ≤ wr.heap.size := by have := B.size; omega
      have cp := Kp.cell
      simp at cp
      cases hx
      · obtain ⟨rfl, hex0⟩ : pf = 0 ∧ ex = ByteArray.empty := by have := HXX.out; simpa using this
        obtain rfl : ex = ⟨#[]⟩ := size0 (by rw [hex0]; rfl)
        have IA : InZ wr g (bytesI da) := by rw [← HR6.out] at I; exact I
        clear I
        go_wp2_with fail
        refine (H10.out wr g IA).mono ?_
        rintro e w' ⟨rfl, rfl⟩
        go_wp2_with fail
        refine (H11.out wr g IA).mono ?_
        rintro e wx ⟨rfl, Ix, Ox⟩
        have Kx := Ox.blk Kp gpg
        have Krx := Ox.blk Kr grg
        have ownx := own_at own (w' := wx) (fun j hj => Ox.keep j (own.lt j hj).2 (fun e => by obtain ⟨s9, _, I9⟩ := IA; exact own_ne_blk own I9.blk (by decide) (by rw [hj, e])))
        have Bx := B.trans (Ox.down sB gg)
        have cx := Kx.cell
        have fx := Kx.frozen
        simp at cx
        have Ky := Kx.set_ 9 (.string da)
        simp at Ky
        have hky : ∀ z, z ≠ gp → (wx.setCell ⟨gp, 9, none⟩ (.string da)).heap[z]? = wx.heap[z]? := fun z hz => Below.heap_setCell _ _ _ _ hz
        have Iy := Ix.at_ (hky g (Ne.symm gpg))
        have Kry : Blk (wx.setCell ⟨gp, 9, none⟩ (.string da)) gr 28 _ := (hky gr (Ne.symm gpr)).trans Krx
        have owny := own_at ownx (w' := wx.setCell ⟨gp, 9, none⟩ (.string da)) (fun j hj => hky j (fun e => no_p (by rw [hj, e])))
        have By := Bx.setCell (p := ⟨gp, 9, none⟩) grp (.string da)
        clear hky Ix Ox Krx ownx Bx cp
        go_upto_region 18 with fail
        clear cx fx Kx
        generalize wx.setCell ⟨gp, 9, none⟩ (.string da) = wy at *
        go_wp2_with fail
        refine (H12.out wy g Iy).mono ?_
        rintro e w' ⟨rfl, rfl⟩
        have cy := Ky.cell
        have cr := Kry.cell
        have fr := Kry.frozen
        simp at cy cr
        obtain ⟨wS, eS, KS, BS, hkS⟩ := eleven_set Kry (.bool mk) (.int .i64 kd) (.int .u16 sq) (.int .u32 tm) (.int .u32 sc) (.slice av k cv) (.bool false) (.int .i64 0) (.string ⟨#[]⟩) (.string da) (.int .i64 0) gr (Nat.le_refl _)
        have cS := KS.cell
        simp at cS
        have ownS := own_at owny (w' := wS) (fun j hj => hkS j (fun e => no_r (by rw [hj, e])))
        have BE := By.trans BS
        clear owny By hkS BS
        go_wp2_with fail
        rw [show ByteArray.empty = (⟨#[]⟩ : ByteArray) from rfl, eS]
        refine bodyPost_ret (v := .tuple #[.agg #[.bool mk, .int .i64 kd, .int .u16 sq, .int .u32 tm, .int .u32 sc, .slice av k cv, .bool false, .int .i64 0, .string ⟨#[]⟩, .string da, .int .i64 0], .int .i64 0]) ?_ rfl ⟨av, cv, rfl, by rw [hgr]; exact ownS, by rw [hgr]; exact BE⟩
        simp [results, Tryd.results11, go_sem, cS]
      · have I : InZ wr g (beI pf 2 ++ (beI em 2 ++ (bytesI ex ++ bytesI da))) := by rw [← HR6.out] at I; exact I
        go_wp2_with fail
        refine (H7.out wr g I).mono ?_
        rintro e wa ⟨rfl, Ia, Oa⟩
        have Ka := Oa.blk Kp gpg
        have Kra := Oa.blk Kr grg
        have owna := own_at own (w' := wa) (fun j hj => Oa.keep j (own.lt j hj).2 (fun e => by obtain ⟨s9, _, I9⟩ := I; exact own_ne_blk own I9.blk (by decide) (by rw [hj, e])))
        have Ba := B.trans (Oa.down sB gg)
        have ca := Ka.cell
        have fa := Ka.frozen
        simp at ca
        have Kb := Ka.set_ 7 (.int .i64 pf)
        simp at Kb
        have hkb : ∀ z, z ≠ gp → (wa.setCell ⟨gp, 7, none⟩ (.int .i64 pf)).heap[z]? = wa.heap[z]? := fun z hz => Below.heap_setCell _ _ _ _ hz
        have Ib := Ia.at_ (hkb g (Ne.symm gpg))
        have Krb : Blk (wa.setCell ⟨gp, 7, none⟩ (.int .i64 pf)) gr 28 _ := (hkb gr (Ne.symm gpr)).trans Kra
        have ownb := own_at owna (w' := wa.setCell ⟨gp, 7, none⟩ (.int .i64 pf)) (fun j hj => hkb j (fun e => no_p (by rw [hj, e])))
        have Bb := Ba.setCell (p := ⟨gp, 7, none⟩) grp (.int .i64 pf)
        clear hkb I Ia Oa Kra owna Ba Kp Kr own B cp
        go_upto_region 16 with fail
        clear ca fa Ka
        generalize wa.setCell ⟨gp, 7, none⟩ (.int .i64 pf) = wb at *
        go_wp2_with fail
        refine (H8.out wb g Ib).mono ?_
        rintro e wc ⟨rfl, Ic, Oc⟩
        go_wp2_with fail
        refine (H9.out wc g Ic).mono ?_
        rintro e wd ⟨rfl, Id, Od⟩
        have Ocd := Oc.trans Od
        have Kd := Ocd.blk Kb gpg
        have Krd := Ocd.blk Krb grg
        have ownd := own_at ownb (w' := wd) (fun j hj => Ocd.keep j (ownb.lt j hj).2 (fun e => by obtain ⟨s9, _, I9⟩ := Ib; exact own_ne_blk ownb I9.blk (by decide) (by rw [hj, e])))
        have Bd := Bb.trans (Ocd.down (by have := Bb.size; omega) gg)
        have cd := Kd.cell
        have fd := Kd.frozen
        simp at cd
        have Ke := Kd.set_ 8 (.string ex)
        simp at Ke
        have hke : ∀ z, z ≠ gp → (wd.setCell ⟨gp, 8, none⟩ (.string ex)).heap[z]? = wd.heap[z]? := fun z hz => Below.heap_setCell _ _ _ _ hz
        have Ie := Id.at_ (hke g (Ne.symm gpg))
        have Kre : Blk (wd.setCell ⟨gp, 8, none⟩ (.string ex)) gr 28 _ := (hke gr (Ne.symm gpr)).trans Krd
        have owne := own_at ownd (w' := wd.setCell ⟨gp, 8, none⟩ (.string ex)) (fun j hj => hke j (fun e => no_p (by rw [hj, e])))
        have Be := Bd.setCell (p := ⟨gp, 8, none⟩) grp (.string ex)
        clear hke Ib Ic Id Oc Od Ocd Krd ownd Bd Kb Krb ownb Bb
        go_upto_region 17 with fail
        clear cd fd Kd
        generalize wd.setCell ⟨gp, 8, none⟩ (.string ex) = we at *
        have cp := Ke.cell
        simp at cp
        have sB : gr ≤ we.heap.size := by have := Be.size; omega
        go_wp2_with fail
        refine (H10.out we g Ie).mono ?_
        rintro e w' ⟨rfl, rfl⟩
        go_wp2_with fail
        refine (H11.out we g Ie).mono ?_
        rintro e wx ⟨rfl, Ix, Ox⟩
        have Kx := Ox.blk Ke gpg
        have Krx := Ox.blk Kre grg
        have ownx := own_at owne (w' := wx) (fun j hj => Ox.keep j (owne.lt j hj).2 (fun e => by obtain ⟨s9, _, I9⟩ := Ie; exact own_ne_blk owne I9.blk (by decide) (by rw [hj, e])))
        have Bx := Be.trans (Ox.down sB gg)
        have cx := Kx.cell
        have fx := Kx.frozen
        simp at cx
        have Ky := Kx.set_ 9 (.string da)
        simp at Ky
        have hky : ∀ z, z ≠ gp → (wx.setCell ⟨gp, 9, none⟩ (.string da)).heap[z]? = wx.heap[z]? := fun z hz => Below.heap_setCell _ _ _ _ hz
        have Iy := Ix.at_ (hky g (Ne.symm gpg))
        have Kry : Blk (wx.setCell ⟨gp, 9, none⟩ (.string da)) gr 28 _ := (hky gr (Ne.symm gpr)).trans Krx
        have owny := own_at ownx (w' := wx.setCell ⟨gp, 9, none⟩ (.string da)) (fun j hj => hky j (fun e => no_p (by rw [hj, e])))
        have By := Bx.setCell (p := ⟨gp, 9, none⟩) grp (.string da)
        clear hky Ix Ox Krx ownx Bx cp
        go_upto_region 18 with fail
        clear cx fx Kx
        generalize wx.setCell ⟨gp, 9, none⟩ (.string da) = wy at *
        go_wp2_with fail
        refine (H12.out wy g Iy).mono ?_
        rintro e w' ⟨rfl, rfl⟩
        have cy := Ky.cell
        have cr := Kry.cell
        have fr := Kry.frozen
        simp at cy cr
        obtain ⟨wS, eS, KS, BS, hkS⟩ := eleven_set Kry (.bool mk) (.int .i64 kd) (.int .u16 sq) (.int .u32 tm) (.int .u32 sc) (.slice av k cv) (.bool true) (.int .i64 pf) (.string ex) (.string da) (.int .i64 0) gr (Nat.le_refl _)
        have cS := KS.cell
        simp at cS
        have ownS := own_at owny (w' := wS) (fun j hj => hkS j (fun e => no_r (by rw [hj, e])))
        have BE := By.trans BS
        clear owny By hkS BS
        go_wp2_with fail
        refine bodyPost_ret (v := .tuple #[.agg #[.bool mk, .int .i64 kd, .int .u16 sq, .int .u32 tm, .int .u32 sc, .slice av k cv, .bool true, .int .i64 pf, .string ex, .string da, .int .i64 0], .int .i64 0]) ?_ rfl ⟨av, cv, rfl, by rw [hgr]; exact ownS, by rw [hgr]; exact BE⟩
        simp [results, Tryd.results11, go_sem, cS]
end Go.Proofs.YtbibgffgljojgaaDoor
