/- A nack's piece, of the program and of the document. No condition but the numbers' bounds. -/
import Derived.Test.YtmmoejnjajmnpaaNackC
namespace Go.Proofs.Ytmmoejnjajmnpaa
open Go.RowKit BigFrame
attribute [local go_sem ↓] Go.wp_at_zero Go.wp_at_succ

theorem str_app (l m : List Int) : strOfNums l ++ strOfNums m = strOfNums (l ++ m) := by
  apply ByteArray.ext
  apply Array.ext'
  rw [strOfNums_data, List.map_append]
  simp [strOfNums_data]
theorem two_newD (w : World) (A B : Array Value) (t u : TypeId) : Blk ((w.alloc (.cells A t)).alloc (.cells B u)) w.heap.size t A ∧ Blk ((w.alloc (.cells A t)).alloc (.cells B u)) (w.heap.size + 1) u B ∧ Below w.heap.size w ((w.alloc (.cells A t)).alloc (.cells B u)) :=
  ⟨(Blk.new w t A).alloc _, by have := Blk.new1 w (.cells A t) u B; exact this, ((Below.refl _ w).alloc (Nat.le_refl _) _).alloc (by simp) _⟩
def nsTwo (x y : Int) (i : Nat) : Int := if i = 0 then x else y
theorem be4_two (x y : Int) : be4All (nsTwo x y) 2 = beI x 4 ++ beI y 4 := by simp [be4All, List.range_succ, nsTwo]
theorem beAll_two {x y : Int} (hx : 0 ≤ x ∧ x ≤ 65535) (hy : 0 ≤ y ∧ y ≤ 65535) : beAll (nsTwo x y) 2 2 = beI x 2 ++ beI y 2 := by
  have e1 : x % 4294967296 = x := Int.emod_eq_of_lt (by omega) (by omega)
  have e2 : y % 4294967296 = y := Int.emod_eq_of_lt (by omega) (by omega)
  simp [beAll, List.range_succ, nsTwo, e1, e2]
set_option maxRecDepth 8000 in
set_option maxHeartbeats 4000000 in
theorem nack_PieceNo (fr ab : Int) (a : Option Addr) (n c : Nat) (w : World) (hn : n = 0 ∨ 300 < n) :
    Calls Try.prog 20 #[.agg #[.int .u32 fr, .int .u32 ab, .slice a n c]] w fun e w' => e = .returned (.agg #[.int .i64 0, .int .i64 0, .string ⟨#[]⟩]) ∧ Below w.heap.size w w' := by
  obtain ⟨K1, K2, B1⟩ := two_newD w #[.int .u32 fr, .int .u32 ab, .slice a n c] #[.int .i64 0, .int .i64 0, .string ⟨#[]⟩] 36 48
  obtain ⟨t, ht, h2⟩ : ∃ t, ((n : Int) == 0) = t ∧ (t = false → (300 : Int) < (n : Int)) := by
    rcases hn with h | h
    · exact ⟨true, by simp [h], (fun e => by cases e)⟩
    · exact ⟨false, by simp; omega, fun _ => by omega⟩
  clear hn
  cases t
  all_goals
    try have h3 := h2 rfl
    clear h2
    go_enter Try.func20, Try.ntmps20
    go_upto_region 1 with fail
    generalize (w.alloc (.cells #[.int .u32 fr, .int .u32 ab, .slice a n c] 36)).alloc (.cells #[.int .i64 0, .int .i64 0, .string ⟨#[]⟩] 48) = w1 at *
    have k1 := K1.cell
    have k2 := K2.cell
    have f2 := K2.frozen
    simp at k1 k2
    obtain ⟨w3, e3, K3, B3, hk3⟩ := three_set K2 rfl (.int .i64 0) (.int .i64 0) (.string ⟨#[]⟩) w.heap.size (by omega)
    have k3 := K3.cell
    simp at k3
    go_wp2_with fail
    refine bodyPost_ret (v := .agg #[.int .i64 0, .int .i64 0, .string ⟨#[]⟩]) ?_ rfl ⟨rfl, B1.trans B3⟩
    simp [results, Try.results20, go_sem, k3]
    try rfl
set_option maxRecDepth 8000 in
set_option maxHeartbeats 8000000 in
theorem nack_PieceYes (fr ab : Int) (a : Option Addr) (n c : Nat) (ps : List (Int × Nat)) (w : World) (P : PairsAt w a n c ps) (hok : PairsOk ps) (hn : 0 < n ∧ n ≤ 300) (hf : 0 ≤ fr ∧ fr < 4294967296) (ha : 0 ≤ ab ∧ ab < 4294967296) :
    Calls Try.prog 20 #[.agg #[.int .u32 fr, .int .u32 ab, .slice a n c]] w fun e w' => e = .returned (.agg #[.int .i64 1, .int .i64 205, .string (strOfNums (bodyL fr ab ps))]) ∧ Below w.heap.size w w' := by
  have HL := Lib.hid P.1
  have HOK := Lib.hid hok
  obtain ⟨n0, n1⟩ := hn
  obtain ⟨K1, K2, B1⟩ := two_newD w #[.int .u32 fr, .int .u32 ab, .slice a n c] #[.int .i64 0, .int .i64 0, .string ⟨#[]⟩] 36 48
  have h1 : ((n : Int) == 0) = false := by simp; omega
  have h2 : ¬ (300 : Int) < (n : Int) := by omega
  have HF := Lib.hid hf
  have HA := Lib.hid ha
  obtain ⟨S, hS⟩ : ∃ S, strOfNums (bodyL fr ab ps) = S := ⟨_, rfl⟩
  rw [hS]
  have HS := Lib.hid hS
  clear hok hS
  go_enter Try.func20, Try.ntmps20
  go_upto_region 1 with fail
  generalize (w.alloc (.cells #[.int .u32 fr, .int .u32 ab, .slice a n c] 36)).alloc (.cells #[.int .i64 0, .int .i64 0, .string ⟨#[]⟩] 48) = w1 at *
  have k1 := K1.cell
  simp at k1
  have P1 := P.below B1
  have Ko := Blk.new w1 65 #[.slice none 0 0]
  have Bo : Below w1.heap.size w1 (w1.alloc (.cells #[.slice none 0 0] 65)) := (Below.refl _ w1).alloc (Nat.le_refl _) _
  have K1o := K1.below Bo K1.lt
  have K2o := K2.below Bo K2.lt
  have s1 := B1.size
  have hl2 := K2.lt
  go_upto_region 4 with fail
  clear k1
  obtain ⟨go, hgo⟩ : ∃ go, w1.heap.size = go := ⟨_, rfl⟩
  have B1o := below_then B1 Bo (Nat.le_refl _)
  have P1o := P1.below Bo
  rw [hgo] at Ko hl2 ⊢
  generalize w1.alloc (.cells #[.slice none 0 0] 65) = w2 at *
  have O2 : OutAt w2 go [] (.slice none 0 0) := ⟨Ko, ⟨rfl, .inl ⟨rfl, rfl⟩⟩, (fun e => by cases e)⟩
  have k1 := K1o.cell
  simp at k1
  have Kl := Blk.new w2 34 #[.int .u32 fr, .int .u32 ab]
  have Bl : Below w2.heap.size w2 (w2.alloc (.cells #[.int .u32 fr, .int .u32 ab] 34)) := (Below.refl _ w2).alloc (Nat.le_refl _) _
  have SL := SliceOf.litF (n := 2) Kl rfl (by decide) (fun i => .int .u32 (nsTwo fr ab i)) (fun i hi => by
    match i, hi with
    | 0, _ => rfl
    | 1, _ => rfl)
  have hgl := Ko.lt
  have HU := Lib.hid (pen_OutU32 go [] _ _ 2 2 (nsTwo fr ab) _ (O2.below Bl) (by decide) SL (fun i _ => by unfold nsTwo; split; exact HF.out; exact HA.out) (fun b off e => by
    injection e with e
    injection e with e
    exact ⟨by omega, (fun e2 => by cases e2)⟩))
  rw [be4_two] at HU
  have s2 := B1o.size
  clear SL Kl
  go_wp2_with fail
  refine HU.out.mono ?_
  rintro e w3 ⟨rfl, v3, O3, M3⟩
  have kl := Bl.size
  have K13 : Blk w3 w.heap.size 36 _ := (M3.keep _ (by have := K1o.lt; omega) (by omega) (fun e => by cases e)).trans (K1o.below Bl K1o.lt)
  have K23 : Blk w3 (w.heap.size + 1) 48 _ := (M3.keep _ (by have := K2o.lt; omega) (by omega) (fun e => by cases e)).trans (K2o.below Bl K2o.lt)
  have B3 : Below w.heap.size w w3 := (below_then B1o Bl (Nat.le_refl _)).trans (M3.down (by omega) (by omega) (fun k e => by cases e))
  have hv3 : ∀ k, v3.ownBlock = some k → w.heap.size ≤ k := fun k e => by
    rcases M3.row k e with h | h
    · cases h
    · omega
  have k13 := K13.cell
  simp at k13
  clear k1 HU M3 K1o K2o Bl O2 B1o B1 Bo Ko P1 P1o K1 K2 hgo kl
  go_wp2_with fail
  go_loopw [26] (fun x26 wr => ∃ (k : Nat) (v : Value), k ≤ n ∧ x26 = .int .i64 k ∧ OutAt wr go (bodyL fr ab (ps.take k)) v ∧ (∀ k, v.ownBlock = some k → w.heap.size ≤ k) ∧ Blk wr (w.heap.size + 1) 48 #[.int .i64 0, .int .i64 0, .string ⟨#[]⟩] ∧ Below w.heap.size w wr) (fun x26 _ => n - (intOf x26).toNat)
  case atStart => exact ⟨0, v3, by omega, rfl, by simpa [bodyL, encP] using O3, hv3, K23, B3⟩
  case round =>
    clear O3 hv3 K23 B3 K13 k13
    obtain ⟨k, v, hk, rfl, O, hv, K2, B⟩ := hrel
    by_cases hlt : k < n
    · have hkl : k < ps.length := by have := HL.out; omega
      obtain ⟨x, hx⟩ : ∃ x, ps[k]? = some x := ⟨_, List.getElem?_eq_getElem hkl⟩
      obtain ⟨p, b⟩ := x
      obtain ⟨bb, off, rfl, hbb, hcell⟩ := P.get n0
      obtain ⟨d0, d1⟩ := hcell k _ hx
      have e0 := (B.cell (p := ⟨bb, off + k * 2, none⟩) hbb).trans d0
      have e1 := (B.cell (p := ⟨bb, off + k * 2 + 1, none⟩) hbb).trans d1
      obtain ⟨⟨p0, p1⟩, hb⟩ := HOK.out _ (List.mem_of_getElem? hx)
      simp only at e0 e1 p0 p1 hb
      have htk : bodyL fr ab (ps.take (k + 1)) = bodyL fr ab (ps.take k) ++ (beI p 2 ++ beI (b : Int) 2) := by
        unfold bodyL
        rw [List.take_add_one, hx, show (some (p, b)).toList = [(p, b)] from rfl, encP_snoc]
        simp
      have HTK := Lib.hid htk
      have hbl := bodyL_len fr ab (ps.take k)
      rw [List.length_take, Nat.min_eq_left (by omega)] at hbl
      have i1 : (0 : Int) ≤ (k : Int) := by omega
      have i2 : (k : Int) < (n : Int) := by omega
      have wk : IntKind.i64.wrap ((k : Int) + 1) = ((k + 1 : Nat) : Int) := by rw [IntWalk.i64_in _ (by omega)]; omega
      have wp : IntKind.i64.wrap p = p := IntWalk.i64_in _ (by omega)
      have wb : IntKind.i64.wrap (b : Int) = (b : Int) := IntWalk.i64_in _ (by omega)
      have K4 := Blk.new wr 30 #[.int .u16 p, .int .u16 (b : Int)]
      have B4 : Below wr.heap.size wr (wr.alloc (.cells #[.int .u16 p, .int .u16 (b : Int)] 30)) := (Below.refl _ wr).alloc (Nat.le_refl _) _
      have BB := below_then B B4 (Nat.le_refl _)
      have O4 := O.below B4
      have K24 := K2.below B4 K2.lt
      have sB := B.size
      clear hx hcell d0 d1 hkl htk
      go_upto_region 8 with fail
      clear e0 e1
      obtain ⟨gp, hgp⟩ : ∃ gp, wr.heap.size = gp := ⟨_, rfl⟩
      rw [hgp] at K4 ⊢
      generalize wr.alloc (.cells #[.int .u16 p, .int .u16 (b : Int)] 30) = w4 at *
      have k4 := K4.cell
      simp at k4
      have Kl := Blk.new w4 3 #[.int .i64 p, .int .i64 (b : Int)]
      have Bl : Below w4.heap.size w4 (w4.alloc (.cells #[.int .i64 p, .int .i64 (b : Int)] 3)) := (Below.refl _ w4).alloc (Nat.le_refl _) _
      have SL := SliceOf.litF (n := 2) Kl rfl (by decide) (fun i => .int .i64 (nsTwo p b i)) (fun i hi => by
        match i, hi with
        | 0, _ => rfl
        | 1, _ => rfl)
      have O4l := O4.below Bl
      have hol := O4.blk.lt
      have hvl := fun k (e : v.ownBlock = some k) => (O4.own.lt k e).2
      have HU := Lib.hid (pen_U16 go _ v _ 2 2 (nsTwo p b) _ O4l (by rw [hbl]; omega) SL (fun b off e => by
        injection e with e
        injection e with e
        exact ⟨by omega, (fun e2 => by have := hvl _ e2; omega)⟩))
      rw [beAll_two ⟨p0, p1⟩ (by omega)] at HU
      have s4 := BB.size
      have nb := own_ne_blk O4.own K24 (by decide)
      have kg : w.heap.size + 1 ≠ go := by omega
      have Bl0 := below_then BB Bl (Nat.le_refl _)
      have K24l := K24.below Bl K24.lt
      clear SL Kl O4 O4l O K24 hbl
      go_wp2_with fail
      refine HU.out.mono ?_
      rintro e w5 ⟨rfl, v5, O5, M5⟩
      have K25 : Blk w5 (w.heap.size + 1) 48 _ := (M5.keep _ K24l.lt kg nb).trans K24l
      have B5 : Below w.heap.size w w5 := Bl0.trans (M5.down Bl0.size (by omega) hv)
      have hv5 := M5.base Bl0.size hv
      clear HU M5 K24l Bl0 Bl
      go_wp2_with fail
      go_roundw
      case rel => exact ⟨k + 1, v5, by omega, by go_num, by rw [HTK.out]; exact O5, hv5, K25, B5⟩
      case measure => simp only [intOf]; omega
    · obtain rfl : k = n := by omega
      have j1 : ¬ (k : Int) < (k : Int) := by omega
      have hall : ps.take k = ps := by have := HL.out; rw [← this]; exact List.take_length
      rw [hall] at O
      have HBy := Lib.hid (pen_Bytes go _ v wr O)
      rw [HS.out] at HBy
      have k2 := K2.cell
      have f2 := K2.frozen
      simp at k2
      obtain ⟨w6, e6, K6, B6, hk6⟩ := three_set K2 rfl (.int .i64 1) (.int .i64 205) (.string S) w.heap.size (by omega)
      have k6 := K6.cell
      simp at k6
      clear hall
      go_wp2_with fail
      refine HBy.out.mono ?_
      rintro e w' ⟨rfl, rfl⟩
      go_wp2_with fail
      refine bodyPost_ret (v := .agg #[.int .i64 1, .int .i64 205, .string S]) ?_ rfl ⟨rfl, B.trans B6⟩
      simp [results, Try.results20, go_sem, k6]
end Go.Proofs.Ytmmoejnjajmnpaa
