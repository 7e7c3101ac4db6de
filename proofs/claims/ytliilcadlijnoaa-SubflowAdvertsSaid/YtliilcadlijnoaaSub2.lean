/- Package subflow: rows of its parts; build; as a piece. No condition but how many. (Printed by gen_sub2.py.) -/
import Derived.Test.YtliilcadlijnoaaSub1
namespace Go.Proofs.Ytliilcadlijnoaa
open Go.RowKit BigFrame
attribute [local go_sem ↓] Go.wp_at_zero Go.wp_at_succ

/-- Paths rise, and each may be: the last one; none: not so. -/
def okS {α : Type} (may : α → Bool) (path : α → Int) (s : Option Int) (x : α) : Option Int := s.bind fun last => if may x = true ∧ last < path x then some (path x) else none
def okF {α : Type} (may : α → Bool) (path : α → Int) (l : List α) : Option Int := l.foldl (okS may path) (some 0)
theorem okF_snoc {α : Type} (may : α → Bool) (path : α → Int) (l : List α) (k : Nat) (x : α) (h : l[k]? = some x) : okF may path (l.take (k + 1)) = okS may path (okF may path (l.take k)) x := by
  unfold okF; rw [List.take_add_one, h, List.foldl_append]; rfl
theorem okS_none {α : Type} (may : α → Bool) (path : α → Int) (l : List α) : l.foldl (okS may path) none = none := by
  induction l with
  | nil => rfl
  | cons x l ih => exact ih
theorem okF_none {α : Type} {may : α → Bool} {path : α → Int} {l : List α} {k : Nat} (h : okF may path (l.take k) = none) : okF may path l = none := by
  unfold okF at *
  rw [← List.take_append_drop k l, List.foldl_append, h, okS_none]
theorem i64_wrap_in {x : Int} (h1 : -9223372036854775808 ≤ x) (h2 : x ≤ 9223372036854775807) : IntKind.i64.wrap x = x := IntWalk.i64_in _ ⟨h1, h2⟩
def zAd : AdR := ⟨0, false, 0⟩
def zLn : LnR := ⟨0, 0, 0, 0, 0, 0, 0, 0⟩
/-- A part's bytes. -/
def bytA (x : AdR) : List Int := (encA x.p (if x.u then 1 else 0) x.r).flatMap id
def bytL (x : LnR) : List Int := (encL x.p x.f x.l x.h x.j x.b x.t x.d).flatMap id
theorem bytA_len (x : AdR) : (bytA x).length = 4 := by unfold bytA encA; simp [beAll_len]
theorem bytL_len (x : LnR) : (bytL x).length = 28 := by unfold bytL encL; simp [beAll_len, be4All_len]
theorem flat_len {α : Type} (f : α → List Int) (s : Nat) (hf : ∀ x, (f x).length = s) (l : List α) : (l.flatMap f).length = l.length * s := by
  induction l with
  | nil => simp
  | cons x l ih => rw [List.flatMap_cons, List.length_append, ih, hf, List.length_cons, Nat.succ_mul]; omega
theorem flat_snoc {α : Type} (f : α → List Int) (l : List α) (k : Nat) (x : α) (h : l[k]? = some x) : (l.take (k + 1)).flatMap f = (l.take k).flatMap f ++ f x := by
  rw [List.take_add_one, h, List.flatMap_append]; simp
/-- What a row of parts is as a piece: its three fields. -/
def pcV (form : Int) (b : Option (List Int)) : Value := match b with
  | some l => .agg #[.int .i64 form, .int .i64 211, .string (strOfNums l)]
  | none => .agg #[.int .i64 0, .int .i64 0, .string ⟨#[]⟩]
def bodyA (src : Int) (l : List AdR) : Option (List Int) := if (okF AdR.may AdR.p l).isSome then some (beI src 4 ++ l.flatMap bytA) else none
def bodyL (src : Int) (l : List LnR) : Option (List Int) := if (okF LnR.may LnR.p l).isSome then some (beI src 4 ++ l.flatMap bytL) else none
def pieceA (src : Int) (l : List AdR) : Option (List Int) := bodyA src l
def pieceL (src : Int) (l : List LnR) : Option (List Int) := if l = [] then none else bodyL src l
theorem SliceOf.at8x {w : World} {a : Option Addr} {len cap : Nat} {A B C D E F G H : Nat → Value} (h : SliceOf w a len cap 8 (fun i => [A i, B i, C i, D i, E i, F i, G i, H i])) (hp : 0 < len) :
    ∃ b off, a = some ⟨b, off, none⟩ ∧ b < w.heap.size ∧ ∀ i, i < len → w.cell? ⟨b, off + i * 8, none⟩ = some (A i) ∧ w.cell? ⟨b, off + i * 8 + 1, none⟩ = some (B i) ∧ w.cell? ⟨b, off + i * 8 + 2, none⟩ = some (C i) ∧ w.cell? ⟨b, off + i * 8 + 3, none⟩ = some (D i) ∧ w.cell? ⟨b, off + i * 8 + 4, none⟩ = some (E i) ∧ w.cell? ⟨b, off + i * 8 + 5, none⟩ = some (F i) ∧ w.cell? ⟨b, off + i * 8 + 6, none⟩ = some (G i) ∧ w.cell? ⟨b, off + i * 8 + 7, none⟩ = some (H i) := by
  obtain ⟨b, off, ha, hb, hc⟩ := h.2.2 hp
  exact ⟨b, off, ha, hb, fun i hi => ⟨by have := hc i hi 0 _ rfl; simpa using this, hc i hi 1 _ rfl, hc i hi 2 _ rfl, hc i hi 3 _ rfl, hc i hi 4 _ rfl, hc i hi 5 _ rfl, hc i hi 6 _ rfl, hc i hi 7 _ rfl⟩⟩
theorem SliceOf.at3y {w : World} {a : Option Addr} {len cap : Nat} {X Y Z : Nat → Value} (h : SliceOf w a len cap 3 (fun i => [X i, Y i, Z i])) (hp : 0 < len) :
    ∃ b off, a = some ⟨b, off, none⟩ ∧ b < w.heap.size ∧ ∀ i, i < len → w.cell? ⟨b, off + i * 3, none⟩ = some (X i) ∧ w.cell? ⟨b, off + i * 3 + 1, none⟩ = some (Y i) ∧ w.cell? ⟨b, off + i * 3 + 2, none⟩ = some (Z i) := by
  obtain ⟨b, off, ha, hb, hc⟩ := h.2.2 hp
  exact ⟨b, off, ha, hb, fun i hi => ⟨by have := hc i hi 0 _ rfl; simpa using this, hc i hi 1 _ rfl, hc i hi 2 _ rfl⟩⟩
/-- A row of parts at a slice. -/
structure AdAt (W : World) (a : Option Addr) (n c : Nat) (l : List AdR) : Prop where
  len : l.length = n
  row : SliceOf W a n c 3 (fun i => [.int .i64 (l.getD i zAd).p, .bool (l.getD i zAd).u, .int .i64 (l.getD i zAd).r])
structure LnAt (W : World) (a : Option Addr) (n c : Nat) (l : List LnR) : Prop where
  len : l.length = n
  row : SliceOf W a n c 8 (fun i => [.int .i64 (l.getD i zLn).p, .int .i64 (l.getD i zLn).f, .int .i64 (l.getD i zLn).l, .int .u32 (l.getD i zLn).h, .int .u32 (l.getD i zLn).j, .int .u32 (l.getD i zLn).b, .int .u32 (l.getD i zLn).t, .int .u32 (l.getD i zLn).d])
def LnOk (l : List LnR) : Prop := ∀ x ∈ l, (0 ≤ x.h ∧ x.h < 4294967296) ∧ (0 ≤ x.j ∧ x.j < 4294967296) ∧ (0 ≤ x.b ∧ x.b < 4294967296) ∧ (0 ≤ x.t ∧ x.t < 4294967296) ∧ (0 ≤ x.d ∧ x.d < 4294967296)
theorem AdAt.below {W W' : World} {a : Option Addr} {n c : Nat} {l : List AdR} (h : AdAt W a n c l) (hb : Below W.heap.size W W') : AdAt W' a n c l := ⟨h.len, h.row.below hb⟩
theorem LnAt.below {W W' : World} {a : Option Addr} {n c : Nat} {l : List LnR} (h : LnAt W a n c l) (hb : Below W.heap.size W W') : LnAt W' a n c l := ⟨h.len, h.row.below hb⟩
theorem getD_of {α : Type} {l : List α} {k : Nat} {x z : α} (h : l[k]? = some x) : l.getD k z = x := by rw [List.getD_eq_getElem?_getD, h]; rfl
theorem ad_path (p : Int) (uf : Bool) (r : Int) (w : World) :
    Calls Try.prog 21 #[.agg #[.int .i64 p, .bool uf, .int .i64 r]] w fun e w' => e = .returned (.int .i64 p) ∧ Below w.heap.size w w' := by
  have K := Blk.new w 31 #[.int .i64 p, .bool uf, .int .i64 r]
  have B : Below w.heap.size w (w.alloc (.cells #[.int .i64 p, .bool uf, .int .i64 r] 31)) := (Below.refl _ w).alloc (Nat.le_refl _) _
  go_enter Try.func21, Try.ntmps21
  go_upto_region 1 with fail
  generalize w.alloc (.cells #[.int .i64 p, .bool uf, .int .i64 r] 31) = w1 at *
  have c1 := K.cell
  simp at c1
  go_wp2_with fail
  go_ret
  exact ⟨rfl, B⟩
set_option maxRecDepth 8000 in
set_option maxHeartbeats 8000000 in
theorem sub_buildA (src : Int) (hs : 0 ≤ src ∧ src < 4294967296) (a : Option Addr) (n c : Nat) (xs : List AdR) (w : World) (S : AdAt w a n c xs) (hn : n ≤ 1000) :
    Calls Try.prog 20 #[.int .i64 2, .int .u32 src, .slice a n c, .func (.func 21) #[] #[]] w fun e w' => e = .returned (pcV 2 (bodyA src xs)) ∧ Below w.heap.size w w' := by
  have HL := Lib.hid S.len
  have K8 := Blk.new w 33 #[.int .i64 0, .int .i64 0, .string ⟨#[]⟩]
  have B8 : Below w.heap.size w (w.alloc (.cells #[.int .i64 0, .int .i64 0, .string ⟨#[]⟩] 33)) := (Below.refl _ w).alloc (Nat.le_refl _) _
  go_enter Try.func20, Try.ntmps20
  go_upto_region 1 with fail
  generalize w.alloc (.cells #[.int .i64 0, .int .i64 0, .string ⟨#[]⟩] 33) = w1 at *
  have K9 := Blk.new w1 76 #[.slice none 0 0]
  have B9 : Below w1.heap.size w1 (w1.alloc (.cells #[.slice none 0 0] 76)) := (Below.refl _ w1).alloc (Nat.le_refl _) _
  go_upto_region 2 with fail
  have O2 : OutAt (w1.alloc (.cells #[.slice none 0 0] 76)) w1.heap.size [] (.slice none 0 0) := ⟨K9, ⟨rfl, .inl ⟨rfl, rfl⟩⟩, (fun e => by cases e)⟩
  obtain ⟨g, hg⟩ : ∃ g, w1.heap.size = g := ⟨_, rfl⟩
  have B2 := below_then B8 B9 (Nat.le_refl _)
  have gw : w.heap.size ≤ g := by have := B8.size; omega
  have k82 := K8.below B9 K8.lt
  rw [hg] at O2 ⊢
  clear K9 B9 K8 B8
  generalize w1.alloc (.cells #[.slice none 0 0] 76) = w2 at *
  have K3 := Blk.new w2 22 #[.int .u32 src]
  have B3 : Below w2.heap.size w2 (w2.alloc (.cells #[.int .u32 src] 22)) := (Below.refl _ w2).alloc (Nat.le_refl _) _
  have O3 := O2.below B3
  have B03 := below_then B2 B3 (Nat.le_refl _)
  have k83 := k82.below B3 k82.lt
  go_wp2_with fail
  refine (pen_OutU32 g [] (.slice none 0 0) _ 1 1 (fun _ => src) _ O3 (by simp) (SliceOf.of_blk (cs := [.int .u32 src]) (n := 1) K3 (fun _ => .int .u32 src) rfl (by omega) (fun i hi => match i, hi with
    | 0, _ => rfl)) (fun i _ => hs) (fun b off e => by injection e with e; injection e with e1 e2; subst e1; exact ⟨Blk.ne_ K3 O3.blk (by decide), (fun e => by cases e)⟩)).mono ?_
  rintro e w4 ⟨rfl, v4, O4, M4⟩
  have hb4 : be4All (fun _ => src) 1 = beI src 4 := by unfold be4All; simp
  rw [List.nil_append, hb4] at O4
  have sz3 := B03.size
  have B04 : Below w.heap.size w w4 := B03.trans (M4.down sz3 gw (fun k e => by cases e))
  have hv4 : ∀ k, v4.ownBlock = some k → w.heap.size ≤ k := M4.base sz3 (fun k e => by cases e)
  have k84 : Blk w4 w.heap.size 33 _ := (M4.keep _ k83.lt (Blk.ne_ k83 O3.blk (by decide)) (fun e => by cases e)).trans k83
  clear O2 B2 K3 B3 O3 B03 M4 hb4 k82 k83 sz3 hg
  go_wp2_with fail
  go_loopw [10, 18] (fun x10 x18 wr => ∃ (k : Nat) (last : Int) (v : Value), k ≤ n ∧ x18 = .int .i64 k ∧ x10 = .int .i64 last ∧ okF AdR.may AdR.p (xs.take k) = some last ∧ OutAt wr g (beI src 4 ++ (xs.take k).flatMap bytA) v ∧ (∀ k, v.ownBlock = some k → w.heap.size ≤ k) ∧ Blk wr w.heap.size 33 #[.int .i64 0, .int .i64 0, .string ⟨#[]⟩] ∧ Below w.heap.size w wr) (fun _ x18 _ => n - (intOf x18).toNat)
  case atStart => exact ⟨0, 0, v4, by omega, rfl, rfl, rfl, by simpa using O4, hv4, k84, B04⟩
  case round =>
    clear O4 hv4 k84 B04
    obtain ⟨k, last, v, hk, rfl, rfl, hF, O, hv, K8, B⟩ := hrel
    have HF := Lib.hid hF
    clear hF
    by_cases hlt : k < n
    · obtain ⟨bb, off, rfl, hbb, hcell⟩ := S.row.at3y (by omega)
      have hc := hcell k hlt
      have hkl : k < xs.length := by have := HL.out; omega
      obtain ⟨x, hx⟩ : ∃ x, xs[k]? = some x := ⟨_, List.getElem?_eq_getElem hkl⟩
      rw [getD_of hx] at hc
      have HX := Lib.hid hx
      have hxm := List.mem_of_getElem? hx
      obtain ⟨p, uf, r⟩ := x
      simp only at hc
      obtain ⟨hd0, hd1, hd2⟩ := hc
      have hd0 := (B.cell (p := ⟨bb, off + k * 3, none⟩) hbb).trans hd0
      have hd1 := (B.cell (p := ⟨bb, off + k * 3 + 1, none⟩) hbb).trans hd1
      have hd2 := (B.cell (p := ⟨bb, off + k * 3 + 2, none⟩) hbb).trans hd2
      have hbl : ((xs.take k).flatMap bytA).length ≤ 28000 := by rw [flat_len bytA 4 bytA_len, List.length_take]; omega
      have hbl2 : (beI src 4 ++ (xs.take k).flatMap bytA).length ≤ 90000 := by rw [List.length_append, beI_len]; omega
      obtain ⟨z, hz⟩ : ∃ z, AdR.may ⟨p, uf, r⟩ = z := ⟨_, rfl⟩
      have HM := Lib.hid (fun W => ad_may p uf r z hz W)
      have HPT := Lib.hid (fun W => ad_path p uf r W)
      have HSN := Lib.hid (okF_snoc AdR.may AdR.p xs k _ hx)
      have HFS := Lib.hid (flat_snoc bytA xs k _ hx)
      have HZ := Lib.hid hz
      have q0 : (0 : Int) ≤ (k : Int) := by omega
      have q1 : (k : Int) < (n : Int) := by omega
      have wk : IntKind.i64.wrap ((k : Int) + 1) = ((k + 1 : Nat) : Int) := by rw [IntWalk.i64_in _ (by omega)]; omega
      have Kx := Blk.new wr 31 #[.int .i64 p, .bool uf, .int .i64 r]
      have Bx : Below wr.heap.size wr (wr.alloc (.cells #[.int .i64 p, .bool uf, .int .i64 r] 31)) := (Below.refl _ wr).alloc (Nat.le_refl _) _
      have O5 := O.below Bx
      have B5 := below_then B Bx (Nat.le_refl _)
      have k85 := K8.below Bx K8.lt
      clear hx hz hcell hkl hxm hbl
      go_upto_region 7 with fail
      clear hd0 hd1 hd2
      generalize wr.alloc (.cells #[.int .i64 p, .bool uf, .int .i64 r] 31) = w5 at *
      have cx := Kx.cell
      simp at cx
      clear O Bx B K8
      go_wp2_with fail
      refine (HM.out w5).mono ?_
      rintro e w6 ⟨rfl, B6⟩
      have K6 := Kx.below B6 Kx.lt
      have O6 := O5.below B6
      have B06 := below_then B5 B6 (Nat.le_refl _)
      have k86 := k85.below B6 k85.lt
      have c6 := K6.cell
      simp at c6
      clear cx Kx O5 B5 k85 B6
      cases z with
      | false =>
        have hno : okF AdR.may AdR.p xs = none := okF_none (k := k + 1) (by rw [HSN.out, HF.out]; unfold okS; simp [HZ.out])
        have c8 := k86.cell
        have f8 := k86.frozen
        simp at c8
        obtain ⟨wS, eS, KS, BS, hkS⟩ := three_set k86 rfl (.int .i64 0) (.int .i64 0) (.string ⟨#[]⟩) w.heap.size (Nat.le_refl _)
        have cS := KS.cell
        simp at cS
        have HNO := Lib.hid hno
        have BE := B06.trans BS
        clear hno
        go_wp2_with fail
        refine bodyPost_ret (v := pcV 2 (bodyA src xs)) ?_ rfl ⟨rfl, BE⟩
        unfold bodyA pcV
        rw [HNO.out]
        simp [results, Try.results20, go_sem, cS]
      | true =>
        go_wp2_with fail
        refine (HPT.out w6).mono ?_
        rintro e w7 ⟨rfl, B7⟩
        have K7 := K6.below B7 K6.lt
        have O7 := O6.below B7
        have B07 := below_then B06 B7 (Nat.le_refl _)
        have k87 := k86.below B7 k86.lt
        have c7 := K7.cell
        simp at c7
        clear c6 K6 O6 B06 k86 B7
        by_cases hle : p ≤ last
        · have hno : okF AdR.may AdR.p xs = none := okF_none (k := k + 1) (by rw [HSN.out, HF.out]; unfold okS; simp [HZ.out]; omega)
          have c8 := k87.cell
          have f8 := k87.frozen
          simp at c8
          obtain ⟨wS, eS, KS, BS, hkS⟩ := three_set k87 rfl (.int .i64 0) (.int .i64 0) (.string ⟨#[]⟩) w.heap.size (Nat.le_refl _)
          have cS := KS.cell
          simp at cS
          have HNO := Lib.hid hno
          have BE := B07.trans BS
          clear hno
          go_wp2_with fail
          refine bodyPost_ret (v := pcV 2 (bodyA src xs)) ?_ rfl ⟨rfl, BE⟩
          unfold bodyA pcV
          rw [HNO.out]
          simp [results, Try.results20, go_sem, cS]
        · have HLE := Lib.hid hle
          go_wp2_with fail
          refine (HPT.out w7).mono ?_
          rintro e w8 ⟨rfl, B8⟩
          have K8' := K7.below B8 K7.lt
          have O8 := O7.below B8
          have B08 := below_then B07 B8 (Nat.le_refl _)
          have k88 := k87.below B8 k87.lt
          have c8' := K8'.cell
          simp at c8'
          clear c7 K7 O7 B07 k87 B8
          have HW := Lib.hid (ad_write g _ v p uf r (if uf then 1 else 0) rfl w8 O8 (by omega))
          go_wp2_with fail
          refine HW.out.mono ?_
          rintro e w9 ⟨rfl, v9, O9, M9⟩
          have sz8 := B08.size
          have B09 : Below w.heap.size w w9 := B08.trans (M9.down sz8 gw hv)
          have hv9 : ∀ k, v9.ownBlock = some k → w.heap.size ≤ k := M9.base sz8 hv
          have k89 : Blk w9 w.heap.size 33 _ := (M9.keep _ k88.lt (Blk.ne_ k88 O8.blk (by decide)) (own_ne_blk O8.own k88 (by decide))).trans k88
          have O10 : OutAt w9 g (beI src 4 ++ (xs.take (k + 1)).flatMap bytA) v9 := by rw [HFS.out, ← List.append_assoc]; exact O9
          have HO := Lib.hid O10
          clear O9 O10 M9 HW K8' O8 B08 k88 c8' sz8 hle
          go_wp2_with fail
          go_roundw
          case rel => exact ⟨k + 1, p, v9, by omega, by go_num, rfl, by rw [HSN.out, HF.out]; unfold okS; simp [HZ.out]; have := HLE.out; omega, HO.out, hv9, k89, B09⟩
          case measure => simp only [intOf]; omega
    · obtain rfl : k = n := by omega
      have j1 : ¬ (k : Int) < (k : Int) := by omega
      have hall : xs.take k = xs := by have := HL.out; rw [← this]; exact List.take_length
      have hF := HF.out
      rw [hall] at O hF
      obtain ⟨bd, hbd⟩ : ∃ bd, beI src 4 ++ xs.flatMap bytA = bd := ⟨_, rfl⟩
      rw [hbd] at O
      have HBD := Lib.hid hbd
      have HF2 := Lib.hid hF
      obtain ⟨s, hs'⟩ : ∃ s, strOfNums bd = s := ⟨_, rfl⟩
      have HPB := Lib.hid (pen_Bytes g bd v wr O)
      rw [hs'] at HPB
      have HSS := Lib.hid hs'
      have c8 := K8.cell
      have f8 := K8.frozen
      simp at c8
      obtain ⟨wS, eS, KS, BS, hkS⟩ := three_set K8 rfl (.int .i64 2) (.int .i64 211) (.string s) w.heap.size (Nat.le_refl _)
      have cS := KS.cell
      simp at cS
      have BE := B.trans BS
      clear hall hF hbd hs' O
      go_wp2_with fail
      refine HPB.out.mono ?_
      rintro e w7 ⟨rfl, rfl⟩
      go_wp2_with fail
      refine bodyPost_ret (v := pcV 2 (bodyA src xs)) ?_ rfl ⟨rfl, BE⟩
      unfold bodyA pcV
      rw [HF2.out, HBD.out]
      simp [results, Try.results20, go_sem, cS, HSS.out]
set_option maxHeartbeats 2000000 in
theorem ad_Piece (src : Int) (hs : 0 ≤ src ∧ src < 4294967296) (a : Option Addr) (n c : Nat) (xs : List AdR) (w : World) (S : AdAt w a n c xs) (hn : n ≤ 1000) :
    Calls Try.prog 7 #[.agg #[.int .u32 src, .slice a n c]] w fun e w' => e = .returned (pcV 2 (pieceA src xs)) ∧ Below w.heap.size w w' := by
  obtain ⟨bo, hbo⟩ : ∃ bo, bodyA src xs = bo := ⟨_, rfl⟩
  have HB := Lib.hid (fun W (q : AdAt W a n c xs) => sub_buildA src hs a n c xs W q hn)
  rw [hbo] at HB
  have HL := Lib.hid S.len
  have HBO := Lib.hid hbo
  have K1 := Blk.new w 27 #[.int .u32 src, .slice a n c]
  have K2 := Blk.new (w.alloc (.cells #[.int .u32 src, .slice a n c] 27)) 33 #[.int .i64 0, .int .i64 0, .string ⟨#[]⟩]
  have B1 : Below w.heap.size w (w.alloc (.cells #[.int .u32 src, .slice a n c] 27)) := (Below.refl _ w).alloc (Nat.le_refl _) _
  have B2 : Below (w.alloc (.cells #[.int .u32 src, .slice a n c] 27)).heap.size (w.alloc (.cells #[.int .u32 src, .slice a n c] 27)) ((w.alloc (.cells #[.int .u32 src, .slice a n c] 27)).alloc (.cells #[.int .i64 0, .int .i64 0, .string ⟨#[]⟩] 33)) := (Below.refl _ _).alloc (Nat.le_refl _) _
  have K1' := K1.below B2 K1.lt
  have B02 := below_then B1 B2 (Nat.le_refl _)
  have hsz : (w.alloc (.cells #[.int .u32 src, .slice a n c] 27)).heap.size = w.heap.size + 1 := by simp
  rw [hsz] at K2
  clear hbo K1 B1 B2 hsz
  go_enter Try.func7, Try.ntmps7
  go_upto_region 1 with fail
  generalize (w.alloc (.cells #[.int .u32 src, .slice a n c] 27)).alloc (.cells #[.int .i64 0, .int .i64 0, .string ⟨#[]⟩] 33) = w2 at *
  have c1 := K1'.cell
  simp at c1
  have S2 := S.below B02
  go_wp2_with fail
  refine (HB.out w2 S2).mono ?_
  rintro e w3 ⟨rfl, B3⟩
  have K3 := K2.below B3 K2.lt
  have B03 := below_then B02 B3 (Nat.le_refl _)
  obtain ⟨pf, pk, ps, hpv⟩ : ∃ pf pk ps, pcV 2 bo = .agg #[.int .i64 pf, .int .i64 pk, .string ps] := by cases bo <;> exact ⟨_, _, _, rfl⟩
  have HPV := Lib.hid hpv
  rw [hpv]
  have c8 := K3.cell
  have f8 := K3.frozen
  simp at c8
  obtain ⟨wS, eS, KS, BS, hkS⟩ := three_set K3 rfl (.int .i64 pf) (.int .i64 pk) (.string ps) w.heap.size (by omega)
  have cS := KS.cell
  simp at cS
  have BE := B03.trans BS
  clear hpv
  go_wp2_with fail
  refine bodyPost_ret (v := .agg #[.int .i64 pf, .int .i64 pk, .string ps]) ?_ rfl ⟨?_, BE⟩
  · simp [results, Try.results7, go_sem, cS]
  · rw [← HPV.out]
    unfold pieceA
    rw [HBO.out]

theorem ln_path (p f l : Int) (h j b t d : Int) (w : World) :
    Calls Try.prog 31 #[.agg #[.int .i64 p, .int .i64 f, .int .i64 l, .int .u32 h, .int .u32 j, .int .u32 b, .int .u32 t, .int .u32 d]] w fun e w' => e = .returned (.int .i64 p) ∧ Below w.heap.size w w' := by
  have K := Blk.new w 67 #[.int .i64 p, .int .i64 f, .int .i64 l, .int .u32 h, .int .u32 j, .int .u32 b, .int .u32 t, .int .u32 d]
  have B : Below w.heap.size w (w.alloc (.cells #[.int .i64 p, .int .i64 f, .int .i64 l, .int .u32 h, .int .u32 j, .int .u32 b, .int .u32 t, .int .u32 d] 67)) := (Below.refl _ w).alloc (Nat.le_refl _) _
  go_enter Try.func31, Try.ntmps31
  go_upto_region 1 with fail
  generalize w.alloc (.cells #[.int .i64 p, .int .i64 f, .int .i64 l, .int .u32 h, .int .u32 j, .int .u32 b, .int .u32 t, .int .u32 d] 67) = w1 at *
  have c1 := K.cell
  simp at c1
  go_wp2_with fail
  go_ret
  exact ⟨rfl, B⟩
set_option maxRecDepth 8000 in
set_option maxHeartbeats 8000000 in
theorem sub_buildL (src : Int) (hs : 0 ≤ src ∧ src < 4294967296) (a : Option Addr) (n c : Nat) (xs : List LnR) (w : World) (S : LnAt w a n c xs) (hn : n ≤ 1000) (hok : LnOk xs) :
    Calls Try.prog 30 #[.int .i64 1, .int .u32 src, .slice a n c, .func (.func 31) #[] #[]] w fun e w' => e = .returned (pcV 1 (bodyL src xs)) ∧ Below w.heap.size w w' := by
  have HL := Lib.hid S.len
  have HOK := Lib.hid hok
  have K8 := Blk.new w 33 #[.int .i64 0, .int .i64 0, .string ⟨#[]⟩]
  have B8 : Below w.heap.size w (w.alloc (.cells #[.int .i64 0, .int .i64 0, .string ⟨#[]⟩] 33)) := (Below.refl _ w).alloc (Nat.le_refl _) _
  go_enter Try.func30, Try.ntmps30
  go_upto_region 1 with fail
  generalize w.alloc (.cells #[.int .i64 0, .int .i64 0, .string ⟨#[]⟩] 33) = w1 at *
  have K9 := Blk.new w1 76 #[.slice none 0 0]
  have B9 : Below w1.heap.size w1 (w1.alloc (.cells #[.slice none 0 0] 76)) := (Below.refl _ w1).alloc (Nat.le_refl _) _
  go_upto_region 2 with fail
  have O2 : OutAt (w1.alloc (.cells #[.slice none 0 0] 76)) w1.heap.size [] (.slice none 0 0) := ⟨K9, ⟨rfl, .inl ⟨rfl, rfl⟩⟩, (fun e => by cases e)⟩
  obtain ⟨g, hg⟩ : ∃ g, w1.heap.size = g := ⟨_, rfl⟩
  have B2 := below_then B8 B9 (Nat.le_refl _)
  have gw : w.heap.size ≤ g := by have := B8.size; omega
  have k82 := K8.below B9 K8.lt
  rw [hg] at O2 ⊢
  clear K9 B9 K8 B8
  generalize w1.alloc (.cells #[.slice none 0 0] 76) = w2 at *
  have K3 := Blk.new w2 22 #[.int .u32 src]
  have B3 : Below w2.heap.size w2 (w2.alloc (.cells #[.int .u32 src] 22)) := (Below.refl _ w2).alloc (Nat.le_refl _) _
  have O3 := O2.below B3
  have B03 := below_then B2 B3 (Nat.le_refl _)
  have k83 := k82.below B3 k82.lt
  go_wp2_with fail
  refine (pen_OutU32 g [] (.slice none 0 0) _ 1 1 (fun _ => src) _ O3 (by simp) (SliceOf.of_blk (cs := [.int .u32 src]) (n := 1) K3 (fun _ => .int .u32 src) rfl (by omega) (fun i hi => match i, hi with
    | 0, _ => rfl)) (fun i _ => hs) (fun b off e => by injection e with e; injection e with e1 e2; subst e1; exact ⟨Blk.ne_ K3 O3.blk (by decide), (fun e => by cases e)⟩)).mono ?_
  rintro e w4 ⟨rfl, v4, O4, M4⟩
  have hb4 : be4All (fun _ => src) 1 = beI src 4 := by unfold be4All; simp
  rw [List.nil_append, hb4] at O4
  have sz3 := B03.size
  have B04 : Below w.heap.size w w4 := B03.trans (M4.down sz3 gw (fun k e => by cases e))
  have hv4 : ∀ k, v4.ownBlock = some k → w.heap.size ≤ k := M4.base sz3 (fun k e => by cases e)
  have k84 : Blk w4 w.heap.size 33 _ := (M4.keep _ k83.lt (Blk.ne_ k83 O3.blk (by decide)) (fun e => by cases e)).trans k83
  clear O2 B2 K3 B3 O3 B03 M4 hb4 k82 k83 sz3 hg
  go_wp2_with fail
  go_loopw [10, 18] (fun x10 x18 wr => ∃ (k : Nat) (last : Int) (v : Value), k ≤ n ∧ x18 = .int .i64 k ∧ x10 = .int .i64 last ∧ okF LnR.may LnR.p (xs.take k) = some last ∧ OutAt wr g (beI src 4 ++ (xs.take k).flatMap bytL) v ∧ (∀ k, v.ownBlock = some k → w.heap.size ≤ k) ∧ Blk wr w.heap.size 33 #[.int .i64 0, .int .i64 0, .string ⟨#[]⟩] ∧ Below w.heap.size w wr) (fun _ x18 _ => n - (intOf x18).toNat)
  case atStart => exact ⟨0, 0, v4, by omega, rfl, rfl, rfl, by simpa using O4, hv4, k84, B04⟩
  case round =>
    clear O4 hv4 k84 B04
    obtain ⟨k, last, v, hk, rfl, rfl, hF, O, hv, K8, B⟩ := hrel
    have HF := Lib.hid hF
    clear hF
    by_cases hlt : k < n
    · obtain ⟨bb, off, rfl, hbb, hcell⟩ := S.row.at8x (by omega)
      have hc := hcell k hlt
      have hkl : k < xs.length := by have := HL.out; omega
      obtain ⟨x, hx⟩ : ∃ x, xs[k]? = some x := ⟨_, List.getElem?_eq_getElem hkl⟩
      rw [getD_of hx] at hc
      have HX := Lib.hid hx
      have hxm := List.mem_of_getElem? hx
      have hxo := HOK.out x hxm
      have HXO := Lib.hid hxo
      clear hxo
      obtain ⟨p, f, l, h, j, b, t, d⟩ := x
      simp only at hc
      obtain ⟨hd0, hd1, hd2, hd3, hd4, hd5, hd6, hd7⟩ := hc
      have hd0 := (B.cell (p := ⟨bb, off + k * 8, none⟩) hbb).trans hd0
      have hd1 := (B.cell (p := ⟨bb, off + k * 8 + 1, none⟩) hbb).trans hd1
      have hd2 := (B.cell (p := ⟨bb, off + k * 8 + 2, none⟩) hbb).trans hd2
      have hd3 := (B.cell (p := ⟨bb, off + k * 8 + 3, none⟩) hbb).trans hd3
      have hd4 := (B.cell (p := ⟨bb, off + k * 8 + 4, none⟩) hbb).trans hd4
      have hd5 := (B.cell (p := ⟨bb, off + k * 8 + 5, none⟩) hbb).trans hd5
      have hd6 := (B.cell (p := ⟨bb, off + k * 8 + 6, none⟩) hbb).trans hd6
      have hd7 := (B.cell (p := ⟨bb, off + k * 8 + 7, none⟩) hbb).trans hd7
      have hbl : ((xs.take k).flatMap bytL).length ≤ 28000 := by rw [flat_len bytL 28 bytL_len, List.length_take]; omega
      have hbl2 : (beI src 4 ++ (xs.take k).flatMap bytL).length ≤ 90000 := by rw [List.length_append, beI_len]; omega
      obtain ⟨z, hz⟩ : ∃ z, LnR.may ⟨p, f, l, h, j, b, t, d⟩ = z := ⟨_, rfl⟩
      have HM := Lib.hid (fun W => ln_may p f l h j b t d z hz W)
      have HPT := Lib.hid (fun W => ln_path p f l h j b t d W)
      have HSN := Lib.hid (okF_snoc LnR.may LnR.p xs k _ hx)
      have HFS := Lib.hid (flat_snoc bytL xs k _ hx)
      have HZ := Lib.hid hz
      have q0 : (0 : Int) ≤ (k : Int) := by omega
      have q1 : (k : Int) < (n : Int) := by omega
      have wk : IntKind.i64.wrap ((k : Int) + 1) = ((k + 1 : Nat) : Int) := by rw [IntWalk.i64_in _ (by omega)]; omega
      have Kx := Blk.new wr 67 #[.int .i64 p, .int .i64 f, .int .i64 l, .int .u32 h, .int .u32 j, .int .u32 b, .int .u32 t, .int .u32 d]
      have Bx : Below wr.heap.size wr (wr.alloc (.cells #[.int .i64 p, .int .i64 f, .int .i64 l, .int .u32 h, .int .u32 j, .int .u32 b, .int .u32 t, .int .u32 d] 67)) := (Below.refl _ wr).alloc (Nat.le_refl _) _
      have O5 := O.below Bx
      have B5 := below_then B Bx (Nat.le_refl _)
      have k85 := K8.below Bx K8.lt
      clear hx hz hcell hkl hxm hbl
      go_upto_region 7 with fail
      clear hd0 hd1 hd2 hd3 hd4 hd5 hd6 hd7
      generalize wr.alloc (.cells #[.int .i64 p, .int .i64 f, .int .i64 l, .int .u32 h, .int .u32 j, .int .u32 b, .int .u32 t, .int .u32 d] 67) = w5 at *
      have cx := Kx.cell
      simp at cx
      clear O Bx B K8
      go_wp2_with fail
      refine (HM.out w5).mono ?_
      rintro e w6 ⟨rfl, B6⟩
      have K6 := Kx.below B6 Kx.lt
      have O6 := O5.below B6
      have B06 := below_then B5 B6 (Nat.le_refl _)
      have k86 := k85.below B6 k85.lt
      have c6 := K6.cell
      simp at c6
      clear cx Kx O5 B5 k85 B6
      cases z with
      | false =>
        have hno : okF LnR.may LnR.p xs = none := okF_none (k := k + 1) (by rw [HSN.out, HF.out]; unfold okS; simp [HZ.out])
        have c8 := k86.cell
        have f8 := k86.frozen
        simp at c8
        obtain ⟨wS, eS, KS, BS, hkS⟩ := three_set k86 rfl (.int .i64 0) (.int .i64 0) (.string ⟨#[]⟩) w.heap.size (Nat.le_refl _)
        have cS := KS.cell
        simp at cS
        have HNO := Lib.hid hno
        have BE := B06.trans BS
        clear hno
        go_wp2_with fail
        refine bodyPost_ret (v := pcV 1 (bodyL src xs)) ?_ rfl ⟨rfl, BE⟩
        unfold bodyL pcV
        rw [HNO.out]
        simp [results, Try.results30, go_sem, cS]
      | true =>
        go_wp2_with fail
        refine (HPT.out w6).mono ?_
        rintro e w7 ⟨rfl, B7⟩
        have K7 := K6.below B7 K6.lt
        have O7 := O6.below B7
        have B07 := below_then B06 B7 (Nat.le_refl _)
        have k87 := k86.below B7 k86.lt
        have c7 := K7.cell
        simp at c7
        clear c6 K6 O6 B06 k86 B7
        by_cases hle : p ≤ last
        · have hno : okF LnR.may LnR.p xs = none := okF_none (k := k + 1) (by rw [HSN.out, HF.out]; unfold okS; simp [HZ.out]; omega)
          have c8 := k87.cell
          have f8 := k87.frozen
          simp at c8
          obtain ⟨wS, eS, KS, BS, hkS⟩ := three_set k87 rfl (.int .i64 0) (.int .i64 0) (.string ⟨#[]⟩) w.heap.size (Nat.le_refl _)
          have cS := KS.cell
          simp at cS
          have HNO := Lib.hid hno
          have BE := B07.trans BS
          clear hno
          go_wp2_with fail
          refine bodyPost_ret (v := pcV 1 (bodyL src xs)) ?_ rfl ⟨rfl, BE⟩
          unfold bodyL pcV
          rw [HNO.out]
          simp [results, Try.results30, go_sem, cS]
        · have HLE := Lib.hid hle
          go_wp2_with fail
          refine (HPT.out w7).mono ?_
          rintro e w8 ⟨rfl, B8⟩
          have K8' := K7.below B8 K7.lt
          have O8 := O7.below B8
          have B08 := below_then B07 B8 (Nat.le_refl _)
          have k88 := k87.below B8 k87.lt
          have c8' := K8'.cell
          simp at c8'
          clear c7 K7 O7 B07 k87 B8
          have HW := Lib.hid (ln_write g _ v p f l h j b t d w8 O8 (by omega) HXO.out)
          go_wp2_with fail
          refine HW.out.mono ?_
          rintro e w9 ⟨rfl, v9, O9, M9⟩
          have sz8 := B08.size
          have B09 : Below w.heap.size w w9 := B08.trans (M9.down sz8 gw hv)
          have hv9 : ∀ k, v9.ownBlock = some k → w.heap.size ≤ k := M9.base sz8 hv
          have k89 : Blk w9 w.heap.size 33 _ := (M9.keep _ k88.lt (Blk.ne_ k88 O8.blk (by decide)) (own_ne_blk O8.own k88 (by decide))).trans k88
          have O10 : OutAt w9 g (beI src 4 ++ (xs.take (k + 1)).flatMap bytL) v9 := by rw [HFS.out, ← List.append_assoc]; exact O9
          have HO := Lib.hid O10
          clear O9 O10 M9 HW K8' O8 B08 k88 c8' sz8 hle
          go_wp2_with fail
          go_roundw
          case rel => exact ⟨k + 1, p, v9, by omega, by go_num, rfl, by rw [HSN.out, HF.out]; unfold okS; simp [HZ.out]; have := HLE.out; omega, HO.out, hv9, k89, B09⟩
          case measure => simp only [intOf]; omega
    · obtain rfl : k = n := by omega
      have j1 : ¬ (k : Int) < (k : Int) := by omega
      have hall : xs.take k = xs := by have := HL.out; rw [← this]; exact List.take_length
      have hF := HF.out
      rw [hall] at O hF
      obtain ⟨bd, hbd⟩ : ∃ bd, beI src 4 ++ xs.flatMap bytL = bd := ⟨_, rfl⟩
      rw [hbd] at O
      have HBD := Lib.hid hbd
      have HF2 := Lib.hid hF
      obtain ⟨s, hs'⟩ : ∃ s, strOfNums bd = s := ⟨_, rfl⟩
      have HPB := Lib.hid (pen_Bytes g bd v wr O)
      rw [hs'] at HPB
      have HSS := Lib.hid hs'
      have c8 := K8.cell
      have f8 := K8.frozen
      simp at c8
      obtain ⟨wS, eS, KS, BS, hkS⟩ := three_set K8 rfl (.int .i64 1) (.int .i64 211) (.string s) w.heap.size (Nat.le_refl _)
      have cS := KS.cell
      simp at cS
      have BE := B.trans BS
      clear hall hF hbd hs' O
      go_wp2_with fail
      refine HPB.out.mono ?_
      rintro e w7 ⟨rfl, rfl⟩
      go_wp2_with fail
      refine bodyPost_ret (v := pcV 1 (bodyL src xs)) ?_ rfl ⟨rfl, BE⟩
      unfold bodyL pcV
      rw [HF2.out, HBD.out]
      simp [results, Try.results30, go_sem, cS, HSS.out]
set_option maxHeartbeats 2000000 in
theorem ln_Piece (src : Int) (hs : 0 ≤ src ∧ src < 4294967296) (a : Option Addr) (n c : Nat) (xs : List LnR) (w : World) (S : LnAt w a n c xs) (hn : n ≤ 1000) (hok : LnOk xs) :
    Calls Try.prog 19 #[.agg #[.int .u32 src, .slice a n c]] w fun e w' => e = .returned (pcV 1 (pieceL src xs)) ∧ Below w.heap.size w w' := by
  obtain ⟨bo, hbo⟩ : ∃ bo, bodyL src xs = bo := ⟨_, rfl⟩
  have HB := Lib.hid (fun W (q : LnAt W a n c xs) => sub_buildL src hs a n c xs W q hn hok)
  rw [hbo] at HB
  have HL := Lib.hid S.len
  have HBO := Lib.hid hbo
  have K1 := Blk.new w 47 #[.int .u32 src, .slice a n c]
  have K2 := Blk.new (w.alloc (.cells #[.int .u32 src, .slice a n c] 47)) 33 #[.int .i64 0, .int .i64 0, .string ⟨#[]⟩]
  have B1 : Below w.heap.size w (w.alloc (.cells #[.int .u32 src, .slice a n c] 47)) := (Below.refl _ w).alloc (Nat.le_refl _) _
  have B2 : Below (w.alloc (.cells #[.int .u32 src, .slice a n c] 47)).heap.size (w.alloc (.cells #[.int .u32 src, .slice a n c] 47)) ((w.alloc (.cells #[.int .u32 src, .slice a n c] 47)).alloc (.cells #[.int .i64 0, .int .i64 0, .string ⟨#[]⟩] 33)) := (Below.refl _ _).alloc (Nat.le_refl _) _
  have K1' := K1.below B2 K1.lt
  have B02 := below_then B1 B2 (Nat.le_refl _)
  have hsz : (w.alloc (.cells #[.int .u32 src, .slice a n c] 47)).heap.size = w.heap.size + 1 := by simp
  rw [hsz] at K2
  clear hbo K1 B1 B2 hsz
  go_enter Try.func19, Try.ntmps19
  go_upto_region 1 with fail
  generalize (w.alloc (.cells #[.int .u32 src, .slice a n c] 47)).alloc (.cells #[.int .i64 0, .int .i64 0, .string ⟨#[]⟩] 33) = w2 at *
  have c1 := K1'.cell
  simp at c1
  have S2 := S.below B02
  by_cases hn0 : n = 0
  · have e0 : ((n : Int) == 0) = true := by subst hn0; rfl
    have c8 := K2.cell
    have f8 := K2.frozen
    simp at c8
    obtain ⟨wS, eS, KS, BS, hkS⟩ := three_set K2 rfl (.int .i64 0) (.int .i64 0) (.string ⟨#[]⟩) w.heap.size (by omega)
    have cS := KS.cell
    simp at cS
    have BE := B02.trans BS
    have HN0 := Lib.hid hn0
    clear hn0 S S2
    go_wp2_with fail
    refine bodyPost_ret (v := pcV 1 (pieceL src xs)) ?_ rfl ⟨rfl, BE⟩
    have hx : xs = [] := List.length_eq_zero_iff.1 (by rw [HL.out, HN0.out])
    unfold pieceL pcV
    rw [if_pos hx]
    simp [results, Try.results19, go_sem, cS]
  · have e0 : ((n : Int) == 0) = false := by simp; omega
    have hx : ¬ xs = [] := fun e => hn0 (by rw [← HL.out, e]; rfl)
    have HX := Lib.hid hx
    clear hn0 hx
    go_wp2_with fail
    refine (HB.out w2 S2).mono ?_
    rintro e w3 ⟨rfl, B3⟩
    have K3 := K2.below B3 K2.lt
    have B03 := below_then B02 B3 (Nat.le_refl _)
    obtain ⟨pf, pk, ps, hpv⟩ : ∃ pf pk ps, pcV 1 bo = .agg #[.int .i64 pf, .int .i64 pk, .string ps] := by cases bo <;> exact ⟨_, _, _, rfl⟩
    have HPV := Lib.hid hpv
    rw [hpv]
    have c8 := K3.cell
    have f8 := K3.frozen
    simp at c8
    obtain ⟨wS, eS, KS, BS, hkS⟩ := three_set K3 rfl (.int .i64 pf) (.int .i64 pk) (.string ps) w.heap.size (by omega)
    have cS := KS.cell
    simp at cS
    have BE := B03.trans BS
    clear hpv
    go_wp2_with fail
    refine bodyPost_ret (v := .agg #[.int .i64 pf, .int .i64 pk, .string ps]) ?_ rfl ⟨?_, BE⟩
    · simp [results, Try.results19, go_sem, cS]
    · rw [← HPV.out]
      unfold pieceL
      rw [if_neg HX.out, HBO.out]

end Go.Proofs.Ytliilcadlijnoaa
