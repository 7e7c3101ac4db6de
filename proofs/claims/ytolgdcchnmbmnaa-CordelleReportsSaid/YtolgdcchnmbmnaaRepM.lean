/- Reports as CordelleReports keeps them: records, their rows, their pieces. No condition. -/
import Derived.Test.YtolgdcchnmbmnaaRepA
import Derived.Test.YtolgdcchnmbmnaaRep7
import Derived.Test.YtolgdcchnmbmnaaRep9
import Derived.Test.YtolgdcchnmbmnaaApp
import Derived.Test.YtolgdcchnmbmnaaPhR
namespace Go.Proofs.Ytolgdcchnmbmnaa
open Go.RowKit BigFrame

theorem info_rp : ∃ i, Try.prog.info? 32 = some i ∧ i.zero = some (.agg #[.int .u32 0, .bool false, .int .i64 0, .int .u32 0, .int .u32 0, .int .u32 0, .slice none 0 0]) ∧ i.size = 7 ∧ i.bytes = 56 := by
  have h : (Try.prog.info? 32).map (fun i => (i.zero, i.size, i.bytes)) = some (some (.agg #[.int .u32 0, .bool false, .int .i64 0, .int .u32 0, .int .u32 0, .int .u32 0, .slice none 0 0]), 7, 56) := by kernel_rfl
  obtain ⟨i, hi, he⟩ := Option.map_eq_some_iff.1 h
  simp only [Prod.mk.injEq] at he
  exact ⟨i, hi, he.1, he.2.1, he.2.2⟩
structure RpR where
  s : Int
  y : Bool
  c : Int
  t : Int
  p : Int
  b : Int
  la : Option Addr
  n : Nat
  cp : Nat
  l : List BkR
def RpR.cells (x : RpR) : List Value := [.int .u32 x.s, .bool x.y, .int .i64 x.c, .int .u32 x.t, .int .u32 x.p, .int .u32 x.b, .slice x.la x.n x.cp]
theorem RpR.cells_len (x : RpR) : x.cells.length = 7 := rfl
def RpR.body (x : RpR) : List Int := bodyR x.s x.y x.c x.t x.p x.b x.l
def RpR.pc (x : RpR) : PcR := ⟨(x.n : Int), kindR x.y, strOfNums x.body⟩
structure RpR.Ok (x : RpR) : Prop where
  may : mayR x.y x.c x.t x.p x.b x.l = true
  us : U32 x.s
  ut : U32 x.t
  up : U32 x.p
  ub : U32 x.b
  bl : ∀ k ∈ x.l, k.Ok
  len : x.l.length = x.n
  few : x.n ≤ 8
theorem beAll_ok (ns : Nat → Int) (s k : Nat) : Bytes (beAll ns s k) := Bytes.flat (fun i => beI_bytes _ _) _
theorem be4All_ok (ns : Nat → Int) (k : Nat) : Bytes (be4All ns k) := Bytes.flat (fun i => beI_bytes _ _) _
theorem bytes_nil : Bytes [] := fun x hx => by cases hx
theorem bytB_ok (x : BkR) : Bytes (bytB x) := by
  unfold bytB encB
  simp only [List.flatMap_cons, List.flatMap_nil, id]
  exact (be4All_ok _ _).append ((beAll_ok _ _ _).append ((beAll_ok _ _ _).append ((be4All_ok _ _).append bytes_nil)))
theorem RpR.body_ok (x : RpR) : Bytes x.body := by
  unfold RpR.body bodyR headR encS
  refine Bytes.append (Bytes.append (beI_bytes _ _) ?_) (Bytes.flat bytB_ok _)
  cases x.y
  · exact bytes_nil
  · exact be4All_ok _ _
theorem RpR.bytes_body (x : RpR) : bytesI (strOfNums x.body) = x.body := bytesI_str x.body_ok
theorem RpR.body_len (x : RpR) : x.body.length = (if x.y then 24 else 4) + x.l.length * 24 := by
  unfold RpR.body bodyR
  rw [List.length_append, headR_len, flat_len bytB 24 bytB_len]
theorem RpR.str_size (x : RpR) : (strOfNums x.body).size = (if x.y then 24 else 4) + x.l.length * 24 := by
  rw [← bytesI_len, x.bytes_body, x.body_len]
theorem RpR.Ok.pcOk {x : RpR} (h : x.Ok) : x.pc.Ok := by
  have h1 := h.len
  have h2 := h.few
  have h3 := x.str_size
  unfold PcR.Ok RpR.pc kindR
  simp only
  rw [h3]
  refine ⟨by omega, by omega, by split <;> omega, by split <;> omega, ?_, ?_⟩
  · split <;> omega
  · split <;> omega
theorem bytP_ok (x : PcR) : Bytes (bytP x) := by
  unfold bytP encP rawAll
  simp only [List.flatMap_cons, List.flatMap_nil, id, List.append_nil]
  exact (beAll_ok _ _ _).append ((beAll_ok _ _ _).append (Bytes.flat (fun i => bytesI_ok _) _))
theorem bytP_size2 (x : PcR) : (bytP x).length = 4 + x.b.size := by
  unfold bytP encP rawAll
  simp [beAll_len, bytesI_len]
  omega
theorem RpR.Ok.pcLen {x : RpR} (h : x.Ok) : (bytP x.pc).length ≤ 220 := by
  rw [bytP_size2]
  show 4 + (strOfNums x.body).size ≤ 220
  rw [x.str_size, h.len]
  have := h.few
  split <;> omega
theorem flat_few {α : Type} {f : α → List Int} {m : Nat} : ∀ l : List α, (∀ x ∈ l, (f x).length ≤ m) → (l.flatMap f).length ≤ l.length * m
  | [], _ => by simp
  | x :: l, h => by
    rw [List.flatMap_cons, List.length_append, List.length_cons, Nat.succ_mul]
    have h1 := h x (by simp)
    have h2 := flat_few l (fun y hy => h y (List.mem_cons_of_mem _ hy))
    omega
theorem pieces_len {rs : List RpR} (h : ∀ x ∈ rs, x.Ok) (hn : rs.length ≤ 6) : ((rs.map RpR.pc).flatMap bytP).length ≤ 1320 := by
  have h1 := flat_few (f := bytP) (m := 220) (rs.map RpR.pc) (fun y hy => by
    obtain ⟨x, hx, rfl⟩ := List.mem_map.1 hy
    exact (h x hx).pcLen)
  rw [List.length_map] at h1
  omega
theorem pieces_str (l : List PcR) : bytesI (strOfNums (l.flatMap bytP)) = l.flatMap bytP := bytesI_str (Bytes.flat bytP_ok _)
/-- The reports' rows of blocks stand, each of them made behind base. -/
def RpRows (W : World) (base : Nat) (rs : List RpR) : Prop := ∀ x ∈ rs, W.ownsRow base 49 7 (.slice x.la x.n x.cp) x.n (rowG BkR.cells x.l)
theorem RpRows.below {W W' : World} {base : Nat} {rs : List RpR} (h : RpRows W base rs) (hb : Below W.heap.size W W') : RpRows W' base rs := fun x hx => own_lasts (h x hx) hb
theorem own_types {W : World} {B1 B2 e1 e2 s1 s2 n1 n2 : Nat} {v1 v2 : Value} {x1 x2 : List Value} (h1 : W.ownsRow B1 e1 s1 v1 n1 x1) (h2 : W.ownsRow B2 e2 s2 v2 n2 x2) (hne : e1 ≠ e2) {j : Nat} (hj : v1.ownBlock = some j) : v2.ownBlock ≠ some j := fun hj2 => by
  rcases h1.2 with ⟨rfl, _⟩ | ⟨g1, c1, cur1, rfl, _, hg1, _⟩
  · cases hj
  · rcases h2.2 with ⟨rfl, _⟩ | ⟨g2, c2, cur2, rfl, _, hg2, _⟩
    · cases hj2
    · simp only [Value.ownBlock, Option.some.injEq] at hj hj2
      subst hj
      subst hj2
      rw [hg1] at hg2
      injection hg2 with hg2
      injection hg2 with _ h3
      exact hne h3
theorem SliceOf.newsG {α : Type} {f : α → List Value} {s : Nat} (hf : ∀ x, (f x).length = s) (hs : 0 < s) {w : World} {a : Option Addr} {n c : Nat} {l : List α} {z : α} (S : SliceOf w a n c s (fun i => f (l.getD i z))) (hl : l.length = n) : 0 < n → ∃ a0, a = some a0 ∧ ∀ j u, (rowG f l)[j]? = some u → w.cell? (a0.add j) = some u := fun hn => by
  obtain ⟨b, off, ha, hb, hc⟩ := S.2.2 hn
  refine ⟨_, ha, fun j u hu => ?_⟩
  have hj : j < n * s := by
    have := (List.getElem?_eq_some_iff.1 hu).1
    rwa [rowG_len hf, hl] at this
  have hdm := Nat.div_add_mod j s
  have hr := Nat.mod_lt j hs
  have hi : j / s < n := Nat.div_lt_of_lt_mul (by rw [Nat.mul_comm]; exact hj)
  have hli : l[j / s]? = some (l.getD (j / s) z) := by rw [List.getD_eq_getElem?_getD, List.getElem?_eq_getElem (by omega)]; rfl
  have hj2 : j / s * s + j % s = j := by rw [Nat.mul_comm]; exact hdm
  rw [← hj2, rowG_get hf l _ _ hli _ hr] at hu
  have := hc (j / s) hi (j % s) u hu
  have hadd : (⟨b, off, none⟩ : Addr).add j = ⟨b, off + j, none⟩ := by unfold Addr.add; split <;> simp_all
  rw [hadd]
  have e2 : off + j / s * s + j % s = off + j := by rw [Nat.add_assoc, hj2]
  rw [← e2]
  exact this
theorem rowG_one {α : Type} {f : α → List Value} (hf : ∀ x, ∀ u ∈ f x, u.oneCell' = true) (l : List α) : ∀ u ∈ rowG f l, u.oneCell' = true := fun u hu => by
  obtain ⟨x, _, h⟩ := List.mem_flatMap.1 hu
  exact hf x u h
theorem wfU32 {x : Int} (h : (Lit.int .u32 x).wf = true) : 0 ≤ x ∧ x < 4294967296 := by
  simp [Lit.wf, IntKind.min, IntKind.max, IntKind.signed, IntKind.bits] at h
  omega
theorem blocks_in {w : World} {a : Option Addr} {n c : Nat} {s f l h j u d : Nat → Int} (S : SliceOf w a n c 7 (fun i => [.int .u32 (s i), .int .i64 (f i), .int .i64 (l i), .int .u32 (h i), .int .u32 (j i), .int .u32 (u i), .int .u32 (d i)]))
    (F0 : ∀ i, i < n → (Lit.int .u32 (s i)).wf = true) (F3 : ∀ i, i < n → (Lit.int .u32 (h i)).wf = true) (F4 : ∀ i, i < n → (Lit.int .u32 (j i)).wf = true) (F5 : ∀ i, i < n → (Lit.int .u32 (u i)).wf = true) (F6 : ∀ i, i < n → (Lit.int .u32 (d i)).wf = true) (m : Nat) (hm : m ≤ n) :
    ∃ xs : List BkR, xs.length = m ∧ (∀ x ∈ xs, x.Ok) ∧ SliceOf w a m c 7 (fun i => (xs.getD i zBk).cells) := by
  refine ⟨(List.range m).map fun i => ⟨s i, f i, l i, h i, j i, u i, d i⟩, by simp, fun x hx => ?_, Nat.le_trans hm S.1, S.2.1, fun hp => ?_⟩
  · obtain ⟨i, hi, rfl⟩ := List.mem_map.1 hx
    have hi2 : i < n := by have := List.mem_range.1 hi; omega
    exact ⟨wfU32 (F0 i hi2), wfU32 (F3 i hi2), wfU32 (F4 i hi2), wfU32 (F5 i hi2), wfU32 (F6 i hi2)⟩
  · obtain ⟨b, off, ha, hb, hc⟩ := S.2.2 (by omega)
    refine ⟨b, off, ha, hb, fun i hi q u' hu => hc i (by omega) q u' ?_⟩
    have hu2 : (BkR.cells (((List.range m).map fun i => (⟨s i, f i, l i, h i, j i, u i, d i⟩ : BkR)).getD i zBk))[q]? = some u' := hu
    rw [List.getD_eq_getElem?_getD, List.getElem?_map, List.getElem?_range hi] at hu2
    exact hu2
theorem RpRows.keep {W W' : World} {B Bp Br np nr : Nat} {rs : List RpR} {pv av : Value} {xp xr : List Value} (h : RpRows W B rs) (hp : W.ownsRow Bp 25 3 pv np xp) (hr : W.ownsRow Br 32 7 av nr xr)
    (hk : ∀ j, j < W.heap.size → pv.ownBlock ≠ some j → av.ownBlock ≠ some j → W'.heap[j]? = W.heap[j]?) : RpRows W' B rs := fun x hx => by
  have h1 := h x hx
  exact own_at h1 (fun j hj => hk j (h1.lt j hj).2 (own_types h1 hp (by decide) hj) (own_types h1 hr (by decide) hj))
theorem RpRows.snoc {W : World} {base : Nat} {rs : List RpR} (h : RpRows W base rs) {x : RpR} (hx : W.ownsRow base 49 7 (.slice x.la x.n x.cp) x.n (rowG BkR.cells x.l)) : RpRows W base (rs ++ [x]) := fun y hy => by
  rcases List.mem_append.1 hy with hy | hy
  · exact h y hy
  · simp at hy; subst hy; exact hx
theorem ok_snoc {rs : List RpR} (h : ∀ x ∈ rs, x.Ok) {x : RpR} (hx : x.Ok) : ∀ y ∈ rs ++ [x], y.Ok := fun y hy => by
  rcases List.mem_append.1 hy with hy | hy
  · exact h y hy
  · simp at hy; subst hy; exact hx
theorem BkAt.of_own {W : World} {B : Nat} {a : Option Addr} {n c : Nat} {l : List BkR} (h : W.ownsRow B 49 7 (.slice a n c) n (rowG BkR.cells l)) (hl : l.length = n) : BkAt W a n c l := by
  obtain ⟨a', c', e, S⟩ := SliceOf.of_rowG BkR.cells_len zBk h hl
  injection e with e1 e2 e3
  subst e1 e3
  exact ⟨hl, S⟩
theorem PcAt.of_own {W : World} {B : Nat} {a : Option Addr} {n c : Nat} {l : List PcR} (h : W.ownsRow B 25 3 (.slice a n c) n (rowG PcR.cells l)) (hl : l.length = n) : PcAt W a n c l := by
  obtain ⟨a', c', e, S⟩ := SliceOf.of_rowG PcR.cells_len zPc h hl
  injection e with e1 e2 e3
  subst e1 e3
  exact ⟨hl, S⟩
def zRp : RpR := ⟨0, false, 0, 0, 0, 0, none, 0, 0, []⟩
/-- While a piece and its report are appended, drawn: pieces (ops 3, 4), reports (ops 7, 8). -/
structure CTwo (w0 : World) (B : Nat) (pv av : Value) (m : Nat) (ps rs pcs rcs : List Value) (L : Nat → Bool) (G : Nat → Value) (W : World) : Prop where
  base : Below B w0 W
  keep : ∀ j, j < w0.heap.size → pv.ownBlock ≠ some j → av.ownBlock ≠ some j → W.heap[j]? = w0.heap[j]?
  lit3 : L 3 = true → L 4 = false → ∃ g, G 3 = .slice (some ⟨g, 0, none⟩) 1 1 ∧ Blk W g 25 pcs.toArray ∧ w0.heap.size ≤ g
  lit7 : L 7 = true → L 8 = false → ∃ g, G 7 = .slice (some ⟨g, 0, none⟩) 1 1 ∧ Blk W g 32 rcs.toArray ∧ w0.heap.size ≤ g
  p0 : L 4 = false → W.ownsRow B 25 3 pv m ps
  p1 : L 4 = true → W.ownsRow B 25 3 (G 4) (m + 1) (ps ++ pcs)
  r0 : L 8 = false → W.ownsRow B 32 7 av m rs
  r1 : L 8 = true → W.ownsRow B 32 7 (G 8) (m + 1) (rs ++ rcs)
section
variable {w0 : World} {B : Nat} {pv av : Value} {m : Nat} {ps rs pcs rcs : List Value} {L : Nat → Bool} {G : Nat → Value} {W W' : World}
theorem CTwo.start (hB : B ≤ w0.heap.size) (hp : w0.ownsRow B 25 3 pv m ps) (hr : w0.ownsRow B 32 7 av m rs) (G : Nat → Value) : CTwo w0 B pv av m ps rs pcs rcs (fun _ => false) G w0.drew :=
  ⟨(Below.refl _ _).drew, fun _ _ _ _ => rfl, (fun e => by cases e), (fun e => by cases e), fun _ => hp, (fun e => by cases e), fun _ => hr, (fun e => by cases e)⟩
/-- Blocks are added. -/
theorem CTwo.add (h : CTwo w0 B pv av m ps rs pcs rcs L G W) (hB : B ≤ w0.heap.size) (hb : Below W.heap.size W W') {z : Nat} (h3 : z ≠ 3) (h4 : z ≠ 4) (h7 : z ≠ 7) (h8 : z ≠ 8) (u : Value) : CTwo w0 B pv av m ps rs pcs rcs (upd L z) (upF G z u) W' := by
  have sz := h.base.size
  have e3 : upd L z 3 = L 3 := updL_ne L (Ne.symm h3)
  have e4 : upd L z 4 = L 4 := updL_ne L (Ne.symm h4)
  have e7 : upd L z 7 = L 7 := updL_ne L (Ne.symm h7)
  have e8 : upd L z 8 = L 8 := updL_ne L (Ne.symm h8)
  refine ⟨below_then h.base hb (by omega), fun j j1 j2 j3 => (hb.block j (by omega)).trans (h.keep j j1 j2 j3), ?_, ?_, ?_, ?_, ?_, ?_⟩
  · rw [e3, e4, upF_ne _ _ (Ne.symm h3)]
    intro a b
    obtain ⟨g, q1, q2, q3⟩ := h.lit3 a b
    exact ⟨g, q1, q2.below hb q2.lt, q3⟩
  · rw [e7, e8, upF_ne _ _ (Ne.symm h7)]
    intro a b
    obtain ⟨g, q1, q2, q3⟩ := h.lit7 a b
    exact ⟨g, q1, q2.below hb q2.lt, q3⟩
  · rw [e4]; exact fun a => own_lasts (h.p0 a) hb
  · rw [e4, upF_ne _ _ (Ne.symm h4)]; exact fun a => own_lasts (h.p1 a) hb
  · rw [e8]; exact fun a => own_lasts (h.r0 a) hb
  · rw [e8, upF_ne _ _ (Ne.symm h8)]; exact fun a => own_lasts (h.r1 a) hb
theorem CTwo.quiet (h : CTwo w0 B pv av m ps rs pcs rcs L G W) {z : Nat} (h3 : z ≠ 3) (h4 : z ≠ 4) (h7 : z ≠ 7) (h8 : z ≠ 8) : CTwo w0 B pv av m ps rs pcs rcs (upd L z) G W := by
  have e3 : upd L z 3 = L 3 := updL_ne L (Ne.symm h3)
  have e4 : upd L z 4 = L 4 := updL_ne L (Ne.symm h4)
  have e7 : upd L z 7 = L 7 := updL_ne L (Ne.symm h7)
  have e8 : upd L z 8 = L 8 := updL_ne L (Ne.symm h8)
  exact ⟨h.base, h.keep, by rw [e3, e4]; exact h.lit3, by rw [e7, e8]; exact h.lit7, by rw [e4]; exact h.p0, by rw [e4]; exact h.p1, by rw [e8]; exact h.r0, by rw [e8]; exact h.r1⟩
theorem CTwo.mk3 (h : CTwo w0 B pv av m ps rs pcs rcs L G W) (hB : B ≤ w0.heap.size) : CTwo w0 B pv av m ps rs pcs rcs (upd L 3) (upF G 3 (.slice (some ⟨W.heap.size, 0, none⟩) 1 1)) (W.alloc (.cells pcs.toArray 25)) := by
  have hb : Below W.heap.size W (W.alloc (.cells pcs.toArray 25)) := (Below.refl _ _).alloc (Nat.le_refl _) _
  have h2 := h.add (z := 0) hB hb (by decide) (by decide) (by decide) (by decide) undef
  have sz := h.base.size
  refine ⟨h2.base, h2.keep, fun _ _ => ⟨_, upF_same _ _ _, Blk.new _ _ _, sz⟩, fun a b => ?_, fun a => h2.p0 a, fun a => ?_, fun a => h2.r0 a, fun a => ?_⟩
  · rw [upF_ne _ _ (by decide)]
    have := h2.lit7 a b
    rw [upF_ne _ _ (by decide)] at this
    exact this
  · rw [upF_ne _ _ (by decide)]
    have := h2.p1 a
    rw [upF_ne _ _ (by decide)] at this
    exact this
  · rw [upF_ne _ _ (by decide)]
    have := h2.r1 a
    rw [upF_ne _ _ (by decide)] at this
    exact this
theorem CTwo.mk7 (h : CTwo w0 B pv av m ps rs pcs rcs L G W) (hB : B ≤ w0.heap.size) : CTwo w0 B pv av m ps rs pcs rcs (upd L 7) (upF G 7 (.slice (some ⟨W.heap.size, 0, none⟩) 1 1)) (W.alloc (.cells rcs.toArray 32)) := by
  have hb : Below W.heap.size W (W.alloc (.cells rcs.toArray 32)) := (Below.refl _ _).alloc (Nat.le_refl _) _
  have h2 := h.add (z := 0) hB hb (by decide) (by decide) (by decide) (by decide) undef
  have sz := h.base.size
  refine ⟨h2.base, h2.keep, fun a b => ?_, fun _ _ => ⟨_, upF_same _ _ _, Blk.new _ _ _, sz⟩, fun a => h2.p0 a, fun a => ?_, fun a => h2.r0 a, fun a => ?_⟩
  · rw [upF_ne _ _ (by decide)]
    have := h2.lit3 a b
    rw [upF_ne _ _ (by decide)] at this
    exact this
  · rw [upF_ne _ _ (by decide)]
    have := h2.p1 a
    rw [upF_ne _ _ (by decide)] at this
    exact this
  · rw [upF_ne _ _ (by decide)]
    have := h2.r1 a
    rw [upF_ne _ _ (by decide)] at this
    exact this
theorem CTwo.app4 (h : CTwo w0 B pv av m ps rs pcs rcs L G W) (hB : B ≤ w0.heap.size) (hL4 : L 4 = false) {u : Value} (own : W'.ownsRow B 25 3 u (m + 1) (ps ++ pcs)) (hg : W.grownBy W' pv.ownBlock) : CTwo w0 B pv av m ps rs pcs rcs (upd L 4) (upF G 4 u) W' := by
  have sz := h.base.size
  have own0 := h.p0 hL4
  have e7 : upd L 4 7 = L 7 := updL_ne L (by decide)
  have e8 : upd L 4 8 = L 8 := updL_ne L (by decide)
  refine ⟨h.base.grown hg (by omega) (fun j hj => (own0.lt j hj).1), fun j j1 j2 j3 => (hg.block j (by omega) (fun e => j2 e.symm)).trans (h.keep j j1 j2 j3), (fun _ e => by rw [updL_at] at e; cases e), ?_, (fun e => by rw [updL_at] at e; cases e), fun _ => by rw [upF_same]; exact own, ?_, ?_⟩
  · rw [e7, e8, upF_ne _ _ (by decide)]
    intro a b
    obtain ⟨g, q1, q2, q3⟩ := h.lit7 a b
    exact ⟨g, q1, (hg.block g q2.lt (fun e => own_ne_blk own0 q2 (by decide) e.symm)).trans q2, q3⟩
  · rw [e8]
    intro a
    have h1 := h.r0 a
    exact own_at h1 (fun j hj => hg.block j (h1.lt j hj).2 (fun e => own_types h1 own0 (by decide) hj e.symm))
  · rw [e8, upF_ne _ _ (by decide)]
    intro a
    have h1 := h.r1 a
    exact own_at h1 (fun j hj => hg.block j (h1.lt j hj).2 (fun e => own_types h1 own0 (by decide) hj e.symm))
theorem CTwo.app8 (h : CTwo w0 B pv av m ps rs pcs rcs L G W) (hB : B ≤ w0.heap.size) (hL8 : L 8 = false) {u : Value} (own : W'.ownsRow B 32 7 u (m + 1) (rs ++ rcs)) (hg : W.grownBy W' av.ownBlock) : CTwo w0 B pv av m ps rs pcs rcs (upd L 8) (upF G 8 u) W' := by
  have sz := h.base.size
  have own0 := h.r0 hL8
  have e3 : upd L 8 3 = L 3 := updL_ne L (by decide)
  have e4 : upd L 8 4 = L 4 := updL_ne L (by decide)
  refine ⟨h.base.grown hg (by omega) (fun j hj => (own0.lt j hj).1), fun j j1 j2 j3 => (hg.block j (by omega) (fun e => j3 e.symm)).trans (h.keep j j1 j2 j3), ?_, (fun _ e => by rw [updL_at] at e; cases e), ?_, ?_, (fun e => by rw [updL_at] at e; cases e), fun _ => by rw [upF_same]; exact own⟩
  · rw [e3, e4, upF_ne _ _ (by decide)]
    intro a b
    obtain ⟨g, q1, q2, q3⟩ := h.lit3 a b
    exact ⟨g, q1, (hg.block g q2.lt (fun e => own_ne_blk own0 q2 (by decide) e.symm)).trans q2, q3⟩
  · rw [e4]
    intro a
    have h1 := h.p0 a
    exact own_at h1 (fun j hj => hg.block j (h1.lt j hj).2 (fun e => own_types h1 own0 (by decide) hj e.symm))
  · rw [e4, upF_ne _ _ (by decide)]
    intro a
    have h1 := h.p1 a
    exact own_at h1 (fun j hj => hg.block j (h1.lt j hj).2 (fun e => own_types h1 own0 (by decide) hj e.symm))
end
theorem RdAt.of_own {W : World} {B : Nat} {a : Option Addr} {n c : Nat} {l : List BkR} (h : W.ownsRow B 67 7 (.slice a n c) n (rowG toldC l)) (hl : l.length = n) : RdAt W a n c l := by
  obtain ⟨a', c', e, S⟩ := SliceOf.of_rowG toldC_len zBk h hl
  injection e with e1 e2 e3
  subst e1 e3
  exact S
/-- Both told reports' rows, while the third region is drawn. -/
structure FRp (s : Int) (y : Bool) (c t p b : Int) (n : Nat) (l : List BkR) (i : Nat) (v : Value) (W : World) : Prop where
  h4 : i = 4 → ∃ a cv, v = .agg #[.int .i64 s, .bool y, .int .i64 c, .int .i64 t, .int .i64 p, .int .i64 b, .slice a n cv] ∧ RdAt W a n cv l
  h9 : i = 9 → ∃ a cv, v = .agg #[.int .i64 s, .bool y, .int .i64 c, .int .i64 t, .int .i64 p, .int .i64 b, .slice a n cv] ∧ RdAt W a n cv l
theorem FRp_lasts (s : Int) (y : Bool) (c t p b : Int) (n : Nat) (l : List BkR) : Lasts (FRp s y c t p b n l) := fun i v W W' h hb =>
  ⟨fun e => by obtain ⟨a, cv, h1, h2⟩ := h.h4 e; exact ⟨a, cv, h1, SliceOf.below h2 hb⟩, fun e => by obtain ⟨a, cv, h1, h2⟩ := h.h9 e; exact ⟨a, cv, h1, SliceOf.below h2 hb⟩⟩
structure GRp (s : Int) (y : Bool) (c t p b : Int) (n : Nat) (q : Nat) (v : Value) : Prop where
  a4 : q = 4 → ∃ a cv, v = .agg #[.int .i64 s, .bool y, .int .i64 c, .int .i64 t, .int .i64 p, .int .i64 b, .slice a n cv]
  a9 : q = 9 → ∃ a cv, v = .agg #[.int .i64 s, .bool y, .int .i64 c, .int .i64 t, .int .i64 p, .int .i64 b, .slice a n cv]
  a10 : q = 10 → v = .bool true
structure GTwo (m : Nat) (pc : Value) (q : Nat) (v : Value) : Prop where
  a2 : q = 2 → v = pc
  a3 : q = 3 → ∃ g, v = .slice (some ⟨g, 0, none⟩) 1 1
  a4 : q = 4 → ∃ g c, v = .slice (some ⟨g, 0, none⟩) (m + 1) c
  a7 : q = 7 → ∃ g, v = .slice (some ⟨g, 0, none⟩) 1 1
  a8 : q = 8 → ∃ g c, v = .slice (some ⟨g, 0, none⟩) (m + 1) c
end Go.Proofs.Ytolgdcchnmbmnaa
