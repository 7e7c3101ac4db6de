/- CordelleAsked: the statements' low; the worlds. No condition but the numbers' bounds. -/
import Derived.Test.YtonamlgipoannaaAskP
import Derived.Test.YtonamlgipoannaaAskN
import Derived.Test.YtonamlgipoannaaMapsB
import Derived.Test.YtonamlgipoannaaHist8
import Derived.Test.YtonamlgipoannaaGaps11
namespace Go.Proofs.Ytonamlgipoannaa
open Go.RowKit Go.Maps BigFrame
attribute [local go_sem ↓] Go.wp_at_zero Go.wp_at_succ

set_option maxHeartbeats 2000000 in
theorem top_low (a : Option Addr) (l c : Nat) (e : Nat → Int) (w : World) (S : SliceOf w a l c 1 (fun i => [.int .i64 (e i)])) (hl : l ≤ 100000) (he : ∀ i, i < l → 0 ≤ e i ∧ e i ≤ 65535) :
    Calls Try.prog 37 #[.slice a l c] w (OwnsRes w 90 l (cellsK .u16 (lst e l))) := by
  obtain ⟨i0, hi0, hz0, hz1, hz2⟩ := info_parts (show (Try.prog.info? 90).map (fun i => (i.zero, i.size, i.bytes)) = some (some (.int .u16 0), 1, 2) by kernel_rfl)
  go_enter Try.func37, Try.ntmps37
  go_wp2_with fail
  go_loopw [3, 8] (fun x3 x8 wr => ∃ k : Nat, k ≤ l ∧ x8 = .int .i64 k ∧ wr.ownsRow w.heap.size 90 1 x3 k (cellsK .u16 (lst e k)) ∧ Below w.heap.size w wr) (fun _ x8 _ => l - (intOf x8).toNat)
  case atStart => exact ⟨0, by omega, rfl, ⟨rfl, .inl ⟨rfl, rfl⟩⟩, Below.refl _ _⟩
  case round =>
    obtain ⟨k, hk, rfl, own, B⟩ := hrel
    by_cases hlt : k < l
    · obtain ⟨b, off, rfl, hbb, hcell⟩ := S.at1 (by omega)
      obtain ⟨x, hx⟩ : ∃ x, e k = x := ⟨_, rfl⟩
      have hxb := he k hlt
      have d := (B.cell (p := ⟨b, off + k, none⟩) hbb).trans (hcell k hlt)
      rw [hx] at d hxb
      obtain ⟨x0, x1⟩ := hxb
      have i1 : (0 : Int) ≤ (k : Int) := by omega
      have i2 : (k : Int) < (l : Int) := by omega
      have wk : IntKind.i64.wrap ((k : Int) + 1) = ((k + 1 : Nat) : Int) := by rw [IntWalk.i64_in _ (by omega)]; omega
      have wx : IntKind.u16.wrap x = x := by rw [IntKind.wrap_u16]; omega
      have HX := Lib.hid hx
      clear hx hcell
      go_wp2_with (at_builtin; refine wpList_append_lies _ rfl _ _ 82 rfl w.heap.size 90 i0 (.int .u16 0) 1 2 Try.underlying82 hi0 hz0 hz1 hz2 rfl (by decide) _ _ _ rfl (own.alloc _) ⟨wr.heap.size, 0, none⟩ 1 1 [.int .u16 x] rfl rfl (cell_one_new _ _ _) (by simp [Value.oneCell']) (by omega) (by rw [maxLen_eq]; omega) (by omega) (Nat.le_trans B.size (by simp)) _ rfl ?_; intro g2 cap w1 own1 hgrow hat hlt1)
      have hB1 := (B.alloc B.size _).grown hgrow (by have := B.size; simp; omega) (fun j hj => (own.lt j hj).1)
      go_roundw
      case rel => exact ⟨k + 1, by omega, by go_num, by rw [lst_succ, cellsK_snoc, HX.out]; exact own1, hB1⟩
      case measure => simp only [intOf]; omega
    · obtain rfl : k = l := by omega
      have j1 : ¬ (k : Int) < (k : Int) := by omega
      go_wp2_with fail
      go_ret
      exact ⟨_, rfl, own, B⟩
theorem own_ne_bm {w : World} {B e s n : Nat} {v : Value} {xs : List Value} (h : w.ownsRow B e s v n xs) {b m : Nat} {f : Int → Bool} (hm : BoolM w b m f) : v.ownBlock ≠ some b := by
  obtain ⟨D, ⟨es, cl, hg, F, hs⟩, hf⟩ := hm
  rcases h.2 with ⟨rfl, _⟩ | ⟨g, cap, cur, rfl, hb, hg2, _⟩
  · intro e; cases e
  · intro e
    injection e with e
    subst e
    have h1 : Blk w g _ cur := hg2
    unfold Blk at h1
    rw [h1] at hg
    cases hg
theorem blk_ne_map {w : World} {g t : Nat} {cs : Array Value} (h : Blk w g t cs) {b m : Nat} {f : Int → Bool} (hm : BoolM w b m f) : g ≠ b := by
  obtain ⟨D, ⟨es, cl, hg, F, hs⟩, hf⟩ := hm
  intro e
  subst e
  unfold Blk at h
  rw [h] at hg
  cases hg
/-- The gaps, the history and the map. -/
structure AskW (w0 wr : World) (g h mp : Nat) (T : Int) (y : Bool) (e u : Int) (l : List WR) (v : Value) (c : Int) (hl : List HR) (vh : Value) (nm : Nat) (hd : Int → Bool) : Prop where
  gv : GV wr g 200 5 0 2 y e u l v
  hv : HV wr h 500 T c hl vh
  mm : BoolM wr mp nm hd
  g0 : w0.heap.size ≤ g
  h0 : w0.heap.size ≤ h
  m0 : w0.heap.size ≤ mp
  v0 : ∀ k, v.ownBlock = some k → w0.heap.size ≤ k
  vh0 : ∀ k, vh.ownBlock = some k → w0.heap.size ≤ k
  below : Below w0.heap.size w0 wr
section
variable {w0 wr w' : World} {g h mp : Nat} {T : Int} {y : Bool} {e u : Int} {l : List WR} {v : Value} {c : Int} {hl : List HR} {vh : Value} {nm : Nat} {hd : Int → Bool}
theorem HV.at2 {W W' : World} {h : Nat} {a b c : Int} {hl : List HR} {vh : Value} (H : HV W h a b c hl vh) (hg : W'.heap[h]? = W.heap[h]?) (hv : ∀ j, vh.ownBlock = some j → W'.heap[j]? = W.heap[j]?) : HV W' h a b c hl vh :=
  ⟨hg.trans H.blk, own_at H.own hv, H.ne⟩
theorem AskW.down (A : AskW w0 wr g h mp T y e u l v c hl vh nm hd) (hb : Below wr.heap.size wr w') : AskW w0 w' g h mp T y e u l v c hl vh nm hd :=
  ⟨A.gv.below hb, A.hv.below hb, A.mm.at_ (hb.block mp A.mm.lt), A.g0, A.h0, A.m0, A.v0, A.vh0, below_then A.below hb (Nat.le_refl _)⟩
theorem AskW.gaps (A : AskW w0 wr g h mp T y e u l v c hl vh nm hd) {y2 : Bool} {e2 u2 : Int} {l2 : List WR} {v2 : Value} (q : GV w' g 200 5 0 2 y2 e2 u2 l2 v2) (M : Moved wr w' g v v2) : AskW w0 w' g h mp T y2 e2 u2 l2 v2 c hl vh nm hd := by
  have sz := A.below.size
  have hgh : h ≠ g := Blk.ne_ A.hv.blk A.gv.blk (by decide)
  have hvh : v.ownBlock ≠ some h := own_ne_blk A.gv.own A.hv.blk (by decide)
  have hmg : mp ≠ g := fun e => blk_ne_map A.gv.blk A.mm e.symm
  have hmv := own_ne_bm A.gv.own A.mm
  exact ⟨q, A.hv.at2 (M.keep h A.hv.blk.lt hgh hvh) (fun j hj => M.keep j (A.hv.own.lt j hj).2 (fun e => by subst e; exact own_ne_blk A.hv.own A.gv.blk (by decide) hj) (fun e => own_ne A.hv.own A.gv.own (by decide) j hj e)), A.mm.at_ (M.keep mp A.mm.lt hmg hmv), A.g0, A.h0, A.m0, M.base sz A.v0, A.vh0, A.below.trans (M.down sz A.g0 A.v0)⟩
theorem AskW.hist (A : AskW w0 wr g h mp T y e u l v c hl vh nm hd) {c2 : Int} {hl2 : List HR} {vh2 : Value} (q : HV w' h 500 T c2 hl2 vh2) (M : Moved wr w' h vh vh2) : AskW w0 w' g h mp T y e u l v c2 hl2 vh2 nm hd := by
  have sz := A.below.size
  have hgh : g ≠ h := Blk.ne_ A.gv.blk A.hv.blk (by decide)
  have hvh : vh.ownBlock ≠ some g := own_ne_blk A.hv.own A.gv.blk (by decide)
  have hmg : mp ≠ h := fun e => blk_ne_map A.hv.blk A.mm e.symm
  have hmv := own_ne_bm A.hv.own A.mm
  exact ⟨A.gv.at_ (M.keep g A.gv.blk.lt hgh hvh) (fun j hj => M.keep j (A.gv.own.lt j hj).2 (fun e => by subst e; exact own_ne_blk A.gv.own A.hv.blk (by decide) hj) (fun e => own_ne A.gv.own A.hv.own (by decide) j hj e)), q, A.mm.at_ (M.keep mp A.mm.lt hmg hmv), A.g0, A.h0, A.m0, A.v0, M.base sz A.vh0, A.below.trans (M.down sz A.h0 A.vh0)⟩
theorem AskW.put (A : AskW w0 wr g h mp T y e u l v c hl vh nm hd) {nm2 : Nat} {hd2 : Int → Bool} (q : BoolM w' mp nm2 hd2) (hg : wr.grownBy w' (some mp)) : AskW w0 w' g h mp T y e u l v c hl vh nm2 hd2 := by
  have sz := A.below.size
  have far := grown_far hg
  have hmg : g ≠ mp := blk_ne_map A.gv.blk A.mm
  have hmh : h ≠ mp := blk_ne_map A.hv.blk A.mm
  exact ⟨A.gv.at_ (far g A.gv.blk.lt hmg) (fun j hj => far j (A.gv.own.lt j hj).2 (fun e => own_ne_bm A.gv.own A.mm (e ▸ hj))), A.hv.at2 (far h A.hv.blk.lt hmh) (fun j hj => far j (A.hv.own.lt j hj).2 (fun e => own_ne_bm A.hv.own A.mm (e ▸ hj))), q, A.g0, A.h0, A.m0, A.v0, A.vh0, A.below.trans (grown_below hg A.m0 sz)⟩
end
theorem conv_byte (W : World) (g : Nat) (a : Int) (h : Blk W g 5 #[.int .u8 a]) :
    (convert 81 9 (.slice (some ⟨g, 0, none⟩) 1 1)).run Try.prog W = .ok (.string (strOfNums [a])) W :=
  run_convert_bytes_arg (P := Try.prog) W 81 5 Try.underlying81 Try.underlying5 g 0 1 1 [a] rfl (fun i hi => by
    rw [h.cell, Nat.zero_add]
    match i, hi with
    | 0, _ => rfl) 9 Try.underlying9
end Go.Proofs.Ytonamlgipoannaa
