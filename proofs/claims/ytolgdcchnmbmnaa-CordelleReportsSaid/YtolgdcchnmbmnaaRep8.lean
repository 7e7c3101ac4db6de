/- Law 08: a report told as the document's; two told alike. No condition but how many blocks. -/
import Derived.Test.YtolgdcchnmbmnaaRep5
import Derived.Test.YtolgdcchnmbmnaaSub3
namespace Go.Proofs.Ytolgdcchnmbmnaa
open Go.RowKit BigFrame
attribute [local go_sem ↓] Go.wp_at_zero Go.wp_at_succ

def toldC (x : BkR) : List Value := [.int .i64 x.s, .int .i64 x.f, .int .i64 x.l, .int .i64 x.h, .int .i64 x.j, .int .i64 x.a, .int .i64 x.d]
theorem toldC_len (x : BkR) : (toldC x).length = 7 := rfl
theorem info_rb : ∃ i, Try.prog.info? 67 = some i ∧ i.zero = some (.agg #[.int .i64 0, .int .i64 0, .int .i64 0, .int .i64 0, .int .i64 0, .int .i64 0, .int .i64 0]) ∧ i.size = 7 ∧ i.bytes = 56 := by
  have h : (Try.prog.info? 67).map (fun i => (i.zero, i.size, i.bytes)) = some (some (.agg #[.int .i64 0, .int .i64 0, .int .i64 0, .int .i64 0, .int .i64 0, .int .i64 0, .int .i64 0]), 7, 56) := by kernel_rfl
  obtain ⟨i, hi, he⟩ := Option.map_eq_some_iff.1 h
  simp only [Prod.mk.injEq] at he
  exact ⟨i, hi, he.1, he.2.1, he.2.2⟩
set_option maxRecDepth 8000 in
set_option maxHeartbeats 8000000 in
theorem law08_Told (s : Int) (y : Bool) (c t p b : Int) (la : Option Addr) (n cp : Nat) (l : List BkR) (hs : U32 s) (ht : U32 t) (hp : U32 p) (hb : U32 b) (hl : ∀ x ∈ l, x.Ok) (hn : n ≤ 1000) (w : World) (S : BkAt w la n cp l) :
    Calls Try.prog 11 #[.agg #[.int .u32 s, .bool y, .int .i64 c, .int .u32 t, .int .u32 p, .int .u32 b, .slice la n cp]] w fun e w' => ∃ a cv, e = .returned (.agg #[.int .i64 s, .bool y, .int .i64 c, .int .i64 t, .int .i64 p, .int .i64 b, .slice a n cv]) ∧ w'.ownsRow w.heap.size 67 7 (.slice a n cv) n (rowG toldC l) ∧ Below w.heap.size w w' := by
  obtain ⟨i0, hi0, hz0, hz1, hz2⟩ := info_rb
  obtain ⟨K1, K2, B2⟩ := two_newS w #[.int .u32 s, .bool y, .int .i64 c, .int .u32 t, .int .u32 p, .int .u32 b, .slice la n cp] #[.int .i64 0, .bool false, .int .i64 0, .int .i64 0, .int .i64 0, .int .i64 0, .slice none 0 0] 32 43
  have HL := Lib.hid S.len
  have HOK := Lib.hid hl
  obtain ⟨s0, s1⟩ := hs
  obtain ⟨t0, t1⟩ := ht
  obtain ⟨p0, p1⟩ := hp
  obtain ⟨b0, b1⟩ := hb
  have ws : IntKind.i64.wrap s = s := IntWalk.i64_in _ (by omega)
  have wt : IntKind.i64.wrap t = t := IntWalk.i64_in _ (by omega)
  have wp' : IntKind.i64.wrap p = p := IntWalk.i64_in _ (by omega)
  have wb : IntKind.i64.wrap b = b := IntWalk.i64_in _ (by omega)
  clear hl
  go_enter Try.func11, Try.ntmps11
  go_upto_region 1 with fail
  generalize (w.alloc (.cells #[.int .u32 s, .bool y, .int .i64 c, .int .u32 t, .int .u32 p, .int .u32 b, .slice la n cp] 32)).alloc (.cells #[.int .i64 0, .bool false, .int .i64 0, .int .i64 0, .int .i64 0, .int .i64 0, .slice none 0 0] 43) = w2 at *
  have c1 := K1.cell
  simp at c1
  have K3 := Blk.new w2 43 #[.int .i64 s, .bool y, .int .i64 c, .int .i64 t, .int .i64 p, .int .i64 b, .slice none 0 0]
  have B3' : Below w2.heap.size w2 (w2.alloc (.cells #[.int .i64 s, .bool y, .int .i64 c, .int .i64 t, .int .i64 p, .int .i64 b, .slice none 0 0] 43)) := (Below.refl _ _).alloc (Nat.le_refl _) _
  have K13 := K1.below B3' K1.lt
  have K23 := K2.below B3' K2.lt
  have B3 := below_then B2 B3' (Nat.le_refl _)
  have n32 : w2.heap.size ≠ w.heap.size + 1 := by have := K2.lt; omega
  have n31 : w2.heap.size ≠ w.heap.size := by have := K2.lt; omega
  have n30 : w.heap.size ≤ w2.heap.size := B2.size
  go_upto_region 2 with fail
  clear c1 K1 K2 B2 B3' ws wt wp' wb
  obtain ⟨g3, hg3⟩ : ∃ g, w2.heap.size = g := ⟨_, rfl⟩
  rw [hg3] at K3 n30 n31 n32 ⊢
  generalize w2.alloc (.cells #[.int .i64 s, .bool y, .int .i64 c, .int .i64 t, .int .i64 p, .int .i64 b, .slice none 0 0] 43) = w3 at *
  clear hg3
  have c1 := K13.cell
  simp at c1
  go_wp2_with fail
  clear c1
  go_loopw [30] (fun x wr => ∃ (k : Nat) (av : Option Addr) (cv : Nat), k ≤ n ∧ x = .int .i64 k ∧ Blk wr g3 43 #[.int .i64 s, .bool y, .int .i64 c, .int .i64 t, .int .i64 p, .int .i64 b, .slice av k cv] ∧ wr.ownsRow w.heap.size 67 7 (.slice av k cv) k (rowG toldC (l.take k)) ∧ Blk wr (w.heap.size + 1) 43 #[.int .i64 0, .bool false, .int .i64 0, .int .i64 0, .int .i64 0, .int .i64 0, .slice none 0 0] ∧ Below w.heap.size w wr) (fun x _ => n - (intOf x).toNat)
  case atStart => exact ⟨0, none, 0, by omega, rfl, K3, ⟨rfl, .inl ⟨rfl, rfl⟩⟩, K23, B3⟩
  case round =>
    clear K3 K13 K23 B3
    obtain ⟨k, av, cv, hk, rfl, K3, own, K2, B⟩ := hrel
    by_cases hlt : k < n
    · obtain ⟨ga, off, rfl, hg, hcell⟩ := S.at_ (by omega)
      obtain ⟨x, hx, hcl⟩ := hcell k hlt
      have hox := HOK.out x (List.mem_of_getElem? hx)
      have hrw : Hid (rowG toldC (l.take (k + 1)) = rowG toldC (l.take k) ++ toldC x) := Lib.hid (by rw [List.take_add_one, hx, rowG_append]; simp [rowG])
      obtain ⟨xs, xf, xl, xh, xj, xa, xd⟩ := x
      have e0 := (B.cell (p := ⟨ga, off + k * 7, none⟩) hg).trans (hcl 0 _ rfl)
      have e1 := (B.cell (p := ⟨ga, off + k * 7 + 1, none⟩) hg).trans (hcl 1 _ rfl)
      have e2 := (B.cell (p := ⟨ga, off + k * 7 + 2, none⟩) hg).trans (hcl 2 _ rfl)
      have e3 := (B.cell (p := ⟨ga, off + k * 7 + 3, none⟩) hg).trans (hcl 3 _ rfl)
      have e4 := (B.cell (p := ⟨ga, off + k * 7 + 4, none⟩) hg).trans (hcl 4 _ rfl)
      have e5 := (B.cell (p := ⟨ga, off + k * 7 + 5, none⟩) hg).trans (hcl 5 _ rfl)
      have e6 := (B.cell (p := ⟨ga, off + k * 7 + 6, none⟩) hg).trans (hcl 6 _ rfl)
      simp only at e0 e1 e2 e3 e4 e5 e6
      obtain ⟨⟨u0, u1⟩, ⟨u2, u3⟩, ⟨u4, u5⟩, ⟨u6, u7⟩, ⟨u8, u9⟩⟩ := hox
      simp only at u0 u1 u2 u3 u4 u5 u6 u7 u8 u9
      have v0 : IntKind.i64.wrap xs = xs := IntWalk.i64_in _ (by omega)
      have v1 : IntKind.i64.wrap xh = xh := IntWalk.i64_in _ (by omega)
      have v2 : IntKind.i64.wrap xj = xj := IntWalk.i64_in _ (by omega)
      have v3 : IntKind.i64.wrap xa = xa := IntWalk.i64_in _ (by omega)
      have v4 : IntKind.i64.wrap xd = xd := IntWalk.i64_in _ (by omega)
      have i0' : (0 : Int) ≤ (k : Int) := by omega
      have i1 : (k : Int) < (n : Int) := by omega
      clear hcell hcl hx
      go_upto_region 5 with fail
      have k4 := Blk.new wr 49 #[.int .u32 xs, .int .i64 xf, .int .i64 xl, .int .u32 xh, .int .u32 xj, .int .u32 xa, .int .u32 xd]
      have B4 : Below wr.heap.size wr (wr.alloc (.cells #[.int .u32 xs, .int .i64 xf, .int .i64 xl, .int .u32 xh, .int .u32 xj, .int .u32 xa, .int .u32 xd] 49)) := (Below.refl _ wr).alloc (Nat.le_refl _) _
      have K35 := K3.below B4 K3.lt
      have K25 := K2.below B4 K2.lt
      have own5 := own_lasts own B4
      have B5 := below_then B B4 (Nat.le_refl _)
      generalize wr.alloc (.cells #[.int .u32 xs, .int .i64 xf, .int .i64 xl, .int .u32 xh, .int .u32 xj, .int .u32 xa, .int .u32 xd] 49) = w5 at *
      generalize wr.heap.size = g4 at *
      clear e0 e1 e2 e3 e4 e5 e6 B4 B own K3 K2
      have c4 := k4.cell
      have c3 := K35.cell
      simp at c4 c3
      have kb := Blk.new w5 67 #[.int .i64 xs, .int .i64 xf, .int .i64 xl, .int .i64 xh, .int .i64 xj, .int .i64 xa, .int .i64 xd]
      have hnew := World.news_of_block kb
      have Bb : Below w5.heap.size w5 (w5.alloc (.cells #[.int .i64 xs, .int .i64 xf, .int .i64 xl, .int .i64 xh, .int .i64 xj, .int .i64 xa, .int .i64 xd] 67)) := (Below.refl _ _).alloc (Nat.le_refl _) _
      have own6 := own_lasts own5 Bb
      have K36 := K35.below Bb K35.lt
      have K26 := K25.below Bb K25.lt
      have B6 := below_then B5 Bb (Nat.le_refl _)
      have no3 := own_ne_blk own6 K36 (by decide)
      have no2 := own_ne_blk own6 K26 (by decide)
      have l3 := K36.lt
      have l2 := K26.lt
      go_wp2_with (at_builtin; refine wpList_append_lies _ rfl _ _ 41 rfl w.heap.size 67 i0 (.agg #[.int .i64 0, .int .i64 0, .int .i64 0, .int .i64 0, .int .i64 0, .int .i64 0, .int .i64 0]) 7 56 Try.underlying41 hi0 hz0 hz1 hz2 rfl (by decide) _ _ _ rfl own6 ⟨w5.heap.size, 0, none⟩ 1 1 [.int .i64 xs, .int .i64 xf, .int .i64 xl, .int .i64 xh, .int .i64 xj, .int .i64 xa, .int .i64 xd] rfl rfl hnew (by simp [Value.oneCell']) (by omega) (by rw [maxLen_eq]; omega) (by omega) (by simp; have := B5.size; omega) _ rfl ?_; intro g7 cap7 w7 own7 hgrow hat hlt7; have k37 : Blk w7 g3 43 _ := Eq.trans (hgrow.block g3 l3 (fun e => no3 e.symm)) K36; have c37 := k37.cell; have f37 := k37.frozen; simp at c37)
      have k27 : Blk w7 (w.heap.size + 1) 43 _ := Eq.trans (hgrow.block _ l2 (fun e => no2 e.symm)) K26
      have B7 := B6.grown hgrow (by simp; have := B5.size; omega) (fun j hj => (own6.lt j hj).1)
      have hk8 : ∀ z, z ≠ g3 → (w7.setCell ⟨g3, 6, none⟩ (.slice (some ⟨g7, 0, none⟩) (k + 1) cap7)).heap[z]? = w7.heap[z]? := fun z hz => Below.heap_setCell _ ⟨g3, 6, none⟩ _ z hz
      have k38 := k37.set_ 6 (.slice (some ⟨g7, 0, none⟩) (k + 1) cap7)
      simp at k38
      have n7 : g7 ≠ g3 := fun e => own_ne_blk own7 k37 (by decide) (by rw [e]; rfl)
      have own8 := own_at own7 (w' := w7.setCell ⟨g3, 6, none⟩ (.slice (some ⟨g7, 0, none⟩) (k + 1) cap7)) (fun j hj => hk8 j (by
        simp only [Value.ownBlock, Option.some.injEq] at hj
        omega))
      have B8 : Below w.heap.size w (w7.setCell ⟨g3, 6, none⟩ (.slice (some ⟨g7, 0, none⟩) (k + 1) cap7)) := B7.setCell (p := ⟨g3, 6, none⟩) n30 _
      go_roundw
      case rel => exact ⟨k + 1, _, _, by omega, by go_num, k38, by rw [hrw.out]; exact own8, (hk8 _ (Ne.symm n32)).trans k27, B8⟩
      case measure => simp only [intOf]; omega
    · obtain rfl : k = n := by omega
      have hall : l.take k = l := by have := HL.out; rw [← this]; exact List.take_length
      rw [hall] at own
      have c3 := K3.cell
      simp at c3
      have c2 := K2.cell
      have f2 := K2.frozen
      simp at c2
      have no2 := own_ne_blk own K2 (by decide)
      obtain ⟨wS, eS, KS, BS, hkS⟩ := seven_set_ K2 (.int .i64 s) (.bool y) (.int .i64 c) (.int .i64 t) (.int .i64 p) (.int .i64 b) (.slice av k cv) w.heap.size (by omega)
      have cS := KS.cell
      simp at cS
      have ownS := own_at own (w' := wS) (fun j hj => hkS j (fun e => no2 (by rw [hj, e])))
      have BE := B.trans BS
      clear hall own K3 K2 B
      go_wp2_with fail
      refine bodyPost_ret (v := .agg #[.int .i64 s, .bool y, .int .i64 c, .int .i64 t, .int .i64 p, .int .i64 b, .slice av k cv]) ?_ rfl ⟨av, cv, rfl, ownS, BE⟩
      simp [results, Try.results11, go_sem, cS]
end Go.Proofs.Ytolgdcchnmbmnaa
