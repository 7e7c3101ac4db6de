/- Numbers as bytes, of the program and of the document. No condition but the sizes. (Printed by gen_penn.py.) -/
import Derived.Test.YtbibgffgljojgaaDoorBytes
import Derived.Test.YtbibgffgljojgaaDoorFacts
import Derived.Test.YtbibgffgljojgaaDoorInv
namespace Go.Proofs.YtbibgffgljojgaaDoor
open Go.RowKit BigFrame
attribute [local go_sem ↓] Go.wp_at_zero Go.wp_at_succ

theorem own_ne {w : World} {B e s n B' e' s' n' : Nat} {v v' : Value} {xs xs' : List Value} (h : w.ownsRow B e s v n xs) (h' : w.ownsRow B' e' s' v' n' xs') (hne : e ≠ e') : ∀ j, v.ownBlock = some j → v'.ownBlock ≠ some j := fun j hj hj' => by
  rcases h.2 with ⟨rfl, _⟩ | ⟨g, cap, cur, rfl, hb, hg, _⟩
  · cases hj
  · rcases h'.2 with ⟨rfl, _⟩ | ⟨g', cap', cur', rfl, hb', hg', _⟩
    · cases hj'
    · injection hj with hj
      injection hj' with hj'
      subst hj hj'
      rw [hg] at hg'
      injection hg' with hg'
      injection hg' with _ ht
      exact hne ht
theorem own_ne_blk {w : World} {B e s n g t : Nat} {v : Value} {xs : List Value} {cs : Array Value} (h : w.ownsRow B e s v n xs) (k : Blk w g t cs) (hne : e ≠ t) : v.ownBlock ≠ some g := fun hj => by
  rcases h.2 with ⟨rfl, _⟩ | ⟨g', cap, cur, rfl, hb, hg, _⟩
  · cases hj
  · injection hj with hj
    subst hj
    unfold Blk at k
    rw [hg] at k
    injection k with k
    injection k with _ ht
    exact hne ht
theorem own_down {W : World} {B B' e z n : Nat} {v : Value} {xs : List Value} (h : W.ownsRow B e z v n xs) (hB : B' ≤ B) : W.ownsRow B' e z v n xs := by
  refine ⟨h.1, ?_⟩
  rcases h.2 with h | ⟨g', cap, cur, h, hb, rest⟩
  · exact .inl h
  · exact .inr ⟨g', cap, cur, h, Nat.le_trans hB hb, rest⟩
theorem own_any {W : World} {B e z n : Nat} {v : Value} {xs : List Value} (h : W.ownsRow B e z v n xs) : ∃ a c, v = .slice a n c := by
  rcases h.2 with ⟨rfl, rfl⟩ | ⟨g, cap, cur, rfl, _⟩
  · exact ⟨_, _, rfl⟩
  · exact ⟨_, _, rfl⟩
theorem own_slice {w : World} {B E n : Nat} {v : Value} {xs : List Value} (h : w.ownsRow B E 1 v n xs) : ∃ a c, v = .slice a n c ∧ n = xs.length := by
  have h1 := h.1
  rcases h.2 with ⟨rfl, h0⟩ | ⟨g, cap, cur, rfl, _⟩
  · exact ⟨none, 0, by rw [h0], by omega⟩
  · exact ⟨_, cap, rfl, by omega⟩
theorem own_lasts {W W' : World} {B e z n : Nat} {v : Value} {xs : List Value} (h : W.ownsRow B e z v n xs) (hb : Below W.heap.size W W') : W'.ownsRow B e z v n xs := own_at h (fun j hj => hb.block j (h.lt j hj).2)
def be4All (ns : Nat → Int) (k : Nat) : List Int := (List.range k).flatMap fun i => beI (ns i) 4
theorem be4All_succ (ns : Nat → Int) (k : Nat) : be4All ns (k + 1) = be4All ns k ++ beI (ns k) 4 := by
  unfold be4All; rw [List.range_succ, List.flatMap_append]; simp
theorem be4All_len (ns : Nat → Int) (k : Nat) : (be4All ns k).length = k * 4 := by
  induction k with
  | zero => rfl
  | succ k ih => rw [be4All_succ, List.length_append, ih, beI_len]; omega
set_option maxHeartbeats 4000000 in
theorem pen_OutU32 (g : Nat) (bs : List Int) (v : Value) (la : Option Addr) (n c : Nat) (ns : Nat → Int) (w : World) (h : OutAt w g bs v) (hl : bs.length + n * 4 ≤ 100000) (S : SliceOf w la n c 1 (fun i => [.int .u32 (ns i)])) (hns : ∀ i, i < n → 0 ≤ ns i ∧ ns i < 4294967296)
    (hsep : ∀ b off, la = some ⟨b, off, none⟩ → b ≠ g ∧ v.ownBlock ≠ some b) :
    Calls Tryd.prog 23 #[.pointer (some ⟨g, 0, none⟩), .slice la n c] w fun e w' => e = .returned (.pointer (some ⟨g, 0, none⟩)) ∧ ∃ v', OutAt w' g (bs ++ be4All ns n) v' ∧ MovedP w w' g v v' := by
  have hln := S.size_le
  have HN := Lib.hid hns
  clear hns
  go_enter Tryd.func23, Tryd.ntmps23
  go_wp2_with fail
  go_loopw [9] (fun k wr => ∃ (m : Nat) (v' : Value), m ≤ n ∧ k = .int .i64 m ∧ OutAt wr g (bs ++ be4All ns m) v' ∧ MovedP w wr g v v') (fun k _ => n - (intOf k).toNat)
  case atStart => exact ⟨0, v, Nat.zero_le _, rfl, by simpa [be4All] using h, MovedP.refl _ _ _⟩
  case round =>
    obtain ⟨m, v', hm, rfl, H, M⟩ := hrel
    by_cases hlt : m < n
    · obtain ⟨bb, off, rfl, hbb, hcell⟩ := S.at1 (by omega)
      obtain ⟨s1, s2⟩ := hsep bb off rfl
      have d := hcell m hlt
      have dw : wr.cell? ⟨bb, off + m, none⟩ = some (.int .u32 (ns m)) := (World.cell?_of_block (M.keep bb hbb s1 s2)).trans d
      obtain ⟨x, hx⟩ : ∃ x, ns m = x := ⟨_, rfl⟩
      have HY := Lib.hid hx
      have y0 := HN.out m hlt
      rw [hx] at dw y0
      have i0 : (0 : Int) ≤ (m : Int) := by omega
      have i1 : (m : Int) < (n : Int) := by omega
      have wk : IntKind.i64.wrap ((m : Int) + 1) = ((m + 1 : Nat) : Int) := by rw [IntWalk.i64_in _ (by omega)]; omega
      have hlen : (bs ++ be4All ns m).length ≤ 100000 := by
        rw [List.length_append, be4All_len]
        omega
      clear hx d hcell
      go_wp2_with fail
      refine (pen_put g _ v' x 4 wr H y0 (by decide) hlen).mono ?_
      rintro e w2 ⟨rfl, v2, H2, M2⟩
      have M3 := M.trans M2
      go_wp2_with fail
      go_roundw
      case rel => exact ⟨m + 1, v2, by omega, by go_num, by rw [be4All_succ, HY.out, ← List.append_assoc]; exact H2, M3⟩
      case measure => simp only [intOf]; omega
    · obtain rfl : m = n := by omega
      have j1 : ¬ (m : Int) < (m : Int) := by omega
      go_wp2_with fail
      go_ret
      exact ⟨rfl, v', H, M⟩
set_option maxHeartbeats 1000000 in
theorem pen_InU32 (g : Nat) (s : ByteArray) (e : Int) (w : World) (h : InAt w g s e) (hn : 4 ≤ s.size) (hs : s.size ≤ maxLen) :
    Calls Tryd.prog 30 #[.pointer (some ⟨g, 0, none⟩)] w fun e' w' => e' = .returned (.int .u32 (numS s 4 : Nat)) ∧ InAt w' g (s.extract 4 s.size) e ∧ OnlyAt w w' g := by
  have HN := Lib.hid (pen_number g s e 4 w h hn hs (by omega))
  obtain ⟨q, hq⟩ : ∃ q, numS s 4 = q := ⟨_, rfl⟩
  rw [hq] at HN ⊢
  clear hq
  go_enter Tryd.func30, Tryd.ntmps30
  go_wp2_with fail
  refine HN.out.mono ?_
  rintro e' w2 ⟨rfl, H2, O2⟩
  go_wp2_with fail
  go_ret
  exact ⟨rfl, H2, O2⟩
theorem pen_Left (g : Nat) (s : ByteArray) (e : Int) (w : World) (h : InAt w g s e) :
    Calls Tryd.prog 32 #[.pointer (some ⟨g, 0, none⟩)] w fun e' w' => e' = .returned (.int .i64 (s.size : Int)) ∧ w = w' := by
  have c1 := h.blk.cell
  simp at c1
  go_enter Tryd.func32, Tryd.ntmps32
  go_wp2_with fail
  go_ret
  exact ⟨rfl, rfl⟩
theorem beI_head (n : Int) (k : Nat) : beI n (k + 1) = n / 256 ^ k % 256 :: beI n k := by
  unfold beI
  rw [List.range_succ_eq_map, List.map_cons, List.map_map]
  congr 1
  refine List.map_congr_left fun i _ => ?_
  simp only [Function.comp]
  congr 3
  omega
theorem own_lit1 (W : World) (e : TypeId) (u : Value) : (W.alloc (.cells #[u] e)).ownsRow W.heap.size e 1 (.slice (some ⟨W.heap.size, 0, none⟩) 1 1) 1 [u] :=
  ⟨rfl, .inr ⟨W.heap.size, 1, #[u], rfl, Nat.le_refl _, Blk.new W e #[u], Nat.le_refl _, by decide, rfl, rfl⟩⟩
end Go.Proofs.YtbibgffgljojgaaDoor
