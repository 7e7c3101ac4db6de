/- Numbers as bytes, of the program and of the document. No condition but the sizes. (Printed by gen_penn.py.) -/
import Derived.Test.YtliilcadlijnoaaBytes
import Derived.Test.YtliilcadlijnoaaFacts
import Derived.Test.YtliilcadlijnoaaInv
namespace Go.Proofs.Ytliilcadlijnoaa
open Go.RowKit BigFrame
attribute [local go_sem ↓] Go.wp_at_zero Go.wp_at_succ

theorem own_ne {w : World} {B e s n B' e' s' n' : Nat} {v v' : Value} {xs xs' : List Value} (h : w.ownsRow B e s v n xs) (h' : w.ownsRow B' e' s' v' n' xs') (hne : e ≠ e') : ∀ j, v.ownBlock = some j → v'.ownBlock ≠ some j := fun j hj hj' => by
  rcases h.2 with ⟨rfl, _⟩ | ⟨g, cap, cur, rfl, hb, hg, _⟩
  · cases hj
  · rcases h'.2 with ⟨rfl, _⟩ | ⟨g', cap', cur', rfl, hb', hg', _⟩
    · cases hj'
    · injection hj with hj
      injection hj' with hj'
      subst hj hj'
      rw [hg] at hg'
      injection hg' with hg'
      injection hg' with _ ht
      exact hne ht
theorem own_ne_blk {w : World} {B e s n g t : Nat} {v : Value} {xs : List Value} {cs : Array Value} (h : w.ownsRow B e s v n xs) (k : Blk w g t cs) (hne : e ≠ t) : v.ownBlock ≠ some g := fun hj => by
  rcases h.2 with ⟨rfl, _⟩ | ⟨g', cap, cur, rfl, hb, hg, _⟩
  · cases hj
  · injection hj with hj
    subst hj
    unfold Blk at k
    rw [hg] at k
    injection k with k
    injection k with _ ht
    exact hne ht
theorem own_down {W : World} {B B' e z n : Nat} {v : Value} {xs : List Value} (h : W.ownsRow B e z v n xs) (hB : B' ≤ B) : W.ownsRow B' e z v n xs := by
  refine ⟨h.1, ?_⟩
  rcases h.2 with h | ⟨g', cap, cur, h, hb, rest⟩
  · exact .inl h
  · exact .inr ⟨g', cap, cur, h, Nat.le_trans hB hb, rest⟩
theorem own_any {W : World} {B e z n : Nat} {v : Value} {xs : List Value} (h : W.ownsRow B e z v n xs) : ∃ a c, v = .slice a n c := by
  rcases h.2 with ⟨rfl, rfl⟩ | ⟨g, cap, cur, rfl, _⟩
  · exact ⟨_, _, rfl⟩
  · exact ⟨_, _, rfl⟩
theorem own_slice {w : World} {B E n : Nat} {v : Value} {xs : List Value} (h : w.ownsRow B E 1 v n xs) : ∃ a c, v = .slice a n c ∧ n = xs.length := by
  have h1 := h.1
  rcases h.2 with ⟨rfl, h0⟩ | ⟨g, cap, cur, rfl, _⟩
  · exact ⟨none, 0, by rw [h0], by omega⟩
  · exact ⟨_, cap, rfl, by omega⟩
theorem own_lasts {W W' : World} {B e z n : Nat} {v : Value} {xs : List Value} (h : W.ownsRow B e z v n xs) (hb : Below W.heap.size W W') : W'.ownsRow B e z v n xs := own_at h (fun j hj => hb.block j (h.lt j hj).2)
def be4All (ns : Nat → Int) (k : Nat) : List Int := (List.range k).flatMap fun i => beI (ns i) 4
theorem be4All_succ (ns : Nat → Int) (k : Nat) : be4All ns (k + 1) = be4All ns k ++ beI (ns k) 4 := by
  unfold be4All; rw [List.range_succ, List.flatMap_append]; simp
theorem be4All_len (ns : Nat → Int) (k : Nat) : (be4All ns k).length = k * 4 := by
  induction k with
  | zero => rfl
  | succ k ih => rw [be4All_succ, List.length_append, ih, beI_len]; omega
set_option maxHeartbeats 4000000 in
theorem pen_OutU32 (g : Nat) (bs : List Int) (v : Value) (la : Option Addr) (n c : Nat) (ns : Nat → Int) (w : World) (h : OutAt w g bs v) (hl : bs.length + n * 4 ≤ 100000) (S : SliceOf w la n c 1 (fun i => [.int .u32 (ns i)])) (hns : ∀ i, i < n → 0 ≤ ns i ∧ ns i < 4294967296)
    (hsep : ∀ b off, la = some ⟨b, off, none⟩ → b ≠ g ∧ v.ownBlock ≠ some b) :
    Calls Try.prog 32 #[.pointer (some ⟨g, 0, none⟩), .slice la n c] w fun e w' => e = .returned (.pointer (some ⟨g, 0, none⟩)) ∧ ∃ v', OutAt w' g (bs ++ be4All ns n) v' ∧ MovedP w w' g v v' := by
  have hln := S.size_le
  have HN := Lib.hid hns
  clear hns
  go_enter Try.func32, Try.ntmps32
  go_wp2_with fail
  go_loopw [9] (fun k wr => ∃ (m : Nat) (v' : Value), m ≤ n ∧ k = .int .i64 m ∧ OutAt wr g (bs ++ be4All ns m) v' ∧ MovedP w wr g v v') (fun k _ => n - (intOf k).toNat)
  case atStart => exact ⟨0, v, Nat.zero_le _, rfl, by simpa [be4All] using h, MovedP.refl _ _ _⟩
  case round =>
    obtain ⟨m, v', hm, rfl, H, M⟩ := hrel
    by_cases hlt : m < n
    · obtain ⟨bb, off, rfl, hbb, hcell⟩ := S.at1 (by omega)
      obtain ⟨s1, s2⟩ := hsep bb off rfl
      have d := hcell m hlt
      have dw : wr.cell? ⟨bb, off + m, none⟩ = some (.int .u32 (ns m)) := (World.cell?_of_block (M.keep bb hbb s1 s2)).trans d
      obtain ⟨x, hx⟩ : ∃ x, ns m = x := ⟨_, rfl⟩
      have HY := Lib.hid hx
      have y0 := HN.out m hlt
      rw [hx] at dw y0
      have i0 : (0 : Int) ≤ (m : Int) := by omega
      have i1 : (m : Int) < (n : Int) := by omega
      have wk : IntKind.i64.wrap ((m : Int) + 1) = ((m + 1 : Nat) : Int) := by rw [IntWalk.i64_in _ (by omega)]; omega
      have hlen : (bs ++ be4All ns m).length ≤ 100000 := by
        rw [List.length_append, be4All_len]
        omega
      clear hx d hcell
      go_wp2_with fail
      refine (pen_put g _ v' x 4 wr H y0 (by decide) hlen).mono ?_
      rintro e w2 ⟨rfl, v2, H2, M2⟩
      have M3 := M.trans M2
      go_wp2_with fail
      go_roundw
      case rel => exact ⟨m + 1, v2, by omega, by go_num, by rw [be4All_succ, HY.out, ← List.append_assoc]; exact H2, M3⟩
      case measure => simp only [intOf]; omega
    · obtain rfl : m = n := by omega
      have j1 : ¬ (m : Int) < (m : Int) := by omega
      go_wp2_with fail
      go_ret
      exact ⟨rfl, v', H, M⟩
set_option maxHeartbeats 1000000 in
theorem pen_InU32 (g : Nat) (s : ByteArray) (e : Int) (w : World) (h : InAt w g s e) (hn : 4 ≤ s.size) (hs : s.size ≤ maxLen) :
    Calls Try.prog 24 #[.pointer (some ⟨g, 0, none⟩)] w fun e' w' => e' = .returned (.int .u32 (numS s 4 : Nat)) ∧ InAt w' g (s.extract 4 s.size) e ∧ OnlyAt w w' g := by
  have HN := Lib.hid (pen_number g s e 4 w h hn hs (by omega))
  obtain ⟨q, hq⟩ : ∃ q, numS s 4 = q := ⟨_, rfl⟩
  rw [hq] at HN ⊢
  clear hq
  go_enter Try.func24, Try.ntmps24
  go_wp2_with fail
  refine HN.out.mono ?_
  rintro e' w2 ⟨rfl, H2, O2⟩
  go_wp2_with fail
  go_ret
  exact ⟨rfl, H2, O2⟩
theorem pen_Left (g : Nat) (s : ByteArray) (e : Int) (w : World) (h : InAt w g s e) :
    Calls Try.prog 25 #[.pointer (some ⟨g, 0, none⟩)] w fun e' w' => e' = .returned (.int .i64 (s.size : Int)) ∧ w = w' := by
  have c1 := h.blk.cell
  simp at c1
  go_enter Try.func25, Try.ntmps25
  go_wp2_with fail
  go_ret
  exact ⟨rfl, rfl⟩
set_option maxHeartbeats 1000000 in
theorem ref03_Get (s : ByteArray) (w : World) (hs : s.size ≤ 4) :
    Calls Try.prog 29 #[.string s] w fun e w' => e = .returned (.int .i64 (numS s s.size : Nat)) ∧ w = w' := by
  go_enter Try.func29, Try.ntmps29
  go_wp2_with fail
  go_loop [3, 4] (fun x i => ∃ k : Nat, k ≤ s.size ∧ i = .int .i64 k ∧ x = .int .i64 (numS s k : Nat)) (fun _ i => s.size - (intOf i).toNat)
  case atStart => exact ⟨0, by omega, rfl, rfl⟩
  case round =>
    obtain ⟨k, hk, rfl, rfl⟩ := hrel
    by_cases hlt : k < s.size
    · have i1 : (k : Int) < (s.size : Int) := by omega
      have i0 : (0 : Int) ≤ (k : Int) := by omega
      obtain ⟨q, hq⟩ : ∃ q, numS s k = q := ⟨_, rfl⟩
      have hq2 : q < 16777216 := by
        have h1 := numS_lt s k
        rw [hq] at h1
        have h2 : 256 ^ k ≤ 256 ^ 3 := Nat.pow_le_pow_right (by decide) (by omega)
        omega
      have HQ := Lib.hid hq
      rw [hq]
      have hb := s[k].toNat_lt
      have w1 : IntKind.i64.wrap (256 * (q : Int)) = 256 * (q : Int) := IntWalk.i64_in _ (by omega)
      have w2 : IntKind.i64.wrap (256 * (q : Int) + (s[k].toNat : Int)) = 256 * (q : Int) + (s[k].toNat : Int) := IntWalk.i64_in _ (by omega)
      have w3 : IntKind.i64.wrap (s[k].toNat : Int) = (s[k].toNat : Int) := IntWalk.i64_in _ (by omega)
      have w4 : IntKind.i64.wrap ((k : Int) + 1) = ((k + 1 : Nat) : Int) := by rw [IntWalk.i64_in _ (by omega)]; omega
      clear hq
      go_wp2_with fail
      go_round
      case rel =>
        refine ⟨k + 1, by omega, by go_num, ?_⟩
        have e1 : s.data.toList.getD k 0 = s[k] := by
          rw [List.getD_eq_getElem?_getD, List.getElem?_eq_getElem (by simpa using hlt)]
          rfl
        simp only [numS]
        rw [HQ.out, e1]
        congr 1
        omega
      case measure => simp only [intOf]; omega
    · obtain rfl : k = s.size := by omega
      have j1 : ¬ ((s.size : Int) < (s.size : Int)) := by omega
      go_wp2_with fail
      go_ret
      exact ⟨rfl, rfl⟩
theorem beI_head (n : Int) (k : Nat) : beI n (k + 1) = n / 256 ^ k % 256 :: beI n k := by
  unfold beI
  rw [List.range_succ_eq_map, List.map_cons, List.map_map]
  congr 1
  refine List.map_congr_left fun i _ => ?_
  simp only [Function.comp]
  congr 3
  omega
theorem own_lit1 (W : World) (e : TypeId) (u : Value) : (W.alloc (.cells #[u] e)).ownsRow W.heap.size e 1 (.slice (some ⟨W.heap.size, 0, none⟩) 1 1) 1 [u] :=
  ⟨rfl, .inr ⟨W.heap.size, 1, #[u], rfl, Nat.le_refl _, Blk.new W e #[u], Nat.le_refl _, by decide, rfl, rfl⟩⟩
set_option maxRecDepth 8000 in
set_option maxHeartbeats 4000000 in
theorem ref03_Put (n : Int) (size : Nat) (w : World) (hn : 0 ≤ n ∧ n < 4294967296) (hs : size ≤ 4) :
    Calls Try.prog 22 #[.int .i64 n, .int .i64 (size : Int)] w fun e w' => e = .returned (.string (strOfNums (beI n size))) ∧ Below w.heap.size w w' := by
  obtain ⟨i0, hi0, hz0, hz1, hz2⟩ := info_parts (show (Try.prog.info? 5).map (fun i => (i.zero, i.size, i.bytes)) = some (some (.int .u8 0), 1, 1) by kernel_rfl)
  have own1 := own_lit w 5 1
  have B1 : Below w.heap.size w (w.alloc (.cells #[] 5)) := (Below.refl _ w).alloc (Nat.le_refl _) _
  go_enter Try.func22, Try.ntmps22
  go_wp2_with fail
  go_loopw [0, 5, 6] (fun x0 x5 x6 wr => ∃ (k : Nat) (y : Int), k ≤ size ∧ x6 = .int .i64 k ∧ x0 = .int .i64 y ∧ y = n / 256 ^ k ∧ 0 ≤ y ∧ y < 4294967296 ∧ (∃ a c, x5 = .slice a k c) ∧ wr.ownsRow w.heap.size 5 1 x5 k (u8C (beI n k)) ∧ Below w.heap.size w wr) (fun _ _ x6 _ => size - (intOf x6).toNat)
  case atStart => exact ⟨0, n, by omega, rfl, rfl, by simp, hn.1, hn.2, ⟨_, _, rfl⟩, by simpa [u8C, beI] using own1, B1⟩
  case round =>
    clear own1 B1
    obtain ⟨k, y, hk, rfl, rfl, hy, y0, y1, ⟨a, c, rfl⟩, own, B⟩ := hrel
    have HY := Lib.hid hy
    clear hy
    by_cases hlt : k < size
    · have i1 : (k : Int) < (size : Int) := by omega
      have i0' : (0 : Int) ≤ (k : Int) := by omega
      obtain ⟨r, hr⟩ : ∃ r, y % 256 = r := ⟨_, rfl⟩
      obtain ⟨q, hq⟩ : ∃ q, y / 256 = q := ⟨_, rfl⟩
      have wr1 : y.tmod 256 = r := by rw [Int.tmod_eq_emod_of_nonneg y0]; exact hr
      have hrb : 0 ≤ r ∧ r ≤ 255 := by omega
      have wr2 : IntKind.i64.wrap (y - r) = y - r := IntWalk.i64_in _ (by omega)
      have wr3 : (y - r).tdiv 256 = q := by rw [Int.tdiv_eq_ediv_of_nonneg (by omega)]; omega
      have wr4 : IntKind.i64.wrap q = q := IntWalk.i64_in _ (by omega)
      have wr5 : IntKind.u8.wrap r = r := by simp [IntKind.wrap, IntKind.signed, IntKind.bits]; omega
      have wr6 : IntKind.i64.wrap r = r := IntWalk.i64_in _ (by omega)
      have hr0 : ¬ r < 0 := by omega
      have wk : IntKind.i64.wrap ((k : Int) + 1) = ((k + 1 : Nat) : Int) := by rw [IntWalk.i64_in _ (by omega)]; omega
      have HQ := Lib.hid (show q = n / 256 ^ (k + 1) by
        rw [← hq, HY.out, Int.ediv_ediv_of_nonneg (Int.pow_nonneg (by decide)), ← Int.pow_succ])
      have HB := Lib.hid (show u8C (beI n (k + 1)) = [.int .u8 r] ++ u8C (beI n k) by
        rw [beI_head, ← HY.out, hr]; rfl)
      have hq0 : 0 ≤ q ∧ q < 4294967296 := by omega
      have sB := B.size
      have ownl := own_lit1 wr 5 (.int .u8 r)
      have Bl : Below wr.heap.size wr (wr.alloc (.cells #[.int .u8 r] 5)) := (Below.refl _ wr).alloc (Nat.le_refl _) _
      have own2 := own_lasts own Bl
      have hlen : (u8C (beI n k)).length = k * 1 := by unfold u8C; rw [List.length_map, beI_len, Nat.mul_one]
      have hone : ∀ u ∈ u8C (beI n k), u.oneCell' = true := fun u hu => by
        obtain ⟨z, _, rfl⟩ := List.mem_map.1 hu
        rfl
      have hnews : 0 < k → ∃ a0, a = some a0 ∧ ∀ j u, (u8C (beI n k))[j]? = some u → (wr.alloc (.cells #[.int .u8 r] 5)).cell? (a0.add j) = some u := fun hk0 => by
        rcases own2.2 with ⟨h1, h0⟩ | ⟨g, cap, cur, h1, _⟩
        · omega
        · injection h1 with h2 h3 h4
          subst h2 h4
          refine ⟨_, rfl, fun j u hu => ?_⟩
          have hj := (List.getElem?_eq_some_iff.1 hu).1
          have hadd : (⟨g, 0, none⟩ : Addr).add j = ⟨g, j, none⟩ := by unfold Addr.add; split <;> simp_all
          rw [hadd, World.ownsRow.cellAt own2 j (by omega)]
          exact hu
      clear hr hq
      go_wp2_with (at_builtin; refine wpList_append_sl rfl _ _ 74 rfl wr.heap.size 5 i0 (.int .u8 0) 1 1 Try.underlying74 hi0 hz0 hz1 hz2 rfl (by decide) _ _ _ rfl ownl a k c (u8C (beI n k)) rfl hlen hnews hone (by rw [maxLen_eq]; omega) (by omega) (by simp) ?_; intro v6 w6 own6 hgrow6 hat6 hsh6; obtain ⟨a6, c6, rfl⟩ := hsh6)
      have hg6 := (show (wr.alloc (.cells #[.int .u8 r] 5)).grownBy w6 (some wr.heap.size) from hgrow6)
      have B6 : Below w.heap.size w w6 := (B.alloc sB _).grown hg6 (by simp; omega) (fun j hj => by injection hj with hj; omega)
      have e1 : 1 + k = k + 1 := by omega
      rw [e1] at own6 ⊢
      clear hgrow6 e1
      go_wp2_with fail
      go_roundw
      case rel => exact ⟨k + 1, q, by omega, by go_num, by go_num, HQ.out, hq0.1, hq0.2, ⟨_, _, rfl⟩, by rw [HB.out]; exact own_down own6 sB, B6⟩
      case measure => simp only [intOf]; omega
    · obtain rfl : k = size := by omega
      have j1 : ¬ (k : Int) < (k : Int) := by omega
      have hlb := beI_len n k
      have own' : wr.ownsRow w.heap.size 5 1 (.slice a k c) (beI n k).length (u8C (beI n k)) := by rw [hlb]; exact own
      have hc := own_bytes own'
      clear hlb own'
      go_wp2_with fail
      go_ret
      exact ⟨rfl, B⟩
end Go.Proofs.Ytliilcadlijnoaa
