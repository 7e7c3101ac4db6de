/- Package pen: texts are written as they are. No condition but that the writer stands and the sizes. -/
import Derived.Test.YtbibgffgljojgaaDoorPenX
import Derived.Test.YtbibgffgljojgaaDoorBytes
import Derived.Lib.AppendStr
namespace Go.Proofs.YtbibgffgljojgaaDoor
open Go.RowKit BigFrame
attribute [local go_sem ↓] Go.wp_at_zero Go.wp_at_succ

theorem strCells_u8C (s : ByteArray) : Lib.strCells s = u8C (bytesI s) := by
  unfold Lib.strCells u8C bytesI
  simp
theorem run_append_str_at {P : Program} (w : World) (t u ty e : TypeId) (i : TypeInfo) (ht : P.underlying t = some (.slice e)) (hu : P.underlying u = some .string) (hi : P.info? e = some i) (hz : i.zero = some (.int .u8 0))
    (hsize : i.size = 1) (hby : i.bytes = 1) (v : Value) (n : Nat) (xs : List Value) (hown : w.ownsRow 0 e 1 v n xs) (s : ByteArray) (h63 : n + s.size ≤ maxLen) (hbytes : n + s.size ≤ 140737488355328) :
    ∃ v' w', (Builtin.append_ #[t, u] ty #[v, .string s]).run P w = .ok v' w' ∧ w'.ownsRow 0 e 1 v' (n + s.size) (xs ++ Lib.strCells s) ∧ w.grownBy w' v.ownBlock ∧ (∀ k, v'.ownBlock = some k → v.ownBlock = some k ∨ w.heap.size ≤ k) ∧ ∃ a c, v' = .slice a (n + s.size) c := by
  obtain ⟨v', w', hr, h2, h3, h4⟩ := Lib.run_append_own_string (P := P) w 0 t u ty e i ht hu hi hz hsize hby v n xs hown s h63 hbytes (Nat.zero_le _)
  refine ⟨v', w', hr, h2, h3, ?_, ?_⟩
  · have hxl : xs.length = n := by simpa using hown.1
    intro k hk
    rcases hown.2 with ⟨rfl, rfl⟩ | ⟨g, cap, cur, rfl, hb, hg, hn, hm, hs, hx⟩
    · obtain ⟨v2, w2, hr2, h5, _⟩ := Lib.run_append_own_string (P := P) w w.heap.size t u ty e i ht hu hi hz hsize hby (.slice none 0 0) 0 [] (World.ownsRow_nil _ _ _ _) s h63 hbytes (Nat.le_refl _)
      rw [hr] at hr2
      injection hr2 with e1 e2
      subst e1
      exact .inr (h5.lt k hk).1
    · have h63' : n + s.size ≤ 9223372036854775807 := by simp only [maxLen] at h63; omega
      by_cases hroom : n + s.size ≤ cap
      · have h6 := Lib.run_append_room_string (P := P) w t u ty e i ht hu hi hsize g n cap cur hg s hroom (by omega)
        rw [hr] at h6
        injection h6 with e1 e2
        subst e1
        exact .inl hk
      · have h6 := Lib.run_append_grow_string (P := P) w t u ty e i (.int .u8 0) ht hu hi hz ⟨g, 0, none⟩ n cap xs (by rw [hsize]; simpa using hxl) (hown.cells (g := g) rfl) s (by omega) (by omega) (by rw [hby]; exact growslice_fits (by omega) (by omega))
        rw [hr] at h6
        injection h6 with e1 e2
        subst e1
        injection hk with hk
        exact .inr (by rw [← hk]; exact Nat.le_refl _)
  · rcases h2.2 with ⟨e1, e2⟩ | ⟨g, cap, cur, e1, _⟩
    · rw [e2]; exact ⟨none, 0, e1⟩
    · exact ⟨_, _, e1⟩
theorem wpList_append_str_at {P : Program} {w : World} {ops : Array Oper} {rest : List Oper} {o : Oper} {a : Act} {Q : Exit → Act → World → Prop} (hgd : o.guard = none) (sl x : Operand) (t u : TypeId)
    (ho : o.op = .call { callee := .builtin .append, args := #[sl, x], argTypes := #[t, u] })
    (e : TypeId) (i : TypeInfo) (ht : P.underlying t = some (.slice e)) (hu : P.underlying u = some .string) (hi : P.info? e = some i) (hz : i.zero = some (.int .u8 0)) (hsize : i.size = 1) (hby : i.bytes = 1)
    (v : Value) (n : Nat) (xs : List Value) (hs : a.eval sl = v) (hown : w.ownsRow 0 e 1 v n xs) (s : ByteArray) (hx : a.eval x = .string s) (h63 : n + s.size ≤ maxLen) (hbytes : n + s.size ≤ 140737488355328)
    (h : ∀ v' w', w'.ownsRow 0 e 1 v' (n + s.size) (xs ++ Lib.strCells s) → w.grownBy w' v.ownBlock → (∀ k, v'.ownBlock = some k → v.ownBlock = some k ∨ w.heap.size ≤ k) → (∃ a c, v' = .slice a (n + s.size) c) → wpList P ops Q rest (a.put o.dst v') w') : wpList P ops Q (o :: rest) a w := by
  refine wpList_plain hgd fun K hK => ?_
  obtain ⟨v', w', hr, h2, h3, h4, h5⟩ := run_append_str_at (P := P) w t u o.type e i ht hu hi hz hsize hby v n xs hown s h63 hbytes
  unfold Oper.wp
  simp [execOp, ho, resolve, invoke, builtin, hs, hx, hr, Result.andThen]
  exact hK _ _ (h v' w' h2 h3 h4 h5)
/-- Behind the append of a text and its store. -/
theorem OutAt.pushS {wr w1 : World} {g L : Nat} {bs1 xs : List Int} {v' v2 : Value} (H : OutAt wr g bs1 v') (own1 : w1.ownsRow 0 5 1 v2 L (u8C bs1 ++ u8C xs)) (hm : bs1.length + xs.length = L)
    (hgrow : wr.grownBy w1 v'.ownBlock) (hat : ∀ k, v2.ownBlock = some k → v'.ownBlock = some k ∨ wr.heap.size ≤ k) :
    OutAt (w1.setCell ⟨g, 0, none⟩ v2) g (bs1 ++ xs) v2 ∧ MovedP wr (w1.setCell ⟨g, 0, none⟩ v2) g v' v2 := by
  have hg2 : ∀ k, v2.ownBlock = some k → k ≠ g := fun k hk he => by
    subst he
    rcases hat _ hk with h | h
    · exact H.ne h
    · have := H.blk.lt; omega
  have k1 : Blk w1 g 53 #[v'] := Eq.trans (hgrow.block g H.blk.lt (Ne.symm H.ne)) H.blk
  have k2 := k1.set_ 0 v2
  refine ⟨⟨k2, ?_, fun he => hg2 g he rfl⟩, ⟨(((Below.refl 0 wr).mono (Nat.zero_le _)).grown hgrow (Nat.zero_le _) (fun j hj => Nat.zero_le _)).setCell (Nat.zero_le _) _, fun z hz h1 h2 => ?_, hat⟩⟩
  · rw [u8C_append, List.length_append, hm]
    exact own_at own1 (fun j hj => Below.heap_setCell _ ⟨g, 0, none⟩ _ j (hg2 j hj))
  · have e2 := Below.heap_setCell w1 ⟨g, 0, none⟩ v2 z h1
    exact e2.trans (hgrow.block z hz (fun e => h2 e.symm))
def rawAll (ts : Nat → ByteArray) (k : Nat) : List Int := (List.range k).flatMap fun i => bytesI (ts i)
theorem rawAll_succ (ts : Nat → ByteArray) (k : Nat) : rawAll ts (k + 1) = rawAll ts k ++ bytesI (ts k) := by
  unfold rawAll; rw [List.range_succ, List.flatMap_append]; simp
theorem rawAll_le (ts : Nat → ByteArray) {k n : Nat} (h : k ≤ n) : (rawAll ts k).length ≤ (rawAll ts n).length := by
  induction n with
  | zero => obtain rfl : k = 0 := by omega
            exact Nat.le_refl _
  | succ n ih =>
    rcases Nat.lt_or_ge k (n + 1) with h1 | h1
    · rw [rawAll_succ, List.length_append]; have := ih (by omega); omega
    · obtain rfl : k = n + 1 := by omega
      exact Nat.le_refl _
set_option maxHeartbeats 4000000 in
theorem pen_OutRaw (g : Nat) (bs : List Int) (v : Value) (la : Option Addr) (n c : Nat) (ts : Nat → ByteArray) (w : World) (h : OutAt w g bs v) (hl : bs.length + (rawAll ts n).length ≤ 10000000) (S : SliceOf w la n c 1 (fun i => [.string (ts i)]))
    (hsep : ∀ b off, la = some ⟨b, off, none⟩ → b ≠ g ∧ v.ownBlock ≠ some b) :
    Calls Tryd.prog 24 #[.pointer (some ⟨g, 0, none⟩), .slice la n c] w fun e w' => e = .returned (.pointer (some ⟨g, 0, none⟩)) ∧ ∃ v', OutAt w' g (bs ++ rawAll ts n) v' ∧ MovedP w w' g v v' := by
  obtain ⟨i0, hi0, hz0, hz1, hz2⟩ := info_parts (show (Tryd.prog.info? 5).map (fun i => (i.zero, i.size, i.bytes)) = some (some (.int .u8 0), 1, 1) by kernel_rfl)
  have hln := S.size_le
  have HLL := Lib.hid hl
  clear hl
  go_enter Tryd.func24, Tryd.ntmps24
  go_wp2_with fail
  go_loopw [9] (fun k wr => ∃ (m : Nat) (v' : Value), m ≤ n ∧ k = .int .i64 m ∧ OutAt wr g (bs ++ rawAll ts m) v' ∧ MovedP w wr g v v') (fun k _ => n - (intOf k).toNat)
  case atStart => exact ⟨0, v, Nat.zero_le _, rfl, by simpa [rawAll] using h, MovedP.refl _ _ _⟩
  case round =>
    obtain ⟨m, v', hm, rfl, H, M⟩ := hrel
    by_cases hlt : m < n
    · obtain ⟨bb, off, rfl, hbb, hcell⟩ := S.at1 (by omega)
      obtain ⟨s1, s2⟩ := hsep bb off rfl
      have d := hcell m hlt
      have dw : wr.cell? ⟨bb, off + m, none⟩ = some (.string (ts m)) := (World.cell?_of_block (M.keep bb hbb s1 s2)).trans d
      obtain ⟨t, ht⟩ : ∃ t, ts m = t := ⟨_, rfl⟩
      have HY := Lib.hid ht
      rw [ht] at dw
      have hlen : (bs ++ rawAll ts m).length + t.size ≤ 10000000 := by
        have h1 := rawAll_le ts (show m + 1 ≤ n by omega)
        rw [rawAll_succ, List.length_append, ht, bytesI_len] at h1
        have h2 := HLL.out
        rw [List.length_append]
        omega
      have HSU := Lib.hid (rawAll_succ ts m)
      obtain ⟨b1, hb1⟩ : ∃ b, bs ++ rawAll ts m = b := ⟨_, rfl⟩
      rw [hb1] at H hlen
      obtain ⟨L, hL⟩ : ∃ L, b1.length = L := ⟨_, rfl⟩
      have own := H.own
      rw [hL] at own hlen
      have HB1 := Lib.hid hb1
      have HL := Lib.hid hL
      have ck := H.blk.cell
      have hk := H.blk
      have hne := H.ne
      simp at ck
      have i0' : (0 : Int) ≤ (m : Int) := by omega
      have i1 : (m : Int) < (n : Int) := by omega
      clear hcell d ht hb1 hL
      go_wp2_with (at_builtin; go_loud (refine wpList_append_str_at rfl _ _ 51 9 rfl 5 i0 Tryd.underlying51 Tryd.underlying9 hi0 hz0 hz1 hz2 v' L (u8C b1) rfl own t rfl (by rw [maxLen_eq]; omega) (by omega) ?_); intro v2 w2 own2 hgrow hat hsh; obtain ⟨a2, c2, rfl⟩ := hsh; have k1 : Blk w2 g 53 #[v'] := Eq.trans (hgrow.block g hk.lt (Ne.symm hne)) hk; have ck1 := k1.cell; have fk1 := k1.frozen; simp at ck1)
      rw [strCells_u8C] at own2
      obtain ⟨P1, P2⟩ := H.pushS own2 (by rw [HL.out, bytesI_len]) hgrow hat
      have P3 : OutAt (w2.setCell ⟨g, 0, none⟩ (.slice a2 (L + t.size) c2)) g (bs ++ rawAll ts (m + 1)) (.slice a2 (L + t.size) c2) := by rw [HSU.out, ← List.append_assoc, HB1.out, HY.out]; exact P1
      have M3 := M.trans P2
      go_roundw
      case rel => exact ⟨m + 1, _, by omega, by go_num, P3, M3⟩
      case measure => simp only [intOf]; omega
    · obtain rfl : m = n := by omega
      have j1 : ¬ (m : Int) < (m : Int) := by omega
      go_wp2_with fail
      go_ret
      exact ⟨rfl, v', H, M⟩
end Go.Proofs.YtbibgffgljojgaaDoor
