/- The statement QueueOrder, walked: it returns true. No condition but the frame's. -/
import Derived.Test.YtomhnegfemdcdaaQueue5
namespace Go.Proofs.Ytomhnegfemdcdaa
open Go.RowKit BigFrame
attribute [local go_sem ↓] Go.wp_at_zero Go.wp_at_succ
attribute [local go_sem] i64_and3

theorem sumQ_small (l : List ByteArray) (h : ∀ s ∈ l, s.size ≤ 20) : sumQ l ≤ 20 * l.length := by
  induction l with
  | nil => simp [sumQ]
  | cons s l ih =>
    have h1 := h s (by simp)
    have h2 := ih (fun t ht => h t (by simp [ht]))
    rw [sumQ, List.length_cons]; omega
theorem part_succ (L : List ByteArray) (p d : Nat) (h : p + d < L.length) : (L.drop p).take (d + 1) = (L.drop p).take d ++ [L.getD (p + d) .empty] := by
  rw [List.take_add_one, List.getElem?_drop, List.getD_eq_getElem?_getD, List.getElem?_eq_getElem h]
  rfl
theorem drop_cons (L : List ByteArray) (k : Nat) (h : k < L.length) : L.drop k = L.getD k .empty :: L.drop (k + 1) := by
  rw [List.getD_eq_getElem?_getD, List.getElem?_eq_getElem h, List.drop_eq_getElem_cons h]
  rfl
theorem textCells_one (l : List ByteArray) (s : ByteArray) : textCells (l ++ [s]) = textCells l ++ [.string s] := by rw [textCells_append]; rfl

set_option maxRecDepth 8000 in
set_option maxHeartbeats 8000000 in
theorem QueueOrder_walk (a0a : Option Addr) (a0l a0c : Nat) (a0e0 : Nat → ByteArray) (a1a : Option Addr) (a1l a1c : Nat) (a1e0 : Nat → Int) (w : World) (a0S : SliceOf w a0a a0l a0c 1 (fun i => [.string (a0e0 i)])) (a0F0 : ∀ i, i < a0l → (a0e0 i).size ≤ maxLen) (a1S : SliceOf w a1a a1l a1c 1 (fun i => [.int .i64 (a1e0 i)])) (a1F0 : ∀ i, i < a1l → (Lit.int .i64 (a1e0 i)).wf = true) :
    Calls Try.prog 6 #[.slice a0a a0l a0c, .slice a1a a1l a1c] w fun e w' => e = .returned (.bool true) ∧ Below w.heap.size w w' := by
  obtain ⟨i0, hi0, hz0, hz1, hz2⟩ := info_parts (show (Try.prog.info? 49).map (fun i => (i.zero, i.size, i.bytes)) = some (some (.string ByteArray.empty), 1, 16) by kernel_rfl)
  have hl1 := a1S.size_le
  have HA := Lib.hid a0S
  have HAF := Lib.hid a0F0
  have HB1 := Lib.hid a1S
  clear a0S a0F0 a1S a1F0
  go_enter Try.func6, Try.ntmps6
  go_wp2_with fail
  refine (law20_awake _).mono ?_
  rintro e w1 ⟨rfl, hb1⟩
  go_wp2_with fail
  refine (law02_Few a0a a0l a0c a0e0 30 20 w1 (HA.out.below hb1) HAF.out (by omega) (by omega)).mono ?_
  rintro e w2 ⟨v, rfl, own, hb2⟩
  obtain ⟨N, hN⟩ : ∃ N, min a0l 30 = N := ⟨_, rfl⟩
  have hN30 : N ≤ 30 := by omega
  rw [hN] at own
  obtain ⟨L, hL⟩ : ∃ L, (List.range N).map (fun i => cutB (a0e0 i) 20) = L := ⟨_, rfl⟩
  have hLl : L.length = N := by rw [← hL]; simp
  have hLs : ∀ s ∈ L, s.size ≤ 20 := fun s hs => by
    rw [← hL] at hs
    obtain ⟨i, _, rfl⟩ := List.mem_map.1 hs
    exact (cutB_size _ _).1
  obtain ⟨aL, cL, rfl, SL⟩ := SliceOf.of_own own (fun i => .string (L.getD i .empty)) (fun i hi => by rw [cutCells_get _ _ _ _ hi, ← hL]; simp [List.getD_eq_getElem?_getD, hi])
  have hsum : ∀ p q, 0 ≤ sumQ ((L.drop p).take q) ∧ sumQ ((L.drop p).take q) ≤ 600 := fun p q => by
    have h1 := sumQ_small ((L.drop p).take q) (fun s hs => hLs s (List.drop_subset _ _ (List.take_subset _ _ hs)))
    have h2 := (sumQ_bd ((L.drop p).take q)).1
    have h3 : ((L.drop p).take q).length ≤ N := by rw [List.length_take, List.length_drop, hLl]; omega
    omega
  have B2 := below_then hb1 hb2 (Nat.le_refl _)
  have hg := B2.size
  have HSL := Lib.hid SL
  have HSUM := Lib.hid hsum
  have HLL := Lib.hid hLl
  have hcl : N ≤ cL := SL.1
  have hcl2 := SL.size_le
  clear own hb1 hb2 SL hsum hL hLl hLs hN HA HAF
  go_wp2_with fail
  refine (queue_New 40 1048576 40 1048576 (by decide) (by decide) w2).mono ?_
  rintro e w3 ⟨rfl, q3, hb3⟩
  generalize hgg : w2.heap.size = g at *
  go_wp2_with fail
  go_loopw [6, 7] (fun xa xi wr => ∃ (p j : Nat), p ≤ N ∧ j ≤ p ∧ xa = .int .i64 p ∧ xi = .int .i64 j ∧ QAt wr g g 40 1048576 (L.take p) (sumQ (L.take p)) ∧ Below g w2 wr) (fun x _ _ => N - (intOf x).toNat)
  case atStart => exact ⟨0, 0, by omega, by omega, rfl, rfl, q3, hb3⟩
  case round =>
    clear q3 hb3
    obtain ⟨p, j, hp, hjp, rfl, rfl, q, B⟩ := hrel
    by_cases hlt : p < N
    · obtain ⟨b, off, rfl, hbb, hcell⟩ := HSL.out.at1 (by omega)
      have hnn : ∃ nn : Nat, 1 ≤ nn ∧ nn ≤ 4 ∧ ((j < a1l ∧ a1e0 j % 4 + 1 = (nn : Int)) ∨ (¬ j < a1l ∧ nn = 1)) := by
        by_cases h : j < a1l
        · exact ⟨(a1e0 j % 4 + 1).toNat, by omega, by omega, .inl ⟨h, by omega⟩⟩
        · exact ⟨1, by omega, by omega, .inr ⟨h, rfl⟩⟩
      obtain ⟨nn, nn1, nn4, hnn⟩ := hnn
      obtain ⟨e, he⟩ : ∃ e, min N (p + nn) = e := ⟨_, rfl⟩
      have he1 : p < e := by omega
      have he2 : e ≤ N := by omega
      have hgr := q.lt
      obtain ⟨r, hr⟩ : ∃ r, e - p = r := ⟨_, rfl⟩
      have i1 : (p : Int) < (N : Int) := by omega
      have i0' : (0 : Int) ≤ (p : Int) := by omega
      have c1 : ¬ (cL = p) := by omega
      have c2 : (p : Int) ≤ (e : Int) := by omega
      have c3 : (e : Int) ≤ (cL : Int) := by omega
      have c4 : e ≤ cL := by omega
      have c5 : p ≤ e := by omega
      have CELL := fun (W : World) (hW : Below g w2 W) (d : Nat) (hd : p + d < N) => (show W.cell? ⟨b, off + p + d, none⟩ = some (.string (L.getD (p + d) .empty)) by
        rw [Nat.add_assoc]
        exact (hW.cell (p := ⟨b, off + (p + d), none⟩) (by rw [← hgg]; exact hbb)).trans (hcell (p + d) hd))
      have HCELL := Lib.hid CELL
      clear CELL hcell
      rcases hnn with ⟨hj, hz⟩ | ⟨hj, rfl⟩
      · obtain ⟨bs, offs, rfl, hbs, hcs⟩ := HB1.out.at1 (by omega)
        have Bw := B2.trans (B.mono hg)
        have ds := (Bw.cell (p := ⟨bs, offs + j, none⟩) hbs).trans (hcs j hj)
        obtain ⟨z, hz'⟩ : ∃ z, a1e0 j = z := ⟨_, rfl⟩
        rw [hz'] at ds hz
        have hwn : IntKind.i64.wrap (1 + z % 4) = (nn : Int) := by rw [IntWalk.i64_in _ (by omega)]; omega
        have j1 : (j : Int) < (a1l : Int) := by omega
        have j0 : (0 : Int) ≤ (j : Int) := by omega
        clear hz' hz hcs Bw
        have hm1 : (if (p : Int) + (nn : Int) < (N : Int) then (p : Int) + (nn : Int) else (N : Int)) = (e : Int) := by split <;> omega
        have hm2 : min (N : Int) ((p : Int) + (nn : Int)) = (e : Int) := by omega
        clear he
        obtain ⟨wo, hwo⟩ : ∃ wo, wo = wr := ⟨_, rfl⟩
        subst hwo
        go_wp2_with fail
        go_loopw [9, 52] (fun x9 xi wy => ∃ d : Nat, d ≤ r ∧ xi = .int .i64 d ∧ wy.ownsRow wo.heap.size 49 1 x9 d (textCells ((L.drop p).take d)) ∧ Below wo.heap.size wo wy) (fun _ i _ => r - (intOf i).toNat)
        case atStart => exact ⟨0, by omega, rfl, ⟨rfl, .inl ⟨rfl, rfl⟩⟩, Below.refl _ _⟩
        case round =>
          obtain ⟨d, hd, rfl, o1, Bd⟩ := hrel
          by_cases hdr : d < r
          · have dc := HCELL.out wr (B.trans (Bd.mono (Nat.le_of_lt hgr))) d (by omega)
            obtain ⟨t, ht⟩ : ∃ t, L.getD (p + d) .empty = t := ⟨_, rfl⟩
            rw [ht] at dc
            have HT := Lib.hid ht
            clear ht
            have d0 : (0 : Int) ≤ (d : Int) := by omega
            have d1 : (d : Int) < (r : Int) := by omega
            go_wp2_with (at_builtin; refine wpList_append_lies _ rfl _ _ 50 rfl wo.heap.size 49 i0 (.string ByteArray.empty) 1 16 Try.underlying50 hi0 hz0 hz1 hz2 rfl (by decide) _ _ _ rfl (o1.alloc _) ⟨wr.heap.size, 0, none⟩ 1 1 [.string t] rfl rfl (cell_one_new _ _ _) (by simp [Value.oneCell']) (by omega) (by rw [maxLen_eq]; omega) (by omega) (Nat.le_trans Bd.size (by simp)) _ rfl ?_; intro g2 cap w6 own1 hgrow hat hlt1)
            have hB1 := (Bd.alloc Bd.size _).grown hgrow (by have := Bd.size; simp; omega) (fun j hj => (o1.lt j hj).1)
            go_roundw
            case rel =>
              refine ⟨d + 1, by omega, by go_num, ?_, hB1⟩
              rw [part_succ L p d (by rw [HLL.out]; omega), textCells_one, HT.out]
              exact own1
            case measure => simp only [intOf]; omega
          · obtain rfl : d = r := by omega
            have hlen : ((L.drop p).take d).length = d := by rw [List.length_take, List.length_drop, HLL.out]; omega
            have hlen2 : (L.take p).length = p := by rw [List.length_take, HLL.out]; omega
            obtain ⟨ao, co, rfl, SO⟩ := SliceOf.of_own o1 (fun i => .string (((L.drop p).take d).getD i .empty)) (fun i hi => by
              unfold textCells
              rw [List.getElem?_map, List.getD_eq_getElem?_getD, List.getElem?_eq_getElem (by rw [hlen]; exact hi)]
              rfl)
            obtain ⟨u0, u1⟩ := HSUM.out p d
            obtain ⟨y0, y1⟩ := HSUM.out 0 p
            rw [List.drop_zero] at y0 y1
            have HP := Lib.hid (queue_Push g g 40 1048576 (sumQ (L.take p)) (L.take p) ((L.drop p).take d) ao d co wr (q.below Bd) (by omega) (by omega) (by omega) (by omega) y0 (by omega) (by rw [hlen2]; omega) hlen (by omega) (by omega) SO ⟨by rw [hlen2]; omega, by omega⟩)
            rw [← List.take_add, ← sumQ_append, ← List.take_add] at HP
            clear hlen hlen2 u0 u1 y0 y1 SO o1
            have Bp := B.trans (Bd.mono (Nat.le_of_lt hgr))
            go_wp2_with fail
            refine HP.out.mono ?_
            rintro e9 w7 ⟨rfl, q7, hb7⟩
            have B7 := Bp.trans hb7
            go_wp2_with fail
            go_roundw
            case rel => exact ⟨p + d, j + 1, by omega, by omega, by go_num, by go_num, q7, B7⟩
            case measure => simp only [intOf]; omega
      · have j1 : ¬ ((j : Int) < (a1l : Int)) := by omega
        have hm1 : (if (p : Int) + 1 < (N : Int) then (p : Int) + 1 else (N : Int)) = (e : Int) := by split <;> omega
        have hm2 : min (N : Int) ((p : Int) + 1) = (e : Int) := by omega
        clear he
        obtain ⟨wo, hwo⟩ : ∃ wo, wo = wr := ⟨_, rfl⟩
        subst hwo
        go_wp2_with fail
        go_loopw [9, 52] (fun x9 xi wy => ∃ d : Nat, d ≤ r ∧ xi = .int .i64 d ∧ wy.ownsRow wo.heap.size 49 1 x9 d (textCells ((L.drop p).take d)) ∧ Below wo.heap.size wo wy) (fun _ i _ => r - (intOf i).toNat)
        case atStart => exact ⟨0, by omega, rfl, ⟨rfl, .inl ⟨rfl, rfl⟩⟩, Below.refl _ _⟩
        case round =>
          obtain ⟨d, hd, rfl, o1, Bd⟩ := hrel
          by_cases hdr : d < r
          · have dc := HCELL.out wr (B.trans (Bd.mono (Nat.le_of_lt hgr))) d (by omega)
            obtain ⟨t, ht⟩ : ∃ t, L.getD (p + d) .empty = t := ⟨_, rfl⟩
            rw [ht] at dc
            have HT := Lib.hid ht
            clear ht
            have d0 : (0 : Int) ≤ (d : Int) := by omega
            have d1 : (d : Int) < (r : Int) := by omega
            go_wp2_with (at_builtin; refine wpList_append_lies _ rfl _ _ 50 rfl wo.heap.size 49 i0 (.string ByteArray.empty) 1 16 Try.underlying50 hi0 hz0 hz1 hz2 rfl (by decide) _ _ _ rfl (o1.alloc _) ⟨wr.heap.size, 0, none⟩ 1 1 [.string t] rfl rfl (cell_one_new _ _ _) (by simp [Value.oneCell']) (by omega) (by rw [maxLen_eq]; omega) (by omega) (Nat.le_trans Bd.size (by simp)) _ rfl ?_; intro g2 cap w6 own1 hgrow hat hlt1)
            have hB1 := (Bd.alloc Bd.size _).grown hgrow (by have := Bd.size; simp; omega) (fun j hj => (o1.lt j hj).1)
            go_roundw
            case rel =>
              refine ⟨d + 1, by omega, by go_num, ?_, hB1⟩
              rw [part_succ L p d (by rw [HLL.out]; omega), textCells_one, HT.out]
              exact own1
            case measure => simp only [intOf]; omega
          · obtain rfl : d = r := by omega
            have hlen : ((L.drop p).take d).length = d := by rw [List.length_take, List.length_drop, HLL.out]; omega
            have hlen2 : (L.take p).length = p := by rw [List.length_take, HLL.out]; omega
            obtain ⟨ao, co, rfl, SO⟩ := SliceOf.of_own o1 (fun i => .string (((L.drop p).take d).getD i .empty)) (fun i hi => by
              unfold textCells
              rw [List.getElem?_map, List.getD_eq_getElem?_getD, List.getElem?_eq_getElem (by rw [hlen]; exact hi)]
              rfl)
            obtain ⟨u0, u1⟩ := HSUM.out p d
            obtain ⟨y0, y1⟩ := HSUM.out 0 p
            rw [List.drop_zero] at y0 y1
            have HP := Lib.hid (queue_Push g g 40 1048576 (sumQ (L.take p)) (L.take p) ((L.drop p).take d) ao d co wr (q.below Bd) (by omega) (by omega) (by omega) (by omega) y0 (by omega) (by rw [hlen2]; omega) hlen (by omega) (by omega) SO ⟨by rw [hlen2]; omega, by omega⟩)
            rw [← List.take_add, ← sumQ_append, ← List.take_add] at HP
            clear hlen hlen2 u0 u1 y0 y1 SO o1
            have Bp := B.trans (Bd.mono (Nat.le_of_lt hgr))
            go_wp2_with fail
            refine HP.out.mono ?_
            rintro e9 w7 ⟨rfl, q7, hb7⟩
            have B7 := Bp.trans hb7
            go_wp2_with fail
            go_roundw
            case rel => exact ⟨p + d, j + 1, by omega, by omega, by go_num, by go_num, q7, B7⟩
            case measure => simp only [intOf]; omega
    · obtain rfl : p = N := by omega
      have hLt : L.take p = L := by rw [← HLL.out]; exact List.take_length
      rw [hLt] at q
      go_wp2_with fail
      go_loopw [71] (fun xi wr => ∃ k : Nat, k ≤ p ∧ xi = .int .i64 k ∧ QAt wr g g 40 1048576 (L.drop k) (sumQ (L.drop k)) ∧ Below g w2 wr) (fun i _ => p - (intOf i).toNat)
      case atStart => exact ⟨0, by omega, rfl, q, B⟩
      case round =>
        clear q B
        obtain ⟨k, hk, rfl, q, B⟩ := hrel
        by_cases hlt : k < p
        · obtain ⟨b, off, rfl, hbb, hcell⟩ := HSL.out.at1 (by omega)
          have d := (B.cell (p := ⟨b, off + k, none⟩) (by rw [← hgg]; exact hbb)).trans (hcell k hlt)
          have hdc := drop_cons L k (by rw [HLL.out]; exact hlt)
          rw [hdc] at q
          obtain ⟨s0, s1⟩ := HSUM.out k p
          have hall : (L.drop k).take p = L.drop k := List.take_of_length_le (by rw [List.length_drop, HLL.out]; omega)
          rw [hall, hdc] at s0 s1
          have hlen : (L.drop (k + 1)).length ≤ 100000 := by rw [List.length_drop, HLL.out]; omega
          obtain ⟨t, ht⟩ : ∃ t, L.getD k .empty = t := ⟨_, rfl⟩
          rw [ht] at q s0 s1 d
          have hone : sumQ (t :: L.drop (k + 1)) = sumQ [t] + sumQ (L.drop (k + 1)) := by rw [← sumQ_append]; rfl
          have hb0 := sumQ_bd (L.drop (k + 1))
          have HP := Lib.hid (queue_Pop g g 40 1048576 _ t (L.drop (k + 1)) wr q hlen s0 (by omega) (by omega))
          have hsub : sumQ (t :: L.drop (k + 1)) - sumQ [t] = sumQ (L.drop (k + 1)) := by omega
          rw [hsub] at HP
          have k0 : (0 : Int) ≤ (k : Int) := by omega
          have k1 : (k : Int) < (p : Int) := by omega
          clear q hdc hall ht hone hb0 hsub s0 s1 hlen hcell
          go_wp2_with fail
          refine HP.out.mono ?_
          rintro e w5 ⟨rfl, q5, hb5⟩
          have B5 := B.trans hb5
          go_wp2_with fail
          go_roundw
          case rel => exact ⟨k + 1, by omega, by go_num, q5, B5⟩
          case measure => simp only [intOf]; omega
        · obtain rfl : k = p := by omega
          have hdn : L.drop k = [] := List.drop_of_length_le (by rw [HLL.out]; exact Nat.le_refl _)
          rw [hdn] at q
          have HP := Lib.hid (queue_Pop0 g g 40 1048576 _ wr q)
          have HY := Lib.hid (queue_Bytes g g 40 1048576 _ [] wr q)
          clear q hdn
          go_wp2_with fail
          refine HP.out.mono ?_
          rintro e w5 ⟨rfl, rfl⟩
          go_wp2_with fail
          refine HY.out.mono ?_
          rintro e w5 ⟨rfl, rfl⟩
          go_wp2_with fail
          go_ret
          exact ⟨rfl, B2.trans (B.mono hg)⟩
end Go.Proofs.Ytomhnegfemdcdaa
