/- The statement SerialLatest, walked: it returns true. No condition but the frame's. -/
import Derived.Test.YticagajaphoefaaSerialLaws
import Derived.Test.YticagajaphoefaaInts
namespace Go.Proofs.Yticagajaphoefaa
open Go.RowKit Go.Maps BigFrame
attribute [local go_sem ↓] Go.wp_at_zero Go.wp_at_succ

/-- The latest of the first k, f ahead of them. -/
def latI (f : Int) (e : Nat → Int) : Nat → Int
  | 0 => f
  | k + 1 => if 0 < diffI (latI f e k) (e k) then e k else latI f e k
theorem latI_bd (f : Int) (e : Nat → Int) (l : Nat) (hf : 0 ≤ f ∧ f ≤ 65535) (he : ∀ i, i < l → 0 ≤ e i ∧ e i ≤ 65535) : ∀ k, k ≤ l → 0 ≤ latI f e k ∧ latI f e k ≤ 65535 := by
  intro k
  induction k with
  | zero => intro _; exact hf
  | succ k ih =>
    intro hk
    unfold latI
    split
    · exact he k (by omega)
    · exact ih (by omega)
set_option maxHeartbeats 2000000 in
theorem serial_LatestI (f : Int) (a : Option Addr) (l c : Nat) (e : Nat → Int) (w : World) (S : SliceOf w a l c 1 (fun i => [.int .u16 (e i)])) (hl : l ≤ 100000) :
    Calls Try.prog 18 #[.int .u16 f, .slice a l c] w fun e' w' => e' = .returned (.int .u16 (latI f e l)) ∧ w = w' := by
  go_enter Try.func18, Try.ntmps18
  go_wp2_with fail
  go_loop [0, 9] (fun x0 x9 => ∃ k : Nat, k ≤ l ∧ x9 = .int .i64 k ∧ x0 = .int .u16 (latI f e k)) (fun _ x9 => l - (intOf x9).toNat)
  case atStart => exact ⟨0, by omega, rfl, rfl⟩
  case round =>
    obtain ⟨k, hk, rfl, rfl⟩ := hrel
    by_cases hlt : k < l
    · obtain ⟨b, off, rfl, hbb, hcell⟩ := S.at1 (by omega)
      have d := hcell k hlt
      have hs : latI f e (k + 1) = if 0 < diffI (latI f e k) (e k) then e k else latI f e k := rfl
      obtain ⟨x, hx⟩ : ∃ x, e k = x := ⟨_, rfl⟩
      obtain ⟨y, hy⟩ : ∃ y, latI f e k = y := ⟨_, rfl⟩
      obtain ⟨r, hr⟩ : ∃ r, decide (0 < diffI y x) = r := ⟨_, rfl⟩
      rw [hx] at d hs
      rw [hy] at hs ⊢
      have i1 : (0 : Int) ≤ (k : Int) := by omega
      have i2 : (k : Int) < (l : Int) := by omega
      have wk : IntKind.i64.wrap ((k : Int) + 1) = ((k + 1 : Nat) : Int) := by rw [IntWalk.i64_in _ (by omega)]; omega
      have HS := Lib.hid hs
      have HR := Lib.hid hr
      clear hx hy hcell hs hr
      cases r
      · go_wp2_with (go_at_call 12; ((with_reducible refine (serial_Less _ _ false HR.out _).mono ?_); rintro e w' ⟨rfl, rfl⟩))
        go_round
        case rel => exact ⟨k + 1, by omega, by go_num, by rw [HS.out, if_neg (by simpa using HR.out)]⟩
        case measure => simp only [intOf]; omega
      · go_wp2_with (go_at_call 12; ((with_reducible refine (serial_Less _ _ true HR.out _).mono ?_); rintro e w' ⟨rfl, rfl⟩))
        go_round
        case rel => exact ⟨k + 1, by omega, by go_num, by rw [HS.out, if_pos (by simpa using HR.out)]⟩
        case measure => simp only [intOf]; omega
    · obtain rfl : k = l := by omega
      have j1 : ¬ (k : Int) < (k : Int) := by omega
      go_wp2_with fail
      go_ret
      exact ⟨rfl, rfl⟩
set_option maxHeartbeats 2000000 in
theorem ref01_LatestI (f : Int) (a : Option Addr) (l c : Nat) (e : Nat → Int) (w : World) (S : SliceOf w a l c 1 (fun i => [.int .i64 (e i)])) (hl : l ≤ 100000) (hf : 0 ≤ f ∧ f ≤ 65535) (he : ∀ i, i < l → 0 ≤ e i ∧ e i ≤ 65535) :
    Calls Try.prog 19 #[.int .i64 f, .slice a l c] w fun e' w' => e' = .returned (.int .i64 (latI f e l)) ∧ w = w' := by
  go_enter Try.func19, Try.ntmps19
  go_wp2_with fail
  go_loop [0, 9] (fun x0 x9 => ∃ k : Nat, k ≤ l ∧ x9 = .int .i64 k ∧ x0 = .int .i64 (latI f e k)) (fun _ x9 => l - (intOf x9).toNat)
  case atStart => exact ⟨0, by omega, rfl, rfl⟩
  case round =>
    obtain ⟨k, hk, rfl, rfl⟩ := hrel
    by_cases hlt : k < l
    · obtain ⟨b, off, rfl, hbb, hcell⟩ := S.at1 (by omega)
      have d := hcell k hlt
      have hs : latI f e (k + 1) = if 0 < diffI (latI f e k) (e k) then e k else latI f e k := rfl
      have hyb := latI_bd f e l hf he k hk
      have hxb := he k hlt
      obtain ⟨x, hx⟩ : ∃ x, e k = x := ⟨_, rfl⟩
      obtain ⟨y, hy⟩ : ∃ y, latI f e k = y := ⟨_, rfl⟩
      obtain ⟨r, hr⟩ : ∃ r, diffI y x = r := ⟨_, rfl⟩
      rw [hx] at d hs hxb
      rw [hy] at hs hyb ⊢
      rw [hr] at hs
      obtain ⟨x0, x1⟩ := hxb
      obtain ⟨y0, y1⟩ := hyb
      have i1 : (0 : Int) ≤ (k : Int) := by omega
      have i2 : (k : Int) < (l : Int) := by omega
      have wk : IntKind.i64.wrap ((k : Int) + 1) = ((k + 1 : Nat) : Int) := by rw [IntWalk.i64_in _ (by omega)]; omega
      have HS := Lib.hid hs
      have HR := Lib.hid hr
      clear hx hy hcell hs hr
      by_cases hp : 0 < r
      · have j : decide (0 < r) = true := by simpa using hp
        go_wp2_with (go_at_call 11; ((with_reducible refine (ref01_Diff _ _ r y0 y1 x0 x1 HR.out _).mono ?_); rintro e w' ⟨rfl, rfl⟩))
        go_round
        case rel => exact ⟨k + 1, by omega, by go_num, by rw [HS.out, if_pos hp]⟩
        case measure => simp only [intOf]; omega
      · have j : decide (0 < r) = false := by simpa using hp
        go_wp2_with (go_at_call 11; ((with_reducible refine (ref01_Diff _ _ r y0 y1 x0 x1 HR.out _).mono ?_); rintro e w' ⟨rfl, rfl⟩))
        go_round
        case rel => exact ⟨k + 1, by omega, by go_num, by rw [HS.out, if_neg (by omega)]⟩
        case measure => simp only [intOf]; omega
    · obtain rfl : k = l := by omega
      have j1 : ¬ (k : Int) < (k : Int) := by omega
      go_wp2_with fail
      go_ret
      exact ⟨rfl, rfl⟩

theorem dst_at (e : Nat → Int) (n i : Nat) (hi : i < n) (hnot : e i ∉ dst e i) : (dst e n)[(dst e i).length]? = some (e i) ∧ (dst e i).length < (dst e n).length := by
  have hs : dst e (i + 1) = dst e i ++ [e i] := by rw [dst, if_neg hnot]
  obtain ⟨r, hr⟩ := dst_pre e (i + 1) n (by omega)
  rw [hs] at hr
  rw [← hr]
  simp
theorem dst_after (e : Nat → Int) (n i : Nat) (hi : i < n) (hin : e i ∈ dst e i) (h : (dst e i).length < (dst e n).length) : (dst e n).getD (dst e i).length 0 ≠ e i := by
  obtain ⟨r, hr⟩ := dst_pre e i n (by omega)
  have hnd := dst_nodup e n
  rw [← hr] at hnd h ⊢
  rw [List.nodup_append] at hnd
  have hlt : 0 < r.length := by simpa using h
  match r, hlt with
  | y :: ys, _ =>
    intro he
    simp [List.getD] at he
    exact hnd.2.2 (e i) hin y (by simp) he.symm
theorem dst_dst_take (e : Nat → Int) (n k : Nat) (h : k < (dst e n).length) : (dst e n).getD k 0 ∉ (dst e n).take k := by
  have hnd := dst_nodup e n
  intro hm
  have h2 : (dst e n).take (k + 1) = (dst e n).take k ++ [(dst e n).getD k 0] := by
    rw [List.take_add_one, List.getElem?_eq_getElem h]
    simp [List.getD, h]
  have h3 : ((dst e n).take (k + 1)).Nodup := List.Sublist.nodup (List.take_sublist _ _) hnd
  rw [h2, List.nodup_append] at h3
  exact h3.2.2 _ hm _ (by simp) rfl
/-- A map that counts numbers of 16 bits. -/
def CountIs (D : DataW Unit) (f : Int → Int) : Prop := ∀ x : Int, 0 ≤ x → x ≤ 65535 → D.atKey (.int .u16 x) (.lit (.int .i64 0)) = .lit (.int .i64 (f x))
theorem CountIs.put {D : DataW Unit} {f : Int → Int} (h : CountIs D f) (hM : IsMap D) {y : Int} (h0 : 0 ≤ y) (h1 : y ≤ 65535) (v : Int) : CountIs (D.put (.int .u16 y) (.lit (.int .i64 v))) (fun x => if x = y then v else f x) := by
  intro x x0 x1
  simp only
  by_cases e : x = y
  · subst e
    rw [Maps.atKey_put_same hM (u16_key h0 h1), if_pos rfl]
  · rw [Maps.atKey_put_other (by intro h; injection h with _ h; exact e h), h x x0 x1, if_neg e]
theorem CountIs.congr {D : DataW Unit} {f g : Int → Int} (h : CountIs D f) (he : ∀ x, f x = g x) : CountIs D g := fun x h0 h1 => (he x) ▸ h x h0 h1

set_option maxRecDepth 8000 in
set_option maxHeartbeats 4000000 in
theorem SerialLatest_walk (a0 : Int) (a1a : Option Addr) (a1l a1c : Nat) (a1e0 : Nat → Int) (w : World) (a0w : (Lit.int .u16 a0).wf = true) (a1S : SliceOf w a1a a1l a1c 1 (fun i => [.int .u16 (a1e0 i)])) (a1F0 : ∀ i, i < a1l → (Lit.int .u16 (a1e0 i)).wf = true) :
    Calls Try.prog 7 #[.int .u16 a0, .slice a1a a1l a1c] w fun e w' => e = .returned (.bool true) ∧ Below w.heap.size w w' := by
  have ha0 := wf_u16 a0w
  have hsz := a1S.size_le
  have hcap := a1S.1
  have hcm := a1S.2.1
  rw [maxLen_eq] at hcm
  obtain ⟨n, hn⟩ : ∃ n : Nat, min a1l 60 = n := ⟨_, rfl⟩
  have hm1 : (if 60 < (a1l : Int) then 60 else (a1l : Int)) = (n : Int) := by rw [← hn]; split <;> omega
  have hm2 : min (a1l : Int) 60 = (n : Int) := by omega
  have he : ∀ i, i < n → 0 ≤ a1e0 i ∧ a1e0 i ≤ 65535 := fun i hi => wf_u16 (a1F0 i (by omega))
  have S := a1S.upto n (by omega)
  have n60 : n ≤ 60 := by omega
  have nl : n ≤ a1l := by omega
  have HE := Lib.hid he
  have nc : (n : Int) ≤ (a1c : Int) := by omega
  clear hn a0w a1F0 a1S he
  obtain ⟨e, hee⟩ : ∃ e, a1e0 = e := ⟨_, rfl⟩
  rw [hee] at S HE
  clear hee
  have hmm := @run_makeMap Try.prog
  go_enter Try.func7, Try.ntmps7
  go_wp2_with fail
  refine (law01_awake _).mono ?_
  rintro e' w1 ⟨rfl, B1⟩
  go_wp2_with fail
  have S1 := S.below B1
  refine (serial_Distinct a1a n a1c e w1 S1 (by omega) HE.out).mono ?_
  rintro e' w2 ⟨v, rfl, own, hb2⟩
  obtain ⟨va, vc, rfl, SD⟩ := SliceOf.of_cells own
  have B2 := below_then B1 hb2 (Nat.le_refl _)
  obtain ⟨dl, hdl⟩ : ∃ dl, (dst e n).length = dl := ⟨_, rfl⟩
  have hdn := dst_len e n
  have hbd := dst_bd e n HE.out
  rw [hdl] at hdn SD ⊢
  have HDL := Lib.hid hdl
  have HBD := Lib.hid hbd
  clear own hdl hbd S1 B1 hb2
  go_wp2_with fail
  clear hmm
  have hM3 : (w2.alloc (.map #[] 0)).ownsMap Try.prog 22 (plainElem (H := Unit) Try.prog 3) w2.heap.size 0 (.map []) := World.ownsMap_made w2 Try.prog 22 _
  have hB3 : Below w2.heap.size w2 (w2.alloc (.map #[] 0)) := (Below.refl _ _).alloc (Nat.le_refl _) _
  generalize w2.alloc (.map #[] 0) = w3 at *
  go_loopw [24] (fun x24 wr => ∃ (k m : Nat) (D : DataW Unit), k ≤ dl ∧ x24 = .int .i64 k ∧ wr.ownsMap Try.prog 22 (plainElem (H := Unit) Try.prog 3) w2.heap.size m D ∧ m ≤ k ∧ CountIs D (fun x => if x ∈ (dst e n).take k then 1 else 0) ∧ Below w2.heap.size w2 wr) (fun x24 _ => dl - (intOf x24).toNat)
  case atStart => exact ⟨0, 0, .map [], by omega, rfl, hM3, Nat.le_refl _, fun x _ _ => by simp; rfl, hB3⟩
  case round =>
    clear hM3 hB3
    obtain ⟨k, m, D, hk, rfl, hM, hm, hC, B⟩ := hrel
    by_cases hlt : k < dl
    · obtain ⟨b, off, rfl, hbb, hcell⟩ := SD.at1 (by omega)
      have hnt := dst_dst_take e n k (by rw [HDL.out]; exact hlt)
      have hmem : (dst e n).getD k 0 ∈ dst e n := by
        have : k < (dst e n).length := by rw [HDL.out]; exact hlt
        simp only [List.getD, List.getElem?_eq_getElem this, Option.getD_some]
        exact List.getElem_mem _
      have hnext : (dst e n).take (k + 1) = (dst e n).take k ++ [(dst e n).getD k 0] := by
        have : k < (dst e n).length := by rw [HDL.out]; exact hlt
        rw [List.take_add_one, List.getElem?_eq_getElem this]
        simp [List.getD, this]
      have hxb := HBD.out _ hmem
      have d := (B.cell (p := ⟨b, off + k, none⟩) hbb).trans (hcell k hlt)
      obtain ⟨x, hx⟩ : ∃ x, (dst e n).getD k 0 = x := ⟨_, rfl⟩
      rw [hx] at d hxb hnt hnext
      obtain ⟨x0, x1⟩ := hxb
      have hkey := keyOf_int_mk Try.underlying22 (u16_wf x0 x1)
      have HL : (Instr.lookup 37 (.map (some w2.heap.size)) (.int .u16 x) false).run Try.prog wr = .ok (.int .i64 0) wr := by
        obtain ⟨c, hrun, hat, hwc⟩ := World.ownsMap.lookup_int hM keyed_u16 Try.underlying37 Try.underlying3 (by kernel_rfl) hkey
        rw [hC x x0 x1] at hat
        simp only [if_neg hnt] at hat
        injection hat with hat
        injection hat with _ hat
        rw [hrun, ← hat]
      have hC2 := hC.put (World.ownsMap.isMap hM) x0 x1 1
      have i1 : (0 : Int) ≤ (k : Int) := by omega
      have i2 : (k : Int) < (dl : Int) := by omega
      have wk : IntKind.i64.wrap ((k : Int) + 1) = ((k + 1 : Nat) : Int) := by rw [IntWalk.i64_in _ (by omega)]; omega
      have HC2 := Lib.hid hC2
      have HM := Lib.hid hM
      have HN := Lib.hid hnext
      have hbs := B.size
      clear hx hcell hC hC2 hM hnext hmem hnt
      go_wp2_with (at_mapUpdate; refine wpList_mapUpdate_own _ rfl _ _ _ 37 rfl 22 3 keyed_u16 Try.underlying37 _ w2.heap.size m D rfl HM.out (by unfold maxLen; omega) _ _ _ rfl rfl hkey _ [] (plainElem_int Try.underlying3 (by decide)) ?_; intro w4 hM4 hg4)
      have B4 : Below w2.heap.size w2 w4 := B.grown hg4 (by omega) (fun j hj => by injection hj with hj; omega)
      go_roundw
      case rel =>
        refine ⟨k + 1, m + 1, _, by omega, by go_num, hM4, by omega, HC2.out.congr fun y => ?_, B4⟩
        rw [HN.out]
        by_cases hy : y = x
        · subst hy; simp
        · simp [hy]
      case measure => simp only [intOf]; omega
    · obtain rfl : k = dl := by omega
      have ht : (dst e n).take k = dst e n := by rw [← HDL.out]; exact List.take_length
      rw [ht] at hC
      have j1 : ¬ (k : Int) < (k : Int) := by omega
      have HC := Lib.hid hC
      have HM := Lib.hid hM
      have SD4 := SD.below B
      have S4 := S.below (B2.trans (B.mono B2.size))
      have B4 := B2.trans (B.mono B2.size)
      have nm2 : (n : Int) ≤ 60 := by omega
      clear hC hM ht SD S
      go_wp2_with fail
      generalize wr = w4 at *
      go_loopw [9, 35] (fun x9 x35 wr => ∃ i : Nat, i ≤ n ∧ x35 = .int .i64 i ∧ x9 = .int .i64 ((dst e i).length : Nat) ∧ w4 = wr) (fun _ x35 _ => n - (intOf x35).toNat)
      case atStart => exact ⟨0, by omega, rfl, rfl, rfl⟩
      case round =>
        obtain ⟨i, hi, rfl, rfl, rfl⟩ := hrel
        by_cases hlt : i < n
        · obtain ⟨b, off, rfl, hbb, hcell⟩ := S4.at1 (by omega)
          have d := hcell i hlt
          have hxb := HE.out i hlt
          have hxm : e i ∈ dst e n := (dst_mem e (e i) n).2 ⟨i, hlt, rfl⟩
          have hal : (dst e i).length ≤ k := by
            rw [← HDL.out]
            exact (dst_pre e i n (by omega)).length_le
          have hsucc : dst e (i + 1) = if e i ∈ dst e i then dst e i else dst e i ++ [e i] := rfl
          have h1 := fun hnot => dst_at e n i hlt hnot
          have h2 := fun hin hl => dst_after e n i hlt hin hl
          rw [HDL.out] at h1 h2
          obtain ⟨x, hx⟩ : ∃ x, e i = x := ⟨_, rfl⟩
          obtain ⟨at_, hat⟩ : ∃ at_, (dst e i).length = at_ := ⟨_, rfl⟩
          have hlen1 : (dst e (i + 1)).length = if e i ∈ dst e i then at_ else at_ + 1 := by
            rw [hsucc]; split
            · exact hat
            · simp [hat]
          rw [hx] at d hxb hxm h1 h2 hlen1
          rw [hat] at h1 h2 hal ⊢
          obtain ⟨x0, x1⟩ := hxb
          have hkey := keyOf_int_mk Try.underlying22 (u16_wf x0 x1)
          have HL : (Instr.lookup 37 (.map (some w2.heap.size)) (.int .u16 x) false).run Try.prog w4 = .ok (.int .i64 1) w4 := by
            obtain ⟨c, hrun, hat, hwc⟩ := World.ownsMap.lookup_int HM.out keyed_u16 Try.underlying37 Try.underlying3 (by kernel_rfl) hkey
            rw [HC.out x x0 x1] at hat
            simp only [if_pos hxm] at hat
            injection hat with hat
            injection hat with _ hat
            rw [hrun, ← hat]
          have i1 : (0 : Int) ≤ (i : Int) := by omega
          have i2 : (i : Int) < (n : Int) := by omega
          have a0' : (0 : Int) ≤ (at_ : Int) := by omega
          have wk : IntKind.i64.wrap ((i : Int) + 1) = ((i + 1 : Nat) : Int) := by rw [IntWalk.i64_in _ (by omega)]; omega
          have wa : IntKind.i64.wrap ((at_ : Int) + 1) = ((at_ + 1 : Nat) : Int) := by rw [IntWalk.i64_in _ (by omega)]; omega
          have HLEN := Lib.hid hlen1
          clear hcell hsucc hat hlen1 hx
          by_cases hin : x ∈ dst e i
          · have HIN := Lib.hid hin
            by_cases hak : at_ < k
            · obtain ⟨db, doff, rfl, hdbb, hdcell⟩ := SD4.at1 (by omega)
              have d2 := hdcell at_ hak
              have hne := h2 hin hak
              obtain ⟨y, hy⟩ : ∃ y, (dst e n).getD at_ 0 = y := ⟨_, rfl⟩
              rw [hy] at d2 hne
              have j2 : (y == x) = false := by simpa using hne
              have j3 : decide (y = x) = false := by simpa using hne
              have j4 : (at_ : Int) < (k : Int) := by omega
              clear hy hin h1 h2 hdcell hxm
              go_wp2_with fail
              go_roundw
              case rel => exact ⟨i + 1, by omega, by go_num, by rw [HLEN.out, if_pos HIN.out], by trivial⟩
              case measure => simp only [intOf]; omega
            · have j4 : ¬ (at_ : Int) < (k : Int) := by omega
              clear hin h1 h2 hxm
              go_wp2_with fail
              go_roundw
              case rel => exact ⟨i + 1, by omega, by go_num, by rw [HLEN.out, if_pos HIN.out], by trivial⟩
              case measure => simp only [intOf]; omega
          · have HIN := Lib.hid hin
            obtain ⟨g1, g2⟩ := h1 hin
            obtain ⟨db, doff, rfl, hdbb, hdcell⟩ := SD4.at1 (by omega)
            have d2 := hdcell at_ g2
            have hy : (dst e n).getD at_ 0 = x := by simp [List.getD, g1]
            rw [hy] at d2
            have j4 : (at_ : Int) < (k : Int) := by omega
            clear hy hin h1 h2 hdcell g1 hxm
            go_wp2_with fail
            go_roundw
            case rel => exact ⟨i + 1, by omega, by go_num, by rw [HLEN.out, if_neg HIN.out]; go_num, by trivial⟩
            case measure => simp only [intOf]; omega
        · obtain rfl : i = n := by omega
          have j2 : ¬ (i : Int) < (i : Int) := by omega
          have hlb := latI_bd a0 e i ha0 HE.out i (Nat.le_refl _)
          have HLA := Lib.hid (fun W (h : SliceOf W a1a i a1c 1 (fun i => [.int .u16 (e i)])) => serial_LatestI a0 a1a i a1c e W h (by omega))
          have HLR := Lib.hid (fun W a c (h : SliceOf W a i c 1 (fun i => [.int .i64 (e i)])) => ref01_LatestI a0 a i c e W h (by omega) ha0 HE.out)
          obtain ⟨lv, hlv⟩ : ∃ lv, latI a0 e i = lv := ⟨_, rfl⟩
          rw [hlv] at hlb HLA HLR
          obtain ⟨lb0, lb1⟩ := hlb
          have hdd := HDL.out
          rw [hdd]
          clear hlv hdd HDL
          go_wp2_with fail
          refine (HLA.out _ S4).mono ?_
          rintro e' w' ⟨rfl, rfl⟩
          go_wp2_with fail
          refine (law01_Ints a1a i a1c e _ S4 (by omega) HE.out).mono ?_
          rintro e' w5 ⟨v, rfl, own5, hb5⟩
          obtain ⟨ia, ic, rfl, SI⟩ := SliceOf.of_lst own5
          go_wp2_with fail
          refine (HLR.out _ _ _ SI).mono ?_
          rintro e' w' ⟨rfl, rfl⟩
          go_wp2_with fail
          go_ret
          exact ⟨rfl, below_then B4 hb5 (Nat.le_refl _)⟩
end Go.Proofs.Yticagajaphoefaa
