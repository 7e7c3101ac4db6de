/- The document's Numbers, the statements' told and Same; a nack's Numbers. No condition but the numbers' bounds. -/
import Derived.Test.YtmmoejnjajmnpaaNackFewer
namespace Go.Proofs.Ytmmoejnjajmnpaa
open Go.RowKit BigFrame
attribute [local go_sem ↓] Go.wp_at_zero Go.wp_at_succ

/-- Each once, as they come first. -/
def ddp (acc : List Int) (x : Int) : List Int := if x ∈ acc then acc else acc ++ [x]
def dd (l : List Int) : List Int := l.foldl ddp []
theorem dst_dd (e : Nat → Int) : ∀ k, dst e k = dd (lst e k)
  | 0 => rfl
  | k + 1 => by
    unfold dd
    rw [lst_succ, List.foldl_append, show dst e (k + 1) = ddp (dst e k) (e k) from rfl, dst_dd e k]
    rfl
theorem dd_snoc (l : List Int) (x : Int) : dd (l ++ [x]) = ddp (dd l) x := by unfold dd; rw [List.foldl_append]; rfl
theorem foldd_nodup : ∀ (l acc : List Int), (acc ++ l).Nodup → l.foldl ddp acc = acc ++ l
  | [], acc, _ => by simp
  | x :: l, acc, h => by
    have hx : x ∉ acc := fun hm => by
      rw [List.nodup_append] at h
      exact h.2.2 x hm x List.mem_cons_self rfl
    rw [List.foldl_cons, show ddp acc x = acc ++ [x] from if_neg hx, foldd_nodup l (acc ++ [x]) (by simpa using h)]
    simp
theorem dd_nodup {l : List Int} (h : l.Nodup) : dd l = l := foldd_nodup l [] h
theorem ddp_len (acc : List Int) (x : Int) : (ddp acc x).length ≤ acc.length + 1 := by unfold ddp; split <;> simp
theorem foldd_len : ∀ (l acc : List Int), (l.foldl ddp acc).length ≤ acc.length + l.length
  | [], acc => by simp
  | x :: l, acc => by
    have := foldd_len l (ddp acc x)
    have := ddp_len acc x
    rw [List.foldl_cons, List.length_cons]
    omega
theorem foldd_mem : ∀ (l acc : List Int) (x : Int), x ∈ l.foldl ddp acc ↔ x ∈ acc ∨ x ∈ l
  | [], acc, x => by simp
  | y :: l, acc, x => by
    rw [List.foldl_cons, foldd_mem l]
    unfold ddp
    split
    · rename_i h
      constructor
      · rintro (h1 | h1)
        · exact .inl h1
        · exact .inr (List.mem_cons_of_mem _ h1)
      · rintro (h1 | h1)
        · exact .inl h1
        · rcases List.mem_cons.1 h1 with rfl | h1
          · exact .inl h
          · exact .inr h1
    · simp [or_assoc]
theorem dd_mem (l : List Int) (x : Int) : x ∈ dd l ↔ x ∈ l := by unfold dd; rw [foldd_mem]; simp
/-- All numbers of pairs, one pair behind the other. -/
def flatP (l : List (Int × Nat)) : List Int := l.flatMap fun x => numsB x.1 x.2 16
theorem flatP_snoc (l : List (Int × Nat)) (x : Int × Nat) : flatP (l ++ [x]) = flatP l ++ numsB x.1 x.2 16 := by simp [flatP]
theorem flatP_len (l : List (Int × Nat)) : (flatP l).length ≤ 17 * l.length := by
  have := cntP_le l l.length
  unfold cntP at this
  rwa [List.take_length] at this
def PairsOk (l : List (Int × Nat)) : Prop := ∀ x ∈ l, (0 ≤ x.1 ∧ x.1 ≤ 65535) ∧ x.2 < 65536
theorem flatP_u16 {l : List (Int × Nat)} (h : PairsOk l) : U16s (flatP l) := fun x hx => by
  obtain ⟨y, hy, hx⟩ := List.mem_flatMap.1 hx
  exact nums_u16 (h y hy).1 _ _ x hx
theorem lst_getD2 (l : List Int) (n : Nat) (h : l.length = n) : lst (fun i => l.getD i 0) n = l := by subst h; exact lst_getD l
theorem dst_list (l : List Int) (n : Nat) (h : l.length = n) : dst (fun i => l.getD i 0) n = dd l := by rw [dst_dd, lst_getD2 l n h]
/-- The document's pairs as cells. -/
def rowQ (l : List (Int × Nat)) : List Value := l.flatMap fun x => [.int .i64 x.1, .int .i64 (x.2 : Int)]
theorem rowQ_len (l : List (Int × Nat)) : (rowQ l).length = l.length * 2 := by
  induction l with
  | nil => rfl
  | cons r l ih => unfold rowQ at *; rw [List.flatMap_cons, List.length_append, ih, List.length_cons]; simp; omega
theorem rowQ_append (l m : List (Int × Nat)) : rowQ (l ++ m) = rowQ l ++ rowQ m := List.flatMap_append
theorem rowQ_get (l : List (Int × Nat)) (i : Nat) (r : Int × Nat) (h : l[i]? = some r) (j : Nat) (hj : j < 2) : (rowQ l)[i * 2 + j]? = [Value.int .i64 r.1, .int .i64 (r.2 : Int)][j]? := by
  have hi := (List.getElem?_eq_some_iff.1 h).1
  have e : l = l.take i ++ (r :: l.drop (i + 1)) := by
    have h2 := (List.getElem?_eq_some_iff.1 h).2
    rw [← h2]
    exact (List.take_append_drop i l).symm.trans (by rw [List.drop_eq_getElem_cons hi])
  rw [e, rowQ_append, List.getElem?_append_right (by rw [rowQ_len, List.length_take]; omega), rowQ_len, List.length_take]
  have e2 : i * 2 + j - min i l.length * 2 = j := by omega
  rw [e2]
  show ([Value.int .i64 r.1, .int .i64 (r.2 : Int)] ++ _)[j]? = _
  rw [List.getElem?_append_left (by simp; omega)]
/-- A slice of the document's pairs that can be read. -/
def RefAt (W : World) (a : Option Addr) (n c : Nat) (l : List (Int × Nat)) : Prop := l.length = n ∧ SliceOf W a n c 2 (fun i => [.int .i64 (l.getD i (0, 0)).1, .int .i64 ((l.getD i (0, 0)).2 : Int)])
theorem RefAt.below {w w' : World} {a : Option Addr} {n c : Nat} {l : List (Int × Nat)} (h : RefAt w a n c l) (hb : Below w.heap.size w w') : RefAt w' a n c l := ⟨h.1, h.2.below hb⟩
theorem RefAt.of_own {W : World} {B n : Nat} {v : Value} {l : List (Int × Nat)} (h : W.ownsRow B 40 2 v n (rowQ l)) (hl : l.length = n) : ∃ a c, v = .slice a n c ∧ RefAt W a n c l := by
  rcases h.2 with ⟨rfl, rfl⟩ | ⟨g, cap, cur, rfl, hb, hg, hn, hm, hs, hx⟩
  · exact ⟨none, 0, rfl, hl, Nat.le_refl _, Nat.zero_le _, fun h => absurd h (by omega)⟩
  · refine ⟨_, cap, rfl, hl, hn, hm, fun hp => ⟨g, 0, rfl, (h.lt g rfl).2, fun i hi j v hv => ?_⟩⟩
    have hj : j < 2 := by
      have := (List.getElem?_eq_some_iff.1 hv).1
      simp at this; omega
    have hli : l[i]? = some (l.getD i (0, 0)) := by
      rw [List.getD_eq_getElem?_getD, List.getElem?_eq_getElem (by omega)]; rfl
    rw [← rowQ_get l i _ hli j hj, ← hx, List.getElem?_take, if_pos (by omega)] at hv
    rw [Array.getElem?_toList] at hv
    have := cell_of_row W g (0 + i * 2 + j) cur _ _ hg
    rw [this, Nat.zero_add]
    exact hv
theorem RefAt.get {W : World} {a : Option Addr} {n c : Nat} {l : List (Int × Nat)} (h : RefAt W a n c l) (hp : 0 < n) : ∃ b off, a = some ⟨b, off, none⟩ ∧ b < W.heap.size ∧ ∀ i x, l[i]? = some x → W.cell? ⟨b, off + i * 2, none⟩ = some (.int .i64 x.1) ∧ W.cell? ⟨b, off + i * 2 + 1, none⟩ = some (.int .i64 (x.2 : Int)) := by
  obtain ⟨b, off, ha, hb, hc⟩ := h.2.2.2 hp
  refine ⟨b, off, ha, hb, fun i x hx => ?_⟩
  have hi := (List.getElem?_eq_some_iff.1 hx).1
  have e : l.getD i (0, 0) = x := by rw [List.getD_eq_getElem?_getD, hx]; rfl
  have h0 := hc i (by have := h.1; omega) 0 _ rfl
  have h1 := hc i (by have := h.1; omega) 1 _ rfl
  rw [e] at h0 h1
  exact ⟨by simpa using h0, h1⟩
theorem info_rpair : ∃ i, Try.prog.info? 40 = some i ∧ i.zero = some (.agg #[.int .i64 0, .int .i64 0]) ∧ i.size = 2 ∧ i.bytes = 16 := by
  have h : (Try.prog.info? 40).map (fun i => (i.zero, i.size, i.bytes)) = some (some (.agg #[.int .i64 0, .int .i64 0]), 2, 16) := by kernel_rfl
  obtain ⟨i, hi, he⟩ := Option.map_eq_some_iff.1 h
  simp only [Prod.mk.injEq] at he
  exact ⟨i, hi, he.1, he.2.1, he.2.2⟩
set_option maxRecDepth 8000 in
set_option maxHeartbeats 4000000 in
theorem law10_told (a : Option Addr) (n c : Nat) (l : List (Int × Nat)) (w : World) (P : PairsAt w a n c l) (hn : n ≤ 10000) (hok : PairsOk l) :
    Calls Try.prog 16 #[.slice a n c] w fun e w' => ∃ v, e = .returned v ∧ w'.ownsRow w.heap.size 40 2 v n (rowQ l) ∧ Below w.heap.size w w' := by
  obtain ⟨i0, hi0, hz0, hz1, hz2⟩ := info_rpair
  have HL := Lib.hid P.1
  have HOK := Lib.hid hok
  clear hok
  go_enter Try.func16, Try.ntmps16
  go_wp2_with fail
  go_loopw [3, 8] (fun x3 x8 wr => ∃ k : Nat, k ≤ n ∧ x8 = .int .i64 k ∧ (∃ ao co, x3 = .slice ao k co) ∧ wr.ownsRow w.heap.size 40 2 x3 k (rowQ (l.take k)) ∧ Below w.heap.size w wr) (fun _ x8 _ => n - (intOf x8).toNat)
  case atStart => exact ⟨0, by omega, rfl, ⟨_, _, rfl⟩, ⟨rfl, .inl ⟨rfl, rfl⟩⟩, Below.refl _ _⟩
  case round =>
    obtain ⟨k, hk, rfl, ⟨ao, co, rfl⟩, own, B⟩ := hrel
    by_cases hlt : k < n
    · have hkl : k < l.length := by have := HL.out; omega
      obtain ⟨x, hx⟩ : ∃ x, l[k]? = some x := ⟨_, List.getElem?_eq_getElem hkl⟩
      obtain ⟨p, b⟩ := x
      obtain ⟨bb, off, rfl, hbb, hcell⟩ := P.get (by omega)
      obtain ⟨d0, d1⟩ := hcell k _ hx
      have e0 := (B.cell (p := ⟨bb, off + k * 2, none⟩) hbb).trans d0
      have e1 := (B.cell (p := ⟨bb, off + k * 2 + 1, none⟩) hbb).trans d1
      obtain ⟨⟨p0, p1⟩, hb⟩ := HOK.out _ (List.mem_of_getElem? hx)
      simp only at e0 e1 p0 p1 hb
      have htk : rowQ (l.take (k + 1)) = rowQ (l.take k) ++ [.int .i64 p, .int .i64 (b : Int)] := by rw [List.take_add_one, hx, rowQ_append]; rfl
      have HTK := Lib.hid htk
      have i1 : (0 : Int) ≤ (k : Int) := by omega
      have i2 : (k : Int) < (n : Int) := by omega
      have wk : IntKind.i64.wrap ((k : Int) + 1) = ((k + 1 : Nat) : Int) := by rw [IntWalk.i64_in _ (by omega)]; omega
      have wp : IntKind.i64.wrap p = p := IntWalk.i64_in _ (by omega)
      have wb : IntKind.i64.wrap (b : Int) = (b : Int) := IntWalk.i64_in _ (by omega)
      have K4 := Blk.new wr 30 #[.int .u16 p, .int .u16 (b : Int)]
      have B4 : Below wr.heap.size wr (wr.alloc (.cells #[.int .u16 p, .int .u16 (b : Int)] 30)) := (Below.refl _ wr).alloc (Nat.le_refl _) _
      have B04 := below_then B B4 (Nat.le_refl _)
      have own4 := ownsRow_alloc own (.cells #[.int .u16 p, .int .u16 (b : Int)] 30)
      clear hx hcell d0 d1 hkl htk own
      go_upto_region 5 with fail
      clear e0 e1
      obtain ⟨gp, hgp⟩ : ∃ gp, wr.heap.size = gp := ⟨_, rfl⟩
      rw [hgp] at K4 ⊢
      generalize wr.alloc (.cells #[.int .u16 p, .int .u16 (b : Int)] 30) = w4 at *
      have k4 := K4.cell
      simp at k4
      have s4 := B04.size
      have hnew := World.news_of_block (Blk.new w4 40 #[.int .i64 p, .int .i64 (b : Int)])
      clear hgp B4
      go_wp2_with (at_builtin; refine wpList_append_lies _ rfl _ _ 41 rfl w.heap.size 40 i0 (.agg #[.int .i64 0, .int .i64 0]) 2 16 Try.underlying41 hi0 hz0 hz1 hz2 rfl (by decide) _ _ _ rfl (ownsRow_alloc own4 _) ⟨w4.heap.size, 0, none⟩ 1 1 [.int .i64 p, .int .i64 (b : Int)] rfl rfl hnew (by simp [Value.oneCell']) (by omega) (by rw [maxLen_eq]; omega) (by omega) (by simp; omega) _ rfl ?_; intro g6 k6 w6 own6 hgrow6 hat6 hlt6)
      have B6 : Below w.heap.size w w6 := (B04.alloc s4 _).grown hgrow6 (by simp; omega) (fun j hj => (own4.lt j hj).1)
      go_roundw
      case rel => exact ⟨k + 1, by omega, by go_num, ⟨_, _, rfl⟩, by rw [HTK.out]; exact own6, B6⟩
      case measure => simp only [intOf]; omega
    · obtain rfl : k = n := by omega
      have j1 : ¬ (k : Int) < (k : Int) := by omega
      have hall : l.take k = l := by have := HL.out; rw [← this]; exact List.take_length
      rw [hall] at own
      go_wp2_with fail
      go_ret
      exact ⟨_, rfl, own, B⟩
end Go.Proofs.Ytmmoejnjajmnpaa
