/- Package subflow: rows of parts, one by one read. No condition. (Printed by gen_sub3.py.) -/
import Derived.Test.YtolgdcchnmbmnaaSubL
namespace Go.Proofs.Ytolgdcchnmbmnaa
open Go.RowKit BigFrame
attribute [local go_sem ↓] Go.wp_at_zero Go.wp_at_succ


/-- A row of records, their cells one behind the other. -/
def rowG {α : Type} (f : α → List Value) (l : List α) : List Value := l.flatMap f
theorem rowG_len {α : Type} {f : α → List Value} {s : Nat} (hf : ∀ x, (f x).length = s) (l : List α) : (rowG f l).length = l.length * s := by
  induction l with
  | nil => simp [rowG]
  | cons r l ih => unfold rowG at *; rw [List.flatMap_cons, List.length_append, ih, List.length_cons, hf, Nat.succ_mul]; omega
theorem rowG_append {α : Type} (f : α → List Value) (l m : List α) : rowG f (l ++ m) = rowG f l ++ rowG f m := List.flatMap_append
theorem rowG_get {α : Type} {f : α → List Value} {s : Nat} (hf : ∀ x, (f x).length = s) (l : List α) (i : Nat) (r : α) (h : l[i]? = some r) (j : Nat) (hj : j < s) : (rowG f l)[i * s + j]? = (f r)[j]? := by
  have hi := (List.getElem?_eq_some_iff.1 h).1
  have e : l = l.take i ++ (r :: l.drop (i + 1)) := by
    have h2 := (List.getElem?_eq_some_iff.1 h).2
    rw [← h2]
    exact (List.take_append_drop i l).symm.trans (by rw [List.drop_eq_getElem_cons hi])
  have hm : min i l.length = i := by omega
  rw [e, rowG_append, List.getElem?_append_right (by rw [rowG_len hf, List.length_take, hm]; omega), rowG_len hf, List.length_take, hm]
  have e2 : i * s + j - i * s = j := by omega
  rw [e2]
  show (f r ++ _)[j]? = _
  rw [List.getElem?_append_left (by rw [hf]; omega)]
theorem SliceOf.of_rowG {α : Type} {f : α → List Value} {s : Nat} (hf : ∀ x, (f x).length = s) {W : World} {B n : Nat} {t : TypeId} {v : Value} {l : List α} (z : α) (h : W.ownsRow B t s v n (rowG f l)) (hl : l.length = n) : ∃ a c, v = .slice a n c ∧ SliceOf W a n c s (fun i => f (l.getD i z)) := by
  rcases h.2 with ⟨rfl, rfl⟩ | ⟨g, cap, cur, rfl, hb, hg, hn, hm, hs, hx⟩
  · exact ⟨none, 0, rfl, Nat.le_refl _, Nat.zero_le _, fun h => absurd h (by omega)⟩
  · refine ⟨_, cap, rfl, hn, hm, fun hp => ⟨g, 0, rfl, (h.lt g rfl).2, fun i hi j v hv => ?_⟩⟩
    have hj : j < s := by
      have := (List.getElem?_eq_some_iff.1 hv).1
      rw [hf] at this; exact this
    have hli : l[i]? = some (l.getD i z) := by
      rw [List.getD_eq_getElem?_getD, List.getElem?_eq_getElem (by omega)]; rfl
    have hlt : i * s + j < n * s := by
      have : (i + 1) * s ≤ n * s := Nat.mul_le_mul_right s (by omega)
      rw [Nat.succ_mul] at this
      omega
    rw [← rowG_get hf l i _ hli j hj, ← hx, List.getElem?_take, if_pos hlt] at hv
    rw [Array.getElem?_toList] at hv
    have := cell_of_row W g (0 + i * s + j) cur _ _ hg
    rw [this, Nat.zero_add]
    exact hv
theorem two_newS (w : World) (A B : Array Value) (t u : TypeId) : Blk ((w.alloc (.cells A t)).alloc (.cells B u)) w.heap.size t A ∧ Blk ((w.alloc (.cells A t)).alloc (.cells B u)) (w.heap.size + 1) u B ∧ Below w.heap.size w ((w.alloc (.cells A t)).alloc (.cells B u)) := by
  have k1 := Blk.new w t A
  have B1 : Below w.heap.size w (w.alloc (.cells A t)) := (Below.refl _ w).alloc (Nat.le_refl _) _
  have B2 : Below (w.alloc (.cells A t)).heap.size (w.alloc (.cells A t)) ((w.alloc (.cells A t)).alloc (.cells B u)) := (Below.refl _ _).alloc (Nat.le_refl _) _
  have k2 := Blk.new (w.alloc (.cells A t)) u B
  have hsz : (w.alloc (.cells A t)).heap.size = w.heap.size + 1 := by simp
  rw [hsz] at k2
  exact ⟨k1.below B2 k1.lt, k2, below_then B1 B2 (Nat.le_refl _)⟩
def cellsA (x : AdR) : List Value := [.int .i64 x.p, .bool x.u, .int .i64 x.r]
def cellsL (x : LnR) : List Value := [.int .i64 x.p, .int .i64 x.f, .int .i64 x.l, .int .u32 x.h, .int .u32 x.j, .int .u32 x.b, .int .u32 x.t, .int .u32 x.d]
/-- Parts of s bytes each, at most so many. -/
def decs {α : Type} (s : Nat) (dec : List Int → α) : Nat → List Int → List α
  | 0, _ => []
  | k + 1, l => if s ≤ l.length then dec l :: decs s dec k (l.drop s) else []
theorem decs_none {α : Type} {s : Nat} {dec : List Int → α} {k : Nat} {l : List Int} (h : l.length < s) : decs s dec k l = [] := by
  cases k with
  | zero => rfl
  | succ k => unfold decs; rw [if_neg (by omega)]
theorem decs_len {α : Type} {s : Nat} {dec : List Int → α} : ∀ (k : Nat) (l : List Int), (decs s dec k l).length ≤ k
  | 0, _ => Nat.le_refl _
  | k + 1, l => by
    unfold decs
    split
    · rw [List.length_cons]; have := decs_len (s := s) (dec := dec) k (l.drop s); omega
    · simp
def src4 (l : List Int) : Int := if 4 ≤ l.length then n4 l else 0
theorem src4_bd {l : List Int} (h : Bytes l) : 0 ≤ src4 l ∧ src4 l < 4294967296 := by
  unfold src4
  split
  · exact n4_bd h
  · omega
theorem penB_U32start (g : Nat) (s : ByteArray) (w : World) (h : InAt w g s 0) (hs : s.size ≤ 10000) :
    Calls Try.prog 26 #[.pointer (some ⟨g, 0, none⟩)] w fun e w' => e = .returned (.int .u32 (src4 (bytesI s))) ∧ InB w' g ((bytesI s).drop 4) ∧ OldBut w w' g := by
  have hl := bytesI_len s
  unfold src4
  by_cases h4 : 4 ≤ (bytesI s).length
  · rw [if_pos h4]
    exact penB_U32 g _ w ⟨s, 0, rfl, h⟩ h4 (by omega)
  · rw [if_neg h4]
    refine (pen_InU32Short g s w h (by omega)).mono ?_
    rintro e w' ⟨rfl, I, O⟩
    exact ⟨rfl, ⟨_, _, by rw [List.drop_of_length_le (by omega)]; rfl, I⟩, .of_only O⟩
theorem decL_ok {l : List Int} (h : Bytes l) : (0 ≤ (decL l).h ∧ (decL l).h < 4294967296) ∧ (0 ≤ (decL l).j ∧ (decL l).j < 4294967296) ∧ (0 ≤ (decL l).b ∧ (decL l).b < 4294967296) ∧ (0 ≤ (decL l).t ∧ (decL l).t < 4294967296) ∧ (0 ≤ (decL l).d ∧ (decL l).d < 4294967296) :=
  ⟨n4_bd (h.drop 8), n4_bd (h.drop 12), n4_bd (h.drop 16), n4_bd (h.drop 20), n4_bd (h.drop 24)⟩
theorem decsL_ok : ∀ (k : Nat) (l : List Int), Bytes l → LnOk (decs 28 decL k l)
  | 0, _, _ => fun x h => by cases h
  | k + 1, l, hb => by
    unfold decs
    split
    · intro x hx
      rw [List.mem_cons] at hx
      rcases hx with rfl | hx
      · exact decL_ok hb
      · exact decsL_ok k _ (hb.drop 28) x hx
    · intro x h; cases h
theorem okF_take {α : Type} {may : α → Bool} {path : α → Int} {l : List α} {x : Int} (h : okF may path l = some x) : True := trivial
/-- How many bytes are left. -/
def leftAt (g : Nat) (W : World) : Nat := match W.cell? ⟨g, 0, none⟩ with
  | some (.string s) => s.size
  | _ => 0
theorem leftAt_of {W : World} {g : Nat} {l : List Int} (h : InB W g l) : leftAt g W = l.length := by
  obtain ⟨s, e, rfl, h⟩ := h
  have := h.blk.cell 0
  unfold leftAt
  rw [this, bytesI_len]
  rfl
theorem ba_loop (a : ByteArray) : ∀ (n i : Nat) (r : List UInt8), a.size - i = n → ByteArray.toList.loop a i r = r.reverse ++ a.data.toList.drop i
  | 0, i, r, h => by
    unfold ByteArray.toList.loop
    rw [if_neg (by omega), List.drop_of_length_le (by rw [Array.length_toList]; exact Nat.le_of_sub_eq_zero h), List.append_nil]
  | n + 1, i, r, h => by
    have hi : i < a.size := by omega
    have hi2 : i < a.data.toList.length := by rw [Array.length_toList]; exact hi
    unfold ByteArray.toList.loop
    rw [if_pos hi, ba_loop a n (i + 1) _ (by omega), List.drop_eq_getElem_cons hi2, List.reverse_cons, List.append_assoc]
    congr 2
    simp [ByteArray.get!, hi]
theorem ba_toList (a : ByteArray) : a.toList = a.data.toList := by
  unfold ByteArray.toList
  rw [ba_loop a _ 0 [] rfl]; simp
theorem ba_inj {a b : ByteArray} (h : a.toList = b.toList) : a = b := by
  rw [ba_toList, ba_toList] at h
  exact ByteArray.ext (Array.ext' h)
theorem Bytes.flat {α : Type} {f : α → List Int} (h : ∀ x, Bytes (f x)) (l : List α) : Bytes (l.flatMap f) := fun x hx => by
  obtain ⟨a, _, ha⟩ := List.mem_flatMap.1 hx
  exact h a x ha
theorem beAll_bytes (ns : Nat → Int) (s k : Nat) : Bytes (beAll ns s k) := fun x hx => by
  unfold beAll at hx
  obtain ⟨i, _, h⟩ := List.mem_flatMap.1 hx
  exact beI_bytes _ _ x h
theorem be4All_bytes (ns : Nat → Int) (k : Nat) : Bytes (be4All ns k) := fun x hx => by
  unfold be4All at hx
  obtain ⟨i, _, h⟩ := List.mem_flatMap.1 hx
  exact beI_bytes _ _ x h
theorem bytA_bytes (x : AdR) : Bytes (bytA x) := fun y hy => by
  unfold bytA encA at hy
  simp only [List.flatMap_cons, List.flatMap_nil, id, List.mem_append, List.append_nil] at hy
  rcases hy with h | h <;> exact beAll_bytes _ _ _ y h
theorem bytL_bytes (x : LnR) : Bytes (bytL x) := fun y hy => by
  unfold bytL encL at hy
  simp only [List.flatMap_cons, List.flatMap_nil, id, List.mem_append, List.append_nil] at hy
  rcases hy with h | h | h | h | h
  · exact beAll_bytes _ _ _ y h
  · exact beAll_bytes _ _ _ y h
  · exact beAll_bytes _ _ _ y h
  · exact beAll_bytes _ _ _ y h
  · exact be4All_bytes _ _ y h
theorem pieceA_bytes (src : Int) (ys : List AdR) (l : List Int) (h : pieceA src ys = some l) : Bytes l := by
  unfold pieceA bodyA at h
  split at h
  · injection h with h; rw [← h]; exact (beI_bytes _ _).append (Bytes.flat bytA_bytes _)
  · cases h
theorem pieceL_bytes (src : Int) (ys : List LnR) (l : List Int) (h : pieceL src ys = some l) : Bytes l := by
  unfold pieceL bodyL at h
  split at h
  · cases h
  · split at h
    · injection h with h; rw [← h]; exact (beI_bytes _ _).append (Bytes.flat bytL_bytes _)
    · cases h
/-- A piece is as it was just if its bytes are. -/
theorem pc_same {form : Int} {bo : Option (List Int)} {pf pk : Int} {ps s : ByteArray} {L : List Int} (hv : pcV form bo = .agg #[.int .i64 pf, .int .i64 pk, .string ps]) (hL : bytesI s = L) (hb : Bytes L) (hbo : ∀ l, bo = some l → Bytes l) :
    (pf == form && pk == 211 && (ps.toList == s.toList)) = decide (bo = some L) := by
  cases bo with
  | none =>
    unfold pcV at hv
    simp only [Value.agg.injEq, Array.mk.injEq, List.cons.injEq, Value.int.injEq, Value.string.injEq, true_and, and_true] at hv
    obtain ⟨rfl, rfl, rfl⟩ := hv
    simp
  | some l =>
    unfold pcV at hv
    simp only [Value.agg.injEq, Array.mk.injEq, List.cons.injEq, Value.int.injEq, Value.string.injEq, true_and, and_true] at hv
    obtain ⟨rfl, rfl, rfl⟩ := hv
    have hl := hbo l rfl
    by_cases e : l = L
    · subst e
      have : strOfNums l = s := by rw [← hL, str_bytesI]
      rw [this]
      simp
    · have h1 : ¬ strOfNums l = s := fun h2 => e (by rw [← hL, ← h2, bytesI_str hl])
      have h2 : ¬ (strOfNums l).toList = s.toList := fun h3 => h1 (ba_inj h3)
      simp [e, h2]
theorem pcc_eql (x0 y0 : Int) (x1 y1 : Int) (x2 y2 : ByteArray) (w : World) : (binOp .eql 25 (.agg #[.int .i64 x0, .int .i64 x1, .string x2]) (.agg #[.int .i64 y0, .int .i64 y1, .string y2])).run Try.prog w = .ok (.bool ((x0 == y0) && (x1 == y1) && (x2.toList == y2.toList))) w := by
  have hS : Try.prog.underlying 25 = some (.struct (Try.prog.fieldsOf 25)) := by kernel_rfl
  have hp : Try.prog.stoodInHeld 25 = false := by kernel_rfl
  have u3 := Try.underlying3
  have a3 := Try.isAgg3
  have z3 := Try.sizeOf3
  have u9 := Try.underlying9
  have a9 := Try.isAgg9
  have z9 := Try.sizeOf9
  rw [run_eql_struct, show (10000 : Nat) = 9999 + 1 from rfl, run_equalIn_agg w 9999 25 _ _ hS hp]
  simp only [Program.fieldsOf, Try.underlying25]
  go_simp
  by_cases h0 : x0 = y0
  rotate_left
  · simp [h0]
  subst h0
  by_cases h1 : x1 = y1
  rotate_left
  · simp [h1]
  subst h1
  cases h2 : (x2.toList == y2.toList)
  · (try simp [h2]); try simpa using h2
  (try simp [h2])
  try simpa using h2
theorem pcc_neq (x0 y0 : Int) (x1 y1 : Int) (x2 y2 : ByteArray) (w : World) : (binOp .neq 25 (.agg #[.int .i64 x0, .int .i64 x1, .string x2]) (.agg #[.int .i64 y0, .int .i64 y1, .string y2])).run Try.prog w = .ok (.bool (!((x0 == y0) && (x1 == y1) && (x2.toList == y2.toList)))) w := by
  have hS : Try.prog.underlying 25 = some (.struct (Try.prog.fieldsOf 25)) := by kernel_rfl
  have hp : Try.prog.stoodInHeld 25 = false := by kernel_rfl
  have u3 := Try.underlying3
  have a3 := Try.isAgg3
  have z3 := Try.sizeOf3
  have u9 := Try.underlying9
  have a9 := Try.isAgg9
  have z9 := Try.sizeOf9
  rw [run_neq_struct, show (10000 : Nat) = 9999 + 1 from rfl, run_equalIn_agg w 9999 25 _ _ hS hp]
  simp only [Program.fieldsOf, Try.underlying25]
  go_simp
  by_cases h0 : x0 = y0
  rotate_left
  · simp [h0]
  subst h0
  by_cases h1 : x1 = y1
  rotate_left
  · simp [h1]
  subst h1
  cases h2 : (x2.toList == y2.toList)
  · (try simp [h2]); try simpa using h2
  (try simp [h2])
  try simpa using h2
theorem pcc_guard (op : BinOp) (x y : Operand) (xs ys : Array Value) (w : World) : (eqGuard op 25 x y (.agg xs) (.agg ys)).run Try.prog w = .ok () w := run_eqGuard_agg w op 25 x y xs ys (by kernel_rfl)

end Go.Proofs.Ytolgdcchnmbmnaa
