/- Package pen: a reader told by its bytes. No condition but that the reader stands. -/
import Derived.Test.YtbibgffgljojgaaDoorPenX
namespace Go.Proofs.YtbibgffgljojgaaDoor
open Go.RowKit BigFrame

/-- A reader at block g, what is left told. -/
def InB (W : World) (g : Nat) (l : List Int) : Prop := ∃ (s : ByteArray) (e : Int), bytesI s = l ∧ InAt W g s e
/-- Of the old blocks only g is changed. -/
structure OldBut (w w' : World) (g : Nat) : Prop where
  below : Below 0 w w'
  keep : ∀ k, k < w.heap.size → k ≠ g → w'.heap[k]? = w.heap[k]?
theorem OldBut.refl (w : World) (g : Nat) : OldBut w w g := ⟨Below.refl _ _, fun _ _ _ => rfl⟩
theorem OldBut.drew (w : World) (g : Nat) : OldBut w w.drew g := ⟨(Below.refl _ _).drew, fun _ _ _ => rfl⟩
theorem OldBut.of_only {w w' : World} {g : Nat} (h : OnlyAt w w' g) : OldBut w w' g := ⟨h.1, fun k _ hk => h.2 k hk⟩
theorem OldBut.of_below {w w' : World} {g : Nat} (h : Below w.heap.size w w') : OldBut w w' g := ⟨h.mono (Nat.zero_le _), fun k hk _ => h.block k hk⟩
theorem OldBut.trans {w w1 w2 : World} {g : Nat} (h : OldBut w w1 g) (h2 : OldBut w1 w2 g) : OldBut w w2 g :=
  ⟨h.below.trans h2.below, fun k hk hg => (h2.keep k (by have := h.below.size; omega) hg).trans (h.keep k hk hg)⟩
theorem OldBut.down {w w' : World} {g B : Nat} (h : OldBut w w' g) (hB : B ≤ w.heap.size) (hg : B ≤ g) : Below B w w' := ⟨h.below.os, h.below.tape, h.below.output, h.below.size, fun k hk => h.keep k (by omega) (by omega)⟩
theorem OldBut.blk {w w' : World} {g : Nat} (h : OldBut w w' g) {x : Nat} {t : TypeId} {cs : Array Value} (K : Blk w x t cs) (hg : x ≠ g) : Blk w' x t cs := (h.keep x K.lt hg).trans K
theorem InB.lt {W : World} {g : Nat} {l : List Int} (h : InB W g l) : g < W.heap.size := by obtain ⟨s, _, _, h⟩ := h; exact h.blk.lt
theorem InB.below {w w' : World} {g : Nat} {l : List Int} (h : InB w g l) (hb : Below w.heap.size w w') : InB w' g l := by obtain ⟨s, x, e, h⟩ := h; exact ⟨s, x, e, h.below hb⟩
theorem InB.at_ {w w' : World} {g : Nat} {l : List Int} (h : InB w g l) (hb : w'.heap[g]? = w.heap[g]?) : InB w' g l := by obtain ⟨s, x, e, h⟩ := h; exact ⟨s, x, e, hb.trans h.blk⟩
theorem InB.ok {W : World} {g : Nat} {l : List Int} (h : InB W g l) : Bytes l := by obtain ⟨s, _, rfl, _⟩ := h; exact bytesI_ok s
def n1 (l : List Int) : Int := l.getD 0 0
def n2 (l : List Int) : Int := 256 * l.getD 0 0 + l.getD 1 0
def n3 (l : List Int) : Int := 65536 * l.getD 0 0 + 256 * l.getD 1 0 + l.getD 2 0
def n4 (l : List Int) : Int := 16777216 * l.getD 0 0 + 65536 * l.getD 1 0 + 256 * l.getD 2 0 + l.getD 3 0
theorem cut1 {l : List Int} (h : 1 ≤ l.length) : ∃ a r, l = a :: r := by
  match l, h with
  | a :: r, _ => exact ⟨a, r, rfl⟩
theorem cut2 {l : List Int} (h : 2 ≤ l.length) : ∃ a b r, l = a :: b :: r := by
  match l, h with
  | a :: b :: r, _ => exact ⟨a, b, r, rfl⟩
theorem cut3 {l : List Int} (h : 3 ≤ l.length) : ∃ a b c r, l = a :: b :: c :: r := by
  match l, h with
  | a :: b :: c :: r, _ => exact ⟨a, b, c, r, rfl⟩
theorem cut4 {l : List Int} (h : 4 ≤ l.length) : ∃ a b c d r, l = a :: b :: c :: d :: r := by
  match l, h with
  | a :: b :: c :: d :: r, _ => exact ⟨a, b, c, d, r, rfl⟩
theorem numS_one {s : ByteArray} {a : Int} {r : List Int} (h : bytesI s = a :: r) : (numS s 1 : Int) = a := by
  unfold bytesI at h
  match hs : s.data.toList, h with
  | x :: t, h =>
    simp only [List.map_cons, List.cons.injEq] at h
    obtain ⟨rfl, _⟩ := h
    simp [numS, hs]
theorem numS_three {s : ByteArray} {a b c : Int} {r : List Int} (h : bytesI s = a :: b :: c :: r) : (numS s 3 : Int) = 65536 * a + 256 * b + c := by
  unfold bytesI at h
  match hs : s.data.toList, h with
  | x :: y :: z :: t, h =>
    simp only [List.map_cons, List.cons.injEq] at h
    obtain ⟨rfl, rfl, rfl, _⟩ := h
    simp [numS, hs]
    omega
theorem penB_U8 (g : Nat) (l : List Int) (w : World) (h : InB w g l) (hn : 1 ≤ l.length) (hs : l.length ≤ 10000) :
    Calls Tryd.prog 28 #[.pointer (some ⟨g, 0, none⟩)] w fun e w' => e = .returned (.int .i64 (n1 l)) ∧ InB w' g (l.drop 1) ∧ OldBut w w' g := by
  obtain ⟨s, x, rfl, h⟩ := h
  have hl := bytesI_len s
  obtain ⟨a, r, hr⟩ := cut1 hn
  refine (pen_InU8 g s x w h (by omega) (by rw [maxLen_eq]; omega)).mono ?_
  rintro e w' ⟨rfl, I, O⟩
  exact ⟨by rw [numS_one hr, hr]; rfl, ⟨_, _, bytesI_drop s 1, I⟩, .of_only O⟩
theorem penB_U16 (g : Nat) (l : List Int) (w : World) (h : InB w g l) (hn : 2 ≤ l.length) (hs : l.length ≤ 10000) :
    Calls Tryd.prog 29 #[.pointer (some ⟨g, 0, none⟩)] w fun e w' => e = .returned (.int .i64 (n2 l)) ∧ InB w' g (l.drop 2) ∧ OldBut w w' g := by
  obtain ⟨s, x, rfl, h⟩ := h
  have hl := bytesI_len s
  obtain ⟨a, b, r, hr⟩ := cut2 hn
  refine (pen_InU16 g s x w h (by omega) (by rw [maxLen_eq]; omega)).mono ?_
  rintro e w' ⟨rfl, I, O⟩
  exact ⟨by rw [numS_two hr, hr]; rfl, ⟨_, _, bytesI_drop s 2, I⟩, .of_only O⟩
theorem penB_U32 (g : Nat) (l : List Int) (w : World) (h : InB w g l) (hn : 4 ≤ l.length) (hs : l.length ≤ 10000) :
    Calls Tryd.prog 30 #[.pointer (some ⟨g, 0, none⟩)] w fun e w' => e = .returned (.int .u32 (n4 l)) ∧ InB w' g (l.drop 4) ∧ OldBut w w' g := by
  obtain ⟨s, x, rfl, h⟩ := h
  have hl := bytesI_len s
  obtain ⟨a, b, c, d, r, hr⟩ := cut4 hn
  refine (pen_InU32 g s x w h (by omega) (by rw [maxLen_eq]; omega)).mono ?_
  rintro e w' ⟨rfl, I, O⟩
  exact ⟨by rw [numS_four hr, hr]; rfl, ⟨_, _, bytesI_drop s 4, I⟩, .of_only O⟩
theorem penB_Left (g : Nat) (l : List Int) (w : World) (h : InB w g l) :
    Calls Tryd.prog 32 #[.pointer (some ⟨g, 0, none⟩)] w fun e w' => e = .returned (.int .i64 (l.length : Int)) ∧ w = w' := by
  obtain ⟨s, x, rfl, h⟩ := h
  refine (pen_Left g s x w h).mono ?_
  rintro e w' ⟨rfl, rfl⟩
  exact ⟨by rw [bytesI_len], rfl⟩
theorem getD_drop (l : List Int) (k i : Nat) : (l.drop k).getD i 0 = l.getD (k + i) 0 := by simp [List.getD, List.getElem?_drop]
theorem Bytes.at_ {l : List Int} (h : Bytes l) (i : Nat) : 0 ≤ l.getD i 0 ∧ l.getD i 0 ≤ 255 := by
  rw [List.getD_eq_getElem?_getD]
  rcases Nat.lt_or_ge i l.length with h1 | h1
  · rw [List.getElem?_eq_getElem h1]; exact h _ (List.getElem_mem h1)
  · rw [List.getElem?_eq_none h1]; simp
theorem Bytes.drop {l : List Int} (h : Bytes l) (k : Nat) : Bytes (l.drop k) := fun x hx => h x (List.drop_subset _ _ hx)
theorem n4_bd {l : List Int} (h : Bytes l) : 0 ≤ n4 l ∧ n4 l < 4294967296 := by
  have a := h.at_ 0; have b := h.at_ 1; have c := h.at_ 2; have d := h.at_ 3
  unfold n4; omega
theorem n3_bd {l : List Int} (h : Bytes l) : 0 ≤ n3 l ∧ n3 l < 16777216 := by
  have a := h.at_ 0; have b := h.at_ 1; have c := h.at_ 2
  unfold n3; omega
theorem n2_bd {l : List Int} (h : Bytes l) : 0 ≤ n2 l ∧ n2 l < 65536 := by
  have a := h.at_ 0; have b := h.at_ 1
  unfold n2; omega
end Go.Proofs.YtbibgffgljojgaaDoor
