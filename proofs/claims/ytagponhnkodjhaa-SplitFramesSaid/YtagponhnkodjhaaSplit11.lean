/- Put of any part, of both: one answer. No condition but that the frames stand. -/
import Derived.Test.YtagponhnkodjhaaSplit9
import Derived.Test.YtagponhnkodjhaaSplit10
namespace Go.Proofs.Ytagponhnkodjhaa
open Go.RowKit Go.Maps Go.Shelf BigFrame

/-- What a part leads to: marks, texts, answer. -/
def PutTo (c : Nat) (h : Nat → Bool) (d : Nat → ByteArray) (i pc : Int) (s : ByteArray) (h' : Nat → Bool) (d' : Nat → ByteArray) (r : Int) : Prop :=
  (∃ k : Nat, i = k ∧ pc = c ∧ k < c ∧ h k = false ∧ h' = updN h k true ∧ d' = updN d k s ∧ r = putRes c h) ∨
  (∃ k : Nat, i = k ∧ pc = c ∧ k < c ∧ h k = true ∧ h' = h ∧ d' = d ∧ r = 3) ∨
  ((pc ≠ c ∨ i < 0 ∨ (c : Int) ≤ i) ∧ h' = h ∧ d' = d ∧ r = 4)
theorem putTo_total (c : Nat) (h : Nat → Bool) (d : Nat → ByteArray) (i pc : Int) (s : ByteArray) : ∃ h' d' r, PutTo c h d i pc s h' d' r := by
  by_cases hb : pc ≠ c ∨ i < 0 ∨ (c : Int) ≤ i
  · exact ⟨h, d, 4, .inr (.inr ⟨hb, rfl, rfl, rfl⟩)⟩
  · have h1 : pc = c := by
      by_cases e : pc = c
      · exact e
      · exact absurd (.inl e) hb
    have h2 : ¬ i < 0 := fun e => hb (.inr (.inl e))
    have h3 : ¬ (c : Int) ≤ i := fun e => hb (.inr (.inr e))
    obtain ⟨k, rfl⟩ : ∃ k : Nat, i = k := ⟨i.toNat, by omega⟩
    cases hk : h k with
    | false => exact ⟨_, _, _, .inl ⟨k, rfl, h1, by omega, hk, rfl, rfl, rfl⟩⟩
    | true => exact ⟨_, _, _, .inr (.inl ⟨k, rfl, h1, by omega, hk, rfl, rfl, rfl⟩)⟩
theorem putTo_cnt {c : Nat} {h : Nat → Bool} {d : Nat → ByteArray} {i pc : Int} {s : ByteArray} {h' : Nat → Bool} {d' : Nat → ByteArray} {r : Int} (hp : PutTo c h d i pc s h' d' r) :
    (r < 3 ∧ cntH c h' = cntH c h + 1) ∨ (3 ≤ r ∧ cntH c h' = cntH c h) := by
  rcases hp with ⟨k, _, _, hk, hh, rfl, _, rfl⟩ | ⟨k, _, _, _, _, rfl, _, rfl⟩ | ⟨_, rfl, _, rfl⟩
  · left
    refine ⟨?_, cntH_upd c k h hk hh⟩
    unfold putRes
    split <;> omega
  · exact .inr ⟨by omega, rfl⟩
  · exact .inr ⟨by omega, rfl⟩
theorem frame_PutAny (g b : Nat) (time first : Int) (c : Nat) (h : Nat → Bool) (d : Nat → ByteArray) (i pc : Int) (hwf : (Lit.int .i64 i).wf = true) (s : ByteArray) (h' : Nat → Bool) (d' : Nat → ByteArray) (r : Int) (hp : PutTo c h d i pc s h' d' r) (w : World) (H : FrameIs w g b time first c h d) (hc : c ≤ 255) (hs : s.size ≤ 100000) :
    Calls Try.prog 12 #[.pointer (some ⟨g, 0, none⟩), .agg #[.int .i64 i, .int .i64 pc], .string s] w fun e w' => e = .returned (.int .i64 r) ∧
      FrameIs w' g b time first c h' d' ∧ (∀ B, B ≤ g → B ≤ b → B ≤ w.heap.size → Below B w w') ∧ (∀ k, k < w.heap.size → k ≠ g → k ≠ b → w'.heap[k]? = w.heap[k]?) := by
  rcases hp with ⟨k, rfl, rfl, hk, hh, rfl, rfl, rfl⟩ | ⟨k, rfl, rfl, hk, hh, rfl, rfl, rfl⟩ | ⟨hb, rfl, rfl, rfl⟩
  · exact frame_Put g b time first c h d k s w H hk hc hh hs
  · refine (frame_PutTwice g b time first c _ _ k s w H hk hc hh).mono ?_
    rintro e w' ⟨he, H', hb⟩
    exact ⟨he, H', fun B h1 h2 h3 => hb.mono h3, fun q hq _ _ => hb.block q hq⟩
  · refine (frame_PutBad g b time first c _ _ i pc hwf s w H hb).mono ?_
    rintro e w' ⟨he, H', hb⟩
    exact ⟨he, H', fun B h1 h2 h3 => hb.mono h3, fun q hq _ _ => hb.block q hq⟩
theorem ref23_PutAny (v : Value) (time first : Int) (c : Nat) (h : Nat → Bool) (d : Nat → ByteArray) (i pc : Int) (s : ByteArray) (h' : Nat → Bool) (d' : Nat → ByteArray) (r : Int) (hp : PutTo c h d i pc s h' d' r) (w : World) (R : RefV w v time first c h d) (hc : c ≤ 255) (hs : s.size ≤ 100000) :
    Calls Try.prog 16 #[v, .int .i64 i, .int .i64 pc, .string s] w fun e w' => ∃ v', e = .returned (.tuple #[v', .int .i64 r]) ∧ RefV w' v' time first c h' d' ∧ Below w.heap.size w w' := by
  rcases hp with ⟨k, rfl, rfl, hk, hh, rfl, rfl, rfl⟩ | ⟨k, rfl, rfl, hk, hh, rfl, rfl, rfl⟩ | ⟨hb, rfl, rfl, rfl⟩
  · exact ref23_PutOk v time first c h d k s w R hk hc hh hs
  · refine (ref23_PutTwice v time first c _ _ k s w R hk hc hh).mono ?_
    rintro e w' ⟨he, hb⟩
    exact ⟨v, he, R.below hb, hb⟩
  · refine (ref23_PutBad v time first c _ _ i pc s w R hb).mono ?_
    rintro e w' ⟨he, hb⟩
    exact ⟨v, he, R.below hb, hb⟩
/-- The document's frame in a block of its own. -/
def RefAt (W : World) (gx : Nat) (time first : Int) (c : Nat) (h : Nat → Bool) (d : Nat → ByteArray) : Prop := ∃ a0 c0 a1 c1, Blk W gx 41 #[.int .i64 time, .int .i64 first, .slice a0 c c0, .slice a1 c c1] ∧ RefV W (.agg #[.int .i64 time, .int .i64 first, .slice a0 c c0, .slice a1 c c1]) time first c h d
theorem RefAt.below {w w' : World} {gx : Nat} {time first : Int} {c : Nat} {h : Nat → Bool} {d : Nat → ByteArray} (H : RefAt w gx time first c h d) (hb : Below w.heap.size w w') : RefAt w' gx time first c h d := by
  obtain ⟨a0, c0, a1, c1, k, R⟩ := H
  exact ⟨a0, c0, a1, c1, k.below hb k.lt, R.below hb⟩
end Go.Proofs.Ytagponhnkodjhaa
