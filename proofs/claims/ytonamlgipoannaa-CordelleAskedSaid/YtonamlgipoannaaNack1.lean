/- Package nack: a pair's numbers, one by one. No condition. -/
import Derived.Test.YtonamlgipoannaaRange
import Derived.Shelf.Abstract
import Derived.OwnWalkIn
import Derived.TacticsInMore
import Derived.LoopNIn
import Derived.LoopIn
import Derived.Maps.AppendAt
import Derived.Lib.Hide
namespace Go.Proofs.Ytonamlgipoannaa
open Go.RowKit Go.Shelf
attribute [local go_sem] Oper.semAt_some

/-- The numbers of a pair, the first k bits. -/
def numsB (p : Int) (b : Nat) (k : Nat) : List Int := p :: ((List.range k).filter fun i => b.testBit i).map fun i : Nat => (p + 1 + (i : Int)) % 65536
theorem numsB_succ (p : Int) (b k : Nat) : numsB p b (k + 1) = if b.testBit k then numsB p b k ++ [(p + 1 + (k : Int)) % 65536] else numsB p b k := by
  unfold numsB
  rw [List.range_succ, List.filter_append, List.map_append]
  by_cases h : b.testBit k
  · simp [h]
  · simp [h]
theorem numsB_len (p : Int) (b k : Nat) : (numsB p b k).length ≤ k + 1 := by
  unfold numsB
  have := List.length_filter_le (fun i => b.testBit i) (List.range k)
  simp at this ⊢
  omega
theorem u16_and1 (n : Int) : bits .and .u16 n 1 = n % 2 := by
  have hm : (BitVec.ofInt 16 1).toNat = 2 ^ 1 - 1 := by decide
  have key : (BitVec.ofInt 16 n &&& BitVec.ofInt 16 1).toNat = (n % ((2 ^ 16 : Nat) : Int)).toNat % 2 ^ 1 := by
    rw [BitVec.toNat_and, BitVec.toNat_ofInt, hm, Nat.and_two_pow_sub_one_eq_mod]
  show IntKind.u16.wrap ((BitVec.ofInt 16 n &&& BitVec.ofInt 16 1).toNat : Nat) = n % 2
  rw [key]
  simp only [IntKind.wrap, IntKind.signed, IntKind.bits]
  simp
  omega
theorem u16_bit (b k : Nat) (t : Bool) (h : b.testBit k = t) : bits .and .u16 ((b : Int) / 2 ^ k) 1 = if t then 1 else 0 := by
  have e : ((b : Int) / 2 ^ k) = ((b / 2 ^ k : Nat) : Int) := by simp
  rw [u16_and1, e]
  rw [Nat.testBit_eq_decide_div_mod_eq] at h
  cases t
  · simp at h ⊢; omega
  · simp at h ⊢; omega
/-- What a round keeps: pairs. -/
def KeepsPairs (W W' : World) : Prop := ∀ (k : Nat) cs fr, W.heap[k]? = some (.cells cs 129 fr) → W'.heap[k]? = some (.cells cs 129 fr)

set_option maxRecDepth 100000 in
set_option maxHeartbeats 1000000 in
theorem pair_each (p : Int) (b : Nat) (hp : 0 ≤ p ∧ p ≤ 65535) (hb : b < 65536) (n : Nat) (hn : 1 ≤ n) :
    Gives Fence.wide n Try.prog 76 #[.agg #[.int .u16 p, .int .u16 (b : Int)]] #[] (fun x : Int => #[Value.int .u16 x]) KeepsPairs (fun xs => xs = numsB p b 16) 17 := by
  intro l J W hJa hY h0
  refine callsIn_of_wp Try.func76 rfl trivial ?_ rfl
  simp only [Try.ntmps76, List.size_toArray, List.length_cons, List.length_nil, Nat.reduceAdd, Nat.reduceSub, Array.replicate_succ, Array.replicate_zero, List.push_toArray, List.append_toArray, List.nil_append, List.cons_append]
  have K := Blk.new W 129 #[.int .u16 p, .int .u16 (b : Int)]
  have J1 := hJa _ W (.cells #[.int .u16 p, .int .u16 (b : Int)] 129) h0
  have HA := Lib.hid J1
  obtain ⟨fn, tmps, assign, body, hy, hR⟩ := hY [] p _ J1 (by simp)
  dsimp only at hy
  have kc := K.cell
  simp at kc
  gi_wp2
  refine hR.mono ?_
  rintro e W3 ⟨rfl, J3, k3⟩
  have K3 : Blk W3 W.heap.size 129 _ := k3 _ _ _ K
  obtain ⟨g, hg⟩ : ∃ g, W.heap.size = g := ⟨_, rfl⟩
  rw [hg] at K3
  clear J1 HA hy hR kc K k3
  have e0 : [] ++ [p] = numsB p b 0 := rfl
  rw [e0] at J3
  obtain ⟨q, hq⟩ : ∃ q, (p + 1) % 65536 = q := ⟨_, rfl⟩
  have wq : IntKind.u16.wrap (p + 1) = q := by rw [← hq]; simp [IntKind.wrap, IntKind.signed, IntKind.bits]
  gi_wp2
  gi_loopw [10] (fun x wr => ∃ k : Nat, k ≤ 16 ∧ x = .int .u16 k ∧ Blk wr g 129 #[.int .u16 p, .int .u16 (b : Int)] ∧ J (numsB p b k) wr) (fun x _ => 16 - (intOf x).toNat)
  case atStart => exact ⟨0, by omega, rfl, K3, J3⟩
  case round =>
    clear K3 J3
    obtain ⟨k, hk, rfl, K, Jk⟩ := hrel
    have kc := K.cell
    simp at kc
    by_cases hlt : k < 16
    · have i1 : (k : Int) < 16 := by omega
      have hbit := numsB_succ p b k
      have hlen := numsB_len p b k
      have wk : IntKind.u16.wrap ((k : Int) + 1) = ((k + 1 : Nat) : Int) := by simp [IntKind.wrap, IntKind.signed, IntKind.bits]; omega
      obtain ⟨x, hx⟩ : ∃ x, (p + 1 + (k : Int)) % 65536 = x := ⟨_, rfl⟩
      have wx : IntKind.u16.wrap (q + (k : Int)) = x := by rw [← hx, ← hq]; simp [IntKind.wrap, IntKind.signed, IntKind.bits]
      rw [hx] at hbit
      cases hb1 : b.testBit k with
      | true =>
        have han := u16_bit b k true hb1
        rw [hb1, if_pos rfl] at hbit
        rw [if_pos rfl] at han
        clear hx hq hb1
        obtain ⟨fn, tmps, assign, body, hy, hR⟩ := hY _ x wr Jk (by omega)
        gi_wp2
        refine hR.mono ?_
        rintro e W4 ⟨rfl, J4, k4⟩
        have K4 : Blk W4 g 129 _ := k4 _ _ _ K
        gi_wp2
        go_roundw
        case rel => exact ⟨k + 1, by omega, by go_num, K4, by rw [hbit]; exact J4⟩
        case measure => simp only [intOf]; omega
      | false =>
        have han := u16_bit b k false hb1
        rw [hb1, if_neg (by decide)] at hbit
        rw [if_neg (by decide)] at han
        clear hx hq hb1
        gi_wp2
        refine ⟨fun _ h => (by cases h), ?_⟩
        gi_wp2
        go_roundw
        case rel => exact ⟨k + 1, by omega, by go_num, K, by rw [hbit]; exact Jk⟩
        case measure => simp only [intOf]; omega
    · obtain rfl : k = 16 := by omega
      gi_wp2
      go_end0
      exact ⟨⟨_, rfl⟩, _, rfl, Jk⟩
end Go.Proofs.Ytonamlgipoannaa
