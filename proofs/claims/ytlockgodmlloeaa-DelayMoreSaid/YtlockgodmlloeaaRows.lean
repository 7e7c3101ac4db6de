/-
  No cell of these rows narrows 'for every input' (looked for: loops, veiled, ifaces, maps, wideKeys, modest, calm, conditions, laid).
  DERIVED. THE GIVEN ROWS OF THIS SEAT. 4 by the template 'for every input the law returns true; each argument reads behind the call as it read before'; 0 by the template 'total and deterministic' (their statements: YtlockgodmlloeaaTotals.lean).
  GIVEN WITH THE SEED: the statements are not yours to turn. If you find one false, say at which input.
  Laid BY PROGRAM, IN A SANDBOX (cutbox-rows.mjs): the forced cells as the released guide's own fill.sh prints them over the translation bf232ded3c2fc391… (all of the seat's roots in one cut). By AI agents, Wed Nov 11 2026. No macro, syntax, notation, axiom, sorry.
-/
import Derived.Test.YtlockgodmlloeaaChecked
import GoSem.Claim
import GoSem.ClaimJoined
import GoSem.ClaimMapViews
import Derived.JoinedTies
import Derived.KernelRfl
namespace Go.Proofs.Ytlockgodmlloeaa
/- THE CELL 'sum', in the pinned program and in every row, IS THE sha256 OF THE DUMP (.gsa) THAT YtlockgodmlloeaaProg.lean LOADS. Nothing in Lean hashes anything: it is a label: what it is worth is what the hold of that sum in a sandbox is worth. -/
noncomputable def Try.pinned : Pinned := { name := "ytlockgodmlloeaa", sum := "bf232ded3c2fc391c9ff9073d5028c9d01503ded7dfcc2dee33a5e06533efd09", checked := Try.checked }
namespace Rows
def none {H : Type} : Left H := { results := [], args := [] }

/-- 'cordellelaw25.DelayDue': WHATEVER THE INPUT: true; the input reads as it did. -/
def delayDueSpec : ChangeSpec := { name := "delayDue", fn := fun _ => fun
  | [d1, d2, d3] => { results := [.lit (.bool true)], args := [d1, d2, d3] }
  | _ => none }
def delayDueRow : OpenClaim := { program := "ytlockgodmlloeaa", sum := "bf232ded3c2fc391c9ff9073d5028c9d01503ded7dfcc2dee33a5e06533efd09", func := "cordelle/cordellelaw25.DelayDue", spec := "delayDue", apart := false }
def DelayDueSaid : Prop := delayDueRow.holds Try.pinned (OpenSpec.ofChange delayDueSpec)

/-- ITS FALSE NEIGHBOUR: 'it returns false'. Refute it at one input. -/
def delayDueWrong : ChangeSpec := { name := "delayDue", fn := fun _ => fun
  | [d1, d2, d3] => { results := [.lit (.bool false)], args := [d1, d2, d3] }
  | _ => none }
def DelayDueWrongFalsely : Prop := delayDueRow.holds Try.pinned (OpenSpec.ofChange delayDueWrong)

/-- 'cordellelaw25.DelayMore': WHATEVER THE INPUT: true; the input reads as it did. -/
def delayMoreSpec : ChangeSpec := { name := "delayMore", fn := fun _ => fun
  | [d1, d2, d3] => { results := [.lit (.bool true)], args := [d1, d2, d3] }
  | _ => none }
def delayMoreRow : OpenClaim := { program := "ytlockgodmlloeaa", sum := "bf232ded3c2fc391c9ff9073d5028c9d01503ded7dfcc2dee33a5e06533efd09", func := "cordelle/cordellelaw25.DelayMore", spec := "delayMore", apart := false }
def DelayMoreSaid : Prop := delayMoreRow.holds Try.pinned (OpenSpec.ofChange delayMoreSpec)

/-- ITS FALSE NEIGHBOUR: 'it returns false'. Refute it at one input. -/
def delayMoreWrong : ChangeSpec := { name := "delayMore", fn := fun _ => fun
  | [d1, d2, d3] => { results := [.lit (.bool false)], args := [d1, d2, d3] }
  | _ => none }
def DelayMoreWrongFalsely : Prop := delayMoreRow.holds Try.pinned (OpenSpec.ofChange delayMoreWrong)

/-- 'cordellelaw25.DelayFalls': WHATEVER THE INPUT: true; the input reads as it did. -/
def delayFallsSpec : ChangeSpec := { name := "delayFalls", fn := fun _ => fun
  | [d1, d2, d3] => { results := [.lit (.bool true)], args := [d1, d2, d3] }
  | _ => none }
def delayFallsRow : OpenClaim := { program := "ytlockgodmlloeaa", sum := "bf232ded3c2fc391c9ff9073d5028c9d01503ded7dfcc2dee33a5e06533efd09", func := "cordelle/cordellelaw25.DelayFalls", spec := "delayFalls", apart := false }
def DelayFallsSaid : Prop := delayFallsRow.holds Try.pinned (OpenSpec.ofChange delayFallsSpec)

/-- ITS FALSE NEIGHBOUR: 'it returns false'. Refute it at one input. -/
def delayFallsWrong : ChangeSpec := { name := "delayFalls", fn := fun _ => fun
  | [d1, d2, d3] => { results := [.lit (.bool false)], args := [d1, d2, d3] }
  | _ => none }
def DelayFallsWrongFalsely : Prop := delayFallsRow.holds Try.pinned (OpenSpec.ofChange delayFallsWrong)

/-- 'cordellelaw25.DelayPlays': WHATEVER THE INPUT: true; the input reads as it did. -/
def delayPlaysSpec : ChangeSpec := { name := "delayPlays", fn := fun _ => fun
  | [d1, d2, d3] => { results := [.lit (.bool true)], args := [d1, d2, d3] }
  | _ => none }
def delayPlaysRow : OpenClaim := { program := "ytlockgodmlloeaa", sum := "bf232ded3c2fc391c9ff9073d5028c9d01503ded7dfcc2dee33a5e06533efd09", func := "cordelle/cordellelaw25.DelayPlays", spec := "delayPlays", apart := false }
def DelayPlaysSaid : Prop := delayPlaysRow.holds Try.pinned (OpenSpec.ofChange delayPlaysSpec)

/-- ITS FALSE NEIGHBOUR: 'it returns false'. Refute it at one input. -/
def delayPlaysWrong : ChangeSpec := { name := "delayPlays", fn := fun _ => fun
  | [d1, d2, d3] => { results := [.lit (.bool false)], args := [d1, d2, d3] }
  | _ => none }
def DelayPlaysWrongFalsely : Prop := delayPlaysRow.holds Try.pinned (OpenSpec.ofChange delayPlaysWrong)

/- THE SECOND FORM. 'bulk': how many values and letters a reading holds, each counted each time it is reached (what is shared counts as often as it is met; a slice's spare places count too). A statement '..UptoSaid' is the law's where the arguments, and the package variables that the reading takes, are together of bulk at most 1048576: NARROWER than '..Said'. Prove '..Said' where nothing that the law and all that it calls make is longer than what came in: it says more and counts as full. Else prove '..UptoSaid'. A law counts once. -/
mutual
def uptoBulk {H : Type} : DataW H → Nat
  | .lit (.string bytes) => bytes.length + 1
  | .lit _ => 1
  | .nil => 1
  | .ptr d => uptoBulk d + 1
  | .slice elems spare => uptoBulkAll elems + uptoBulkAll spare + 1
  | .agg parts => uptoBulkAll parts + 1
  | .iface _ d => uptoBulk d + 1
  | .map entries => uptoBulkEntries entries + 1
  | .held _ => 1
def uptoBulkAll {H : Type} : List (DataW H) → Nat
  | [] => 0
  | d :: r => uptoBulk d + uptoBulkAll r
def uptoBulkEntries {H : Type} : List (Lit × DataW H) → Nat
  | [] => 0
  | x :: r => uptoBulkEntry x + uptoBulkEntries r
def uptoBulkEntry {H : Type} : Lit × DataW H → Nat
  | (.string bytes, d) => bytes.length + uptoBulk d + 1
  | (_, d) => uptoBulk d + 1
 end
def uptoSmall : (H : Type) → List (DataW H) → Bool := fun _ ds => decide (uptoBulkAll ds ≤ 1048576)
def OpenSpec.upto (s : _root_.Go.ChangeSpec) : _root_.Go.OpenSpec := { _root_.Go.OpenSpec.ofChange s with cond := some uptoSmall }

/-- 'cordellelaw25.DelayDue', WHERE WHAT IT READS IS OF BULK AT MOST 1048576: true; the input reads as it did. -/
def delayDueUptoRow : OpenClaim := { program := "ytlockgodmlloeaa", sum := "bf232ded3c2fc391c9ff9073d5028c9d01503ded7dfcc2dee33a5e06533efd09", func := "cordelle/cordellelaw25.DelayDue", spec := "delayDue", apart := false, narrowed := true }
def DelayDueUptoSaid : Prop := delayDueUptoRow.holds Try.pinned (OpenSpec.upto delayDueSpec)

/-- 'cordellelaw25.DelayMore', WHERE WHAT IT READS IS OF BULK AT MOST 1048576: true; the input reads as it did. -/
def delayMoreUptoRow : OpenClaim := { program := "ytlockgodmlloeaa", sum := "bf232ded3c2fc391c9ff9073d5028c9d01503ded7dfcc2dee33a5e06533efd09", func := "cordelle/cordellelaw25.DelayMore", spec := "delayMore", apart := false, narrowed := true }
def DelayMoreUptoSaid : Prop := delayMoreUptoRow.holds Try.pinned (OpenSpec.upto delayMoreSpec)

/-- 'cordellelaw25.DelayFalls', WHERE WHAT IT READS IS OF BULK AT MOST 1048576: true; the input reads as it did. -/
def delayFallsUptoRow : OpenClaim := { program := "ytlockgodmlloeaa", sum := "bf232ded3c2fc391c9ff9073d5028c9d01503ded7dfcc2dee33a5e06533efd09", func := "cordelle/cordellelaw25.DelayFalls", spec := "delayFalls", apart := false, narrowed := true }
def DelayFallsUptoSaid : Prop := delayFallsUptoRow.holds Try.pinned (OpenSpec.upto delayFallsSpec)

/-- 'cordellelaw25.DelayPlays', WHERE WHAT IT READS IS OF BULK AT MOST 1048576: true; the input reads as it did. -/
def delayPlaysUptoRow : OpenClaim := { program := "ytlockgodmlloeaa", sum := "bf232ded3c2fc391c9ff9073d5028c9d01503ded7dfcc2dee33a5e06533efd09", func := "cordelle/cordellelaw25.DelayPlays", spec := "delayPlays", apart := false, narrowed := true }
def DelayPlaysUptoSaid : Prop := delayPlaysUptoRow.holds Try.pinned (OpenSpec.upto delayPlaysSpec)

end Rows
end Go.Proofs.Ytlockgodmlloeaa
