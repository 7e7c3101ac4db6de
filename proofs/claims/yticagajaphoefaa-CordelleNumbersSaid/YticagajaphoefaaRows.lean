/-
  No cell of these rows narrows 'for every input' (looked for: loops, veiled, ifaces, maps, wideKeys, modest, calm, conditions, laid).
  DERIVED. THE GIVEN ROWS OF THIS SEAT. 6 by the template 'for every input the law returns true; each argument reads behind the call as it read before'; 0 by the template 'total and deterministic' (their statements: YticagajaphoefaaTotals.lean).
  GIVEN WITH THE SEED: the statements are not yours to turn. If you find one false, say at which input.
  Laid BY PROGRAM, IN A SANDBOX (cutbox-rows.mjs): the forced cells as the released guide's own fill.sh prints them over the translation e95e8a5eed33f98c… (all of the seat's roots in one cut). By AI agents, Wed Nov 11 2026. No macro, syntax, notation, axiom, sorry.
-/
import Derived.Test.YticagajaphoefaaChecked
import GoSem.Claim
import GoSem.ClaimJoined
import GoSem.ClaimMapViews
import Derived.JoinedTies
import Derived.KernelRfl
namespace Go.Proofs.Yticagajaphoefaa
/- THE CELL 'sum', in the pinned program and in every row, IS THE sha256 OF THE DUMP (.gsa) THAT YticagajaphoefaaProg.lean LOADS. Nothing in Lean hashes anything: it is a label: what it is worth is what the hold of that sum in a sandbox is worth. -/
noncomputable def Try.pinned : Pinned := { name := "yticagajaphoefaa", sum := "e95e8a5eed33f98caf915791119b857dd745380ca7eeab603b7fa3e4f42b27f0", checked := Try.checked }
namespace Rows
def none {H : Type} : Left H := { results := [], args := [] }

/-- 'cordellelaw01.SerialDiffs': WHATEVER THE INPUT: true; the input reads as it did. -/
def serialDiffsSpec : ChangeSpec := { name := "serialDiffs", fn := fun _ => fun
  | [d1, d2] => { results := [.lit (.bool true)], args := [d1, d2] }
  | _ => none }
def serialDiffsRow : OpenClaim := { program := "yticagajaphoefaa", sum := "e95e8a5eed33f98caf915791119b857dd745380ca7eeab603b7fa3e4f42b27f0", func := "cordelle/cordellelaw01.SerialDiffs", spec := "serialDiffs", apart := false }
def SerialDiffsSaid : Prop := serialDiffsRow.holds Try.pinned (OpenSpec.ofChange serialDiffsSpec)

/-- ITS FALSE NEIGHBOUR: 'it returns false'. Refute it at one input. -/
def serialDiffsWrong : ChangeSpec := { name := "serialDiffs", fn := fun _ => fun
  | [d1, d2] => { results := [.lit (.bool false)], args := [d1, d2] }
  | _ => none }
def SerialDiffsWrongFalsely : Prop := serialDiffsRow.holds Try.pinned (OpenSpec.ofChange serialDiffsWrong)

/-- 'cordellelaw01.SerialExtends': WHATEVER THE INPUT: true; the input reads as it did. -/
def serialExtendsSpec : ChangeSpec := { name := "serialExtends", fn := fun _ => fun
  | [d1, d2] => { results := [.lit (.bool true)], args := [d1, d2] }
  | _ => none }
def serialExtendsRow : OpenClaim := { program := "yticagajaphoefaa", sum := "e95e8a5eed33f98caf915791119b857dd745380ca7eeab603b7fa3e4f42b27f0", func := "cordelle/cordellelaw01.SerialExtends", spec := "serialExtends", apart := false }
def SerialExtendsSaid : Prop := serialExtendsRow.holds Try.pinned (OpenSpec.ofChange serialExtendsSpec)

/-- ITS FALSE NEIGHBOUR: 'it returns false'. Refute it at one input. -/
def serialExtendsWrong : ChangeSpec := { name := "serialExtends", fn := fun _ => fun
  | [d1, d2] => { results := [.lit (.bool false)], args := [d1, d2] }
  | _ => none }
def SerialExtendsWrongFalsely : Prop := serialExtendsRow.holds Try.pinned (OpenSpec.ofChange serialExtendsWrong)

/-- 'cordellelaw01.SerialAdds': WHATEVER THE INPUT: true; the input reads as it did. -/
def serialAddsSpec : ChangeSpec := { name := "serialAdds", fn := fun _ => fun
  | [d1, d2, d3] => { results := [.lit (.bool true)], args := [d1, d2, d3] }
  | _ => none }
def serialAddsRow : OpenClaim := { program := "yticagajaphoefaa", sum := "e95e8a5eed33f98caf915791119b857dd745380ca7eeab603b7fa3e4f42b27f0", func := "cordelle/cordellelaw01.SerialAdds", spec := "serialAdds", apart := false }
def SerialAddsSaid : Prop := serialAddsRow.holds Try.pinned (OpenSpec.ofChange serialAddsSpec)

/-- ITS FALSE NEIGHBOUR: 'it returns false'. Refute it at one input. -/
def serialAddsWrong : ChangeSpec := { name := "serialAdds", fn := fun _ => fun
  | [d1, d2, d3] => { results := [.lit (.bool false)], args := [d1, d2, d3] }
  | _ => none }
def SerialAddsWrongFalsely : Prop := serialAddsRow.holds Try.pinned (OpenSpec.ofChange serialAddsWrong)

/-- 'cordellelaw01.SerialSpans': WHATEVER THE INPUT: true; the input reads as it did. -/
def serialSpansSpec : ChangeSpec := { name := "serialSpans", fn := fun _ => fun
  | [d1, d2] => { results := [.lit (.bool true)], args := [d1, d2] }
  | _ => none }
def serialSpansRow : OpenClaim := { program := "yticagajaphoefaa", sum := "e95e8a5eed33f98caf915791119b857dd745380ca7eeab603b7fa3e4f42b27f0", func := "cordelle/cordellelaw01.SerialSpans", spec := "serialSpans", apart := false }
def SerialSpansSaid : Prop := serialSpansRow.holds Try.pinned (OpenSpec.ofChange serialSpansSpec)

/-- ITS FALSE NEIGHBOUR: 'it returns false'. Refute it at one input. -/
def serialSpansWrong : ChangeSpec := { name := "serialSpans", fn := fun _ => fun
  | [d1, d2] => { results := [.lit (.bool false)], args := [d1, d2] }
  | _ => none }
def SerialSpansWrongFalsely : Prop := serialSpansRow.holds Try.pinned (OpenSpec.ofChange serialSpansWrong)

/-- 'cordellelaw01.SerialLatest': WHATEVER THE INPUT: true; the input reads as it did. -/
def serialLatestSpec : ChangeSpec := { name := "serialLatest", fn := fun _ => fun
  | [d1, d2] => { results := [.lit (.bool true)], args := [d1, d2] }
  | _ => none }
def serialLatestRow : OpenClaim := { program := "yticagajaphoefaa", sum := "e95e8a5eed33f98caf915791119b857dd745380ca7eeab603b7fa3e4f42b27f0", func := "cordelle/cordellelaw01.SerialLatest", spec := "serialLatest", apart := false }
def SerialLatestSaid : Prop := serialLatestRow.holds Try.pinned (OpenSpec.ofChange serialLatestSpec)

/-- ITS FALSE NEIGHBOUR: 'it returns false'. Refute it at one input. -/
def serialLatestWrong : ChangeSpec := { name := "serialLatest", fn := fun _ => fun
  | [d1, d2] => { results := [.lit (.bool false)], args := [d1, d2] }
  | _ => none }
def SerialLatestWrongFalsely : Prop := serialLatestRow.holds Try.pinned (OpenSpec.ofChange serialLatestWrong)

/-- 'cordelletop.CordelleNumbers': WHATEVER THE INPUT: true; the input reads as it did. -/
def cordelleNumbersSpec : ChangeSpec := { name := "cordelleNumbers", fn := fun _ => fun
  | [d1, d2] => { results := [.lit (.bool true)], args := [d1, d2] }
  | _ => none }
def cordelleNumbersRow : OpenClaim := { program := "yticagajaphoefaa", sum := "e95e8a5eed33f98caf915791119b857dd745380ca7eeab603b7fa3e4f42b27f0", func := "cordelle/cordelletop.CordelleNumbers", spec := "cordelleNumbers", apart := false }
def CordelleNumbersSaid : Prop := cordelleNumbersRow.holds Try.pinned (OpenSpec.ofChange cordelleNumbersSpec)

/-- ITS FALSE NEIGHBOUR: 'it returns false'. Refute it at one input. -/
def cordelleNumbersWrong : ChangeSpec := { name := "cordelleNumbers", fn := fun _ => fun
  | [d1, d2] => { results := [.lit (.bool false)], args := [d1, d2] }
  | _ => none }
def CordelleNumbersWrongFalsely : Prop := cordelleNumbersRow.holds Try.pinned (OpenSpec.ofChange cordelleNumbersWrong)

/- THE SECOND FORM. 'bulk': how many values and letters a reading holds, each counted each time it is reached (what is shared counts as often as it is met; a slice's spare places count too). A statement '..UptoSaid' is the law's where the arguments, and the package variables that the reading takes, are together of bulk at most 1048576: NARROWER than '..Said'. Prove '..Said' where nothing that the law and all that it calls make is longer than what came in: it says more and counts as full. Else prove '..UptoSaid'. A law counts once. -/
mutual
def uptoBulk {H : Type} : DataW H → Nat
  | .lit (.string bytes) => bytes.length + 1
  | .lit _ => 1
  | .nil => 1
  | .ptr d => uptoBulk d + 1
  | .slice elems spare => uptoBulkAll elems + uptoBulkAll spare + 1
  | .agg parts => uptoBulkAll parts + 1
  | .iface _ d => uptoBulk d + 1
  | .map entries => uptoBulkEntries entries + 1
  | .held _ => 1
def uptoBulkAll {H : Type} : List (DataW H) → Nat
  | [] => 0
  | d :: r => uptoBulk d + uptoBulkAll r
def uptoBulkEntries {H : Type} : List (Lit × DataW H) → Nat
  | [] => 0
  | x :: r => uptoBulkEntry x + uptoBulkEntries r
def uptoBulkEntry {H : Type} : Lit × DataW H → Nat
  | (.string bytes, d) => bytes.length + uptoBulk d + 1
  | (_, d) => uptoBulk d + 1
 end
def uptoSmall : (H : Type) → List (DataW H) → Bool := fun _ ds => decide (uptoBulkAll ds ≤ 1048576)
def OpenSpec.upto (s : _root_.Go.ChangeSpec) : _root_.Go.OpenSpec := { _root_.Go.OpenSpec.ofChange s with cond := some uptoSmall }

/-- 'cordellelaw01.SerialDiffs', WHERE WHAT IT READS IS OF BULK AT MOST 1048576: true; the input reads as it did. -/
def serialDiffsUptoRow : OpenClaim := { program := "yticagajaphoefaa", sum := "e95e8a5eed33f98caf915791119b857dd745380ca7eeab603b7fa3e4f42b27f0", func := "cordelle/cordellelaw01.SerialDiffs", spec := "serialDiffs", apart := false, narrowed := true }
def SerialDiffsUptoSaid : Prop := serialDiffsUptoRow.holds Try.pinned (OpenSpec.upto serialDiffsSpec)

/-- 'cordellelaw01.SerialExtends', WHERE WHAT IT READS IS OF BULK AT MOST 1048576: true; the input reads as it did. -/
def serialExtendsUptoRow : OpenClaim := { program := "yticagajaphoefaa", sum := "e95e8a5eed33f98caf915791119b857dd745380ca7eeab603b7fa3e4f42b27f0", func := "cordelle/cordellelaw01.SerialExtends", spec := "serialExtends", apart := false, narrowed := true }
def SerialExtendsUptoSaid : Prop := serialExtendsUptoRow.holds Try.pinned (OpenSpec.upto serialExtendsSpec)

/-- 'cordellelaw01.SerialAdds', WHERE WHAT IT READS IS OF BULK AT MOST 1048576: true; the input reads as it did. -/
def serialAddsUptoRow : OpenClaim := { program := "yticagajaphoefaa", sum := "e95e8a5eed33f98caf915791119b857dd745380ca7eeab603b7fa3e4f42b27f0", func := "cordelle/cordellelaw01.SerialAdds", spec := "serialAdds", apart := false, narrowed := true }
def SerialAddsUptoSaid : Prop := serialAddsUptoRow.holds Try.pinned (OpenSpec.upto serialAddsSpec)

/-- 'cordellelaw01.SerialSpans', WHERE WHAT IT READS IS OF BULK AT MOST 1048576: true; the input reads as it did. -/
def serialSpansUptoRow : OpenClaim := { program := "yticagajaphoefaa", sum := "e95e8a5eed33f98caf915791119b857dd745380ca7eeab603b7fa3e4f42b27f0", func := "cordelle/cordellelaw01.SerialSpans", spec := "serialSpans", apart := false, narrowed := true }
def SerialSpansUptoSaid : Prop := serialSpansUptoRow.holds Try.pinned (OpenSpec.upto serialSpansSpec)

/-- 'cordellelaw01.SerialLatest', WHERE WHAT IT READS IS OF BULK AT MOST 1048576: true; the input reads as it did. -/
def serialLatestUptoRow : OpenClaim := { program := "yticagajaphoefaa", sum := "e95e8a5eed33f98caf915791119b857dd745380ca7eeab603b7fa3e4f42b27f0", func := "cordelle/cordellelaw01.SerialLatest", spec := "serialLatest", apart := false, narrowed := true }
def SerialLatestUptoSaid : Prop := serialLatestUptoRow.holds Try.pinned (OpenSpec.upto serialLatestSpec)

/-- 'cordelletop.CordelleNumbers', WHERE WHAT IT READS IS OF BULK AT MOST 1048576: true; the input reads as it did. -/
def cordelleNumbersUptoRow : OpenClaim := { program := "yticagajaphoefaa", sum := "e95e8a5eed33f98caf915791119b857dd745380ca7eeab603b7fa3e4f42b27f0", func := "cordelle/cordelletop.CordelleNumbers", spec := "cordelleNumbers", apart := false, narrowed := true }
def CordelleNumbersUptoSaid : Prop := cordelleNumbersUptoRow.holds Try.pinned (OpenSpec.upto cordelleNumbersSpec)

end Rows
end Go.Proofs.Yticagajaphoefaa
