/-
  No cell of these rows narrows 'for every input' (looked for: loops, veiled, ifaces, maps, wideKeys, modest, calm, conditions, laid).
  DERIVED. THE GIVEN ROWS OF THIS SEAT. 4 by the template 'for every input the law returns true; each argument reads behind the call as it read before'; 0 by the template 'total and deterministic' (their statements: YtagponhnkodjhaaTotals.lean).
  GIVEN WITH THE SEED: the statements are not yours to turn. If you find one false, say at which input.
  Laid BY PROGRAM, IN A SANDBOX (cutbox-rows.mjs): the forced cells as the released guide's own fill.sh prints them over the translation b42b3015385b61c9… (all of the seat's roots in one cut). By AI agents, Wed Nov 11 2026. No macro, syntax, notation, axiom, sorry.
-/
import Derived.Test.YtagponhnkodjhaaChecked
import GoSem.Claim
import GoSem.ClaimJoined
import GoSem.ClaimMapViews
import Derived.JoinedTies
import Derived.KernelRfl
namespace Go.Proofs.Ytagponhnkodjhaa
/- THE CELL 'sum', in the pinned program and in every row, IS THE sha256 OF THE DUMP (.gsa) THAT YtagponhnkodjhaaProg.lean LOADS. Nothing in Lean hashes anything: it is a label: what it is worth is what the hold of that sum in a sandbox is worth. -/
noncomputable def Try.pinned : Pinned := { name := "ytagponhnkodjhaa", sum := "b42b3015385b61c9cafb01fca942f28cbd477a032104473bcb565f38f69f34a3", checked := Try.checked }
namespace Rows
def none {H : Type} : Left H := { results := [], args := [] }

/-- 'cordellelaw23.SplitParts': WHATEVER THE INPUT: true; the input reads as it did. -/
def splitPartsSpec : ChangeSpec := { name := "splitParts", fn := fun _ => fun
  | [d1, d2] => { results := [.lit (.bool true)], args := [d1, d2] }
  | _ => none }
def splitPartsRow : OpenClaim := { program := "ytagponhnkodjhaa", sum := "b42b3015385b61c9cafb01fca942f28cbd477a032104473bcb565f38f69f34a3", func := "cordelle/cordellelaw23.SplitParts", spec := "splitParts", apart := false }
def SplitPartsSaid : Prop := splitPartsRow.holds Try.pinned (OpenSpec.ofChange splitPartsSpec)

/-- ITS FALSE NEIGHBOUR: 'it returns false'. Refute it at one input. -/
def splitPartsWrong : ChangeSpec := { name := "splitParts", fn := fun _ => fun
  | [d1, d2] => { results := [.lit (.bool false)], args := [d1, d2] }
  | _ => none }
def SplitPartsWrongFalsely : Prop := splitPartsRow.holds Try.pinned (OpenSpec.ofChange splitPartsWrong)

/-- 'cordellelaw23.SplitSizes': WHATEVER THE INPUT: true; the input reads as it did. -/
def splitSizesSpec : ChangeSpec := { name := "splitSizes", fn := fun _ => fun
  | [d1, d2] => { results := [.lit (.bool true)], args := [d1, d2] }
  | _ => none }
def splitSizesRow : OpenClaim := { program := "ytagponhnkodjhaa", sum := "b42b3015385b61c9cafb01fca942f28cbd477a032104473bcb565f38f69f34a3", func := "cordelle/cordellelaw23.SplitSizes", spec := "splitSizes", apart := false }
def SplitSizesSaid : Prop := splitSizesRow.holds Try.pinned (OpenSpec.ofChange splitSizesSpec)

/-- ITS FALSE NEIGHBOUR: 'it returns false'. Refute it at one input. -/
def splitSizesWrong : ChangeSpec := { name := "splitSizes", fn := fun _ => fun
  | [d1, d2] => { results := [.lit (.bool false)], args := [d1, d2] }
  | _ => none }
def SplitSizesWrongFalsely : Prop := splitSizesRow.holds Try.pinned (OpenSpec.ofChange splitSizesWrong)

/-- 'cordellelaw23.SplitBack': WHATEVER THE INPUT: true; the input reads as it did. -/
def splitBackSpec : ChangeSpec := { name := "splitBack", fn := fun _ => fun
  | [d1, d2, d3] => { results := [.lit (.bool true)], args := [d1, d2, d3] }
  | _ => none }
def splitBackRow : OpenClaim := { program := "ytagponhnkodjhaa", sum := "b42b3015385b61c9cafb01fca942f28cbd477a032104473bcb565f38f69f34a3", func := "cordelle/cordellelaw23.SplitBack", spec := "splitBack", inPlace := ["internal/abi.NoEscape"], apart := false }
def SplitBackSaid : Prop := splitBackRow.holds Try.pinned (OpenSpec.ofChange splitBackSpec)

/-- ITS FALSE NEIGHBOUR: 'it returns false'. Refute it at one input. -/
def splitBackWrong : ChangeSpec := { name := "splitBack", fn := fun _ => fun
  | [d1, d2, d3] => { results := [.lit (.bool false)], args := [d1, d2, d3] }
  | _ => none }
def SplitBackWrongFalsely : Prop := splitBackRow.holds Try.pinned (OpenSpec.ofChange splitBackWrong)

/-- 'cordellelaw23.SplitFrames': WHATEVER THE INPUT: true; the input reads as it did. -/
def splitFramesSpec : ChangeSpec := { name := "splitFrames", fn := fun _ => fun
  | [d1, d2, d3] => { results := [.lit (.bool true)], args := [d1, d2, d3] }
  | _ => none }
def splitFramesRow : OpenClaim := { program := "ytagponhnkodjhaa", sum := "b42b3015385b61c9cafb01fca942f28cbd477a032104473bcb565f38f69f34a3", func := "cordelle/cordellelaw23.SplitFrames", spec := "splitFrames", inPlace := ["maps.clone", "internal/abi.NoEscape"], apart := false }
def SplitFramesSaid : Prop := splitFramesRow.holds Try.pinned (OpenSpec.ofChange splitFramesSpec)

/-- ITS FALSE NEIGHBOUR: 'it returns false'. Refute it at one input. -/
def splitFramesWrong : ChangeSpec := { name := "splitFrames", fn := fun _ => fun
  | [d1, d2, d3] => { results := [.lit (.bool false)], args := [d1, d2, d3] }
  | _ => none }
def SplitFramesWrongFalsely : Prop := splitFramesRow.holds Try.pinned (OpenSpec.ofChange splitFramesWrong)

/- THE SECOND FORM. 'bulk': how many values and letters a reading holds, each counted each time it is reached (what is shared counts as often as it is met; a slice's spare places count too). A statement '..UptoSaid' is the law's where the arguments, and the package variables that the reading takes, are together of bulk at most 1048576: NARROWER than '..Said'. Prove '..Said' where nothing that the law and all that it calls make is longer than what came in: it says more and counts as full. Else prove '..UptoSaid'. A law counts once. -/
mutual
def uptoBulk {H : Type} : DataW H → Nat
  | .lit (.string bytes) => bytes.length + 1
  | .lit _ => 1
  | .nil => 1
  | .ptr d => uptoBulk d + 1
  | .slice elems spare => uptoBulkAll elems + uptoBulkAll spare + 1
  | .agg parts => uptoBulkAll parts + 1
  | .iface _ d => uptoBulk d + 1
  | .map entries => uptoBulkEntries entries + 1
  | .held _ => 1
def uptoBulkAll {H : Type} : List (DataW H) → Nat
  | [] => 0
  | d :: r => uptoBulk d + uptoBulkAll r
def uptoBulkEntries {H : Type} : List (Lit × DataW H) → Nat
  | [] => 0
  | x :: r => uptoBulkEntry x + uptoBulkEntries r
def uptoBulkEntry {H : Type} : Lit × DataW H → Nat
  | (.string bytes, d) => bytes.length + uptoBulk d + 1
  | (_, d) => uptoBulk d + 1
 end
def uptoSmall : (H : Type) → List (DataW H) → Bool := fun _ ds => decide (uptoBulkAll ds ≤ 1048576)
def OpenSpec.upto (s : _root_.Go.ChangeSpec) : _root_.Go.OpenSpec := { _root_.Go.OpenSpec.ofChange s with cond := some uptoSmall }

/-- 'cordellelaw23.SplitParts', WHERE WHAT IT READS IS OF BULK AT MOST 1048576: true; the input reads as it did. -/
def splitPartsUptoRow : OpenClaim := { program := "ytagponhnkodjhaa", sum := "b42b3015385b61c9cafb01fca942f28cbd477a032104473bcb565f38f69f34a3", func := "cordelle/cordellelaw23.SplitParts", spec := "splitParts", apart := false, narrowed := true }
def SplitPartsUptoSaid : Prop := splitPartsUptoRow.holds Try.pinned (OpenSpec.upto splitPartsSpec)

/-- 'cordellelaw23.SplitSizes', WHERE WHAT IT READS IS OF BULK AT MOST 1048576: true; the input reads as it did. -/
def splitSizesUptoRow : OpenClaim := { program := "ytagponhnkodjhaa", sum := "b42b3015385b61c9cafb01fca942f28cbd477a032104473bcb565f38f69f34a3", func := "cordelle/cordellelaw23.SplitSizes", spec := "splitSizes", apart := false, narrowed := true }
def SplitSizesUptoSaid : Prop := splitSizesUptoRow.holds Try.pinned (OpenSpec.upto splitSizesSpec)

/-- 'cordellelaw23.SplitBack', WHERE WHAT IT READS IS OF BULK AT MOST 1048576: true; the input reads as it did. -/
def splitBackUptoRow : OpenClaim := { program := "ytagponhnkodjhaa", sum := "b42b3015385b61c9cafb01fca942f28cbd477a032104473bcb565f38f69f34a3", func := "cordelle/cordellelaw23.SplitBack", spec := "splitBack", inPlace := ["internal/abi.NoEscape"], apart := false, narrowed := true }
def SplitBackUptoSaid : Prop := splitBackUptoRow.holds Try.pinned (OpenSpec.upto splitBackSpec)

/-- 'cordellelaw23.SplitFrames', WHERE WHAT IT READS IS OF BULK AT MOST 1048576: true; the input reads as it did. -/
def splitFramesUptoRow : OpenClaim := { program := "ytagponhnkodjhaa", sum := "b42b3015385b61c9cafb01fca942f28cbd477a032104473bcb565f38f69f34a3", func := "cordelle/cordellelaw23.SplitFrames", spec := "splitFrames", inPlace := ["maps.clone", "internal/abi.NoEscape"], apart := false, narrowed := true }
def SplitFramesUptoSaid : Prop := splitFramesUptoRow.holds Try.pinned (OpenSpec.upto splitFramesSpec)

end Rows
end Go.Proofs.Ytagponhnkodjhaa
