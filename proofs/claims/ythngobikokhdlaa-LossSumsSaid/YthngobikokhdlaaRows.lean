/-
  No cell of these rows narrows 'for every input' (looked for: loops, veiled, ifaces, maps, wideKeys, modest, calm, conditions, laid).
  DERIVED. THE GIVEN ROWS OF THIS SEAT. 6 by the template 'for every input the law returns true; each argument reads behind the call as it read before'; 0 by the template 'total and deterministic' (their statements: YthngobikokhdlaaTotals.lean).
  GIVEN WITH THE SEED: the statements are not yours to turn. If you find one false, say at which input.
  Laid BY PROGRAM, IN A SANDBOX (cutbox-rows.mjs): the forced cells as the released guide's own fill.sh prints them over the translation 6fac3b52fc6ae15a… (all of the seat's roots in one cut). By AI agents, Wed Nov 11 2026. No macro, syntax, notation, axiom, sorry.
-/
import Derived.Test.YthngobikokhdlaaChecked
import GoSem.Claim
import GoSem.ClaimJoined
import GoSem.ClaimMapViews
import Derived.JoinedTies
import Derived.KernelRfl
namespace Go.Proofs.Ythngobikokhdlaa
/- THE CELL 'sum', in the pinned program and in every row, IS THE sha256 OF THE DUMP (.gsa) THAT YthngobikokhdlaaProg.lean LOADS. Nothing in Lean hashes anything: it is a label: what it is worth is what the hold of that sum in a sandbox is worth. -/
noncomputable def Try.pinned : Pinned := { name := "ythngobikokhdlaa", sum := "6fac3b52fc6ae15a109c6ff7f5553c947db6d256bc88a0b8339abe59274f66ca", checked := Try.checked }
namespace Rows
def none {H : Type} : Left H := { results := [], args := [] }

/-- 'cordellelaw14.LossFractions': WHATEVER THE INPUT: true; the input reads as it did. -/
def lossFractionsSpec : ChangeSpec := { name := "lossFractions", fn := fun _ => fun
  | [d1, d2, d3] => { results := [.lit (.bool true)], args := [d1, d2, d3] }
  | _ => none }
def lossFractionsRow : OpenClaim := { program := "ythngobikokhdlaa", sum := "6fac3b52fc6ae15a109c6ff7f5553c947db6d256bc88a0b8339abe59274f66ca", func := "cordelle/cordellelaw14.LossFractions", spec := "lossFractions", apart := false }
def LossFractionsSaid : Prop := lossFractionsRow.holds Try.pinned (OpenSpec.ofChange lossFractionsSpec)

/-- ITS FALSE NEIGHBOUR: 'it returns false'. Refute it at one input. -/
def lossFractionsWrong : ChangeSpec := { name := "lossFractions", fn := fun _ => fun
  | [d1, d2, d3] => { results := [.lit (.bool false)], args := [d1, d2, d3] }
  | _ => none }
def LossFractionsWrongFalsely : Prop := lossFractionsRow.holds Try.pinned (OpenSpec.ofChange lossFractionsWrong)

/-- 'cordellelaw14.LossNone': WHATEVER THE INPUT: true; the input reads as it did. -/
def lossNoneSpec : ChangeSpec := { name := "lossNone", fn := fun _ => fun
  | [d1, d2] => { results := [.lit (.bool true)], args := [d1, d2] }
  | _ => none }
def lossNoneRow : OpenClaim := { program := "ythngobikokhdlaa", sum := "6fac3b52fc6ae15a109c6ff7f5553c947db6d256bc88a0b8339abe59274f66ca", func := "cordelle/cordellelaw14.LossNone", spec := "lossNone", apart := false }
def LossNoneSaid : Prop := lossNoneRow.holds Try.pinned (OpenSpec.ofChange lossNoneSpec)

/-- ITS FALSE NEIGHBOUR: 'it returns false'. Refute it at one input. -/
def lossNoneWrong : ChangeSpec := { name := "lossNone", fn := fun _ => fun
  | [d1, d2] => { results := [.lit (.bool false)], args := [d1, d2] }
  | _ => none }
def LossNoneWrongFalsely : Prop := lossNoneRow.holds Try.pinned (OpenSpec.ofChange lossNoneWrong)

/-- 'cordellelaw14.LossSums': WHATEVER THE INPUT: true; the input reads as it did. -/
def lossSumsSpec : ChangeSpec := { name := "lossSums", fn := fun _ => fun
  | [d1, d2, d3] => { results := [.lit (.bool true)], args := [d1, d2, d3] }
  | _ => none }
def lossSumsRow : OpenClaim := { program := "ythngobikokhdlaa", sum := "6fac3b52fc6ae15a109c6ff7f5553c947db6d256bc88a0b8339abe59274f66ca", func := "cordelle/cordellelaw14.LossSums", spec := "lossSums", apart := false }
def LossSumsSaid : Prop := lossSumsRow.holds Try.pinned (OpenSpec.ofChange lossSumsSpec)

/-- ITS FALSE NEIGHBOUR: 'it returns false'. Refute it at one input. -/
def lossSumsWrong : ChangeSpec := { name := "lossSums", fn := fun _ => fun
  | [d1, d2, d3] => { results := [.lit (.bool false)], args := [d1, d2, d3] }
  | _ => none }
def LossSumsWrongFalsely : Prop := lossSumsRow.holds Try.pinned (OpenSpec.ofChange lossSumsWrong)

/-- 'cordellelaw13.SourceTwice': WHATEVER THE INPUT: true; the input reads as it did. -/
def sourceTwiceSpec : ChangeSpec := { name := "sourceTwice", fn := fun _ => fun
  | [d1, d2] => { results := [.lit (.bool true)], args := [d1, d2] }
  | _ => none }
def sourceTwiceRow : OpenClaim := { program := "ythngobikokhdlaa", sum := "6fac3b52fc6ae15a109c6ff7f5553c947db6d256bc88a0b8339abe59274f66ca", func := "cordelle/cordellelaw13.SourceTwice", spec := "sourceTwice", apart := false }
def SourceTwiceSaid : Prop := sourceTwiceRow.holds Try.pinned (OpenSpec.ofChange sourceTwiceSpec)

/-- ITS FALSE NEIGHBOUR: 'it returns false'. Refute it at one input. -/
def sourceTwiceWrong : ChangeSpec := { name := "sourceTwice", fn := fun _ => fun
  | [d1, d2] => { results := [.lit (.bool false)], args := [d1, d2] }
  | _ => none }
def SourceTwiceWrongFalsely : Prop := sourceTwiceRow.holds Try.pinned (OpenSpec.ofChange sourceTwiceWrong)

/-- 'cordellelaw13.SourceUpdates': WHATEVER THE INPUT: true; the input reads as it did. -/
def sourceUpdatesSpec : ChangeSpec := { name := "sourceUpdates", fn := fun _ => fun
  | [d1, d2] => { results := [.lit (.bool true)], args := [d1, d2] }
  | _ => none }
def sourceUpdatesRow : OpenClaim := { program := "ythngobikokhdlaa", sum := "6fac3b52fc6ae15a109c6ff7f5553c947db6d256bc88a0b8339abe59274f66ca", func := "cordelle/cordellelaw13.SourceUpdates", spec := "sourceUpdates", apart := false }
def SourceUpdatesSaid : Prop := sourceUpdatesRow.holds Try.pinned (OpenSpec.ofChange sourceUpdatesSpec)

/-- ITS FALSE NEIGHBOUR: 'it returns false'. Refute it at one input. -/
def sourceUpdatesWrong : ChangeSpec := { name := "sourceUpdates", fn := fun _ => fun
  | [d1, d2] => { results := [.lit (.bool false)], args := [d1, d2] }
  | _ => none }
def SourceUpdatesWrongFalsely : Prop := sourceUpdatesRow.holds Try.pinned (OpenSpec.ofChange sourceUpdatesWrong)

/-- 'cordellelaw13.SourceCounts': WHATEVER THE INPUT: true; the input reads as it did. -/
def sourceCountsSpec : ChangeSpec := { name := "sourceCounts", fn := fun _ => fun
  | [d1, d2] => { results := [.lit (.bool true)], args := [d1, d2] }
  | _ => none }
def sourceCountsRow : OpenClaim := { program := "ythngobikokhdlaa", sum := "6fac3b52fc6ae15a109c6ff7f5553c947db6d256bc88a0b8339abe59274f66ca", func := "cordelle/cordellelaw13.SourceCounts", spec := "sourceCounts", apart := false }
def SourceCountsSaid : Prop := sourceCountsRow.holds Try.pinned (OpenSpec.ofChange sourceCountsSpec)

/-- ITS FALSE NEIGHBOUR: 'it returns false'. Refute it at one input. -/
def sourceCountsWrong : ChangeSpec := { name := "sourceCounts", fn := fun _ => fun
  | [d1, d2] => { results := [.lit (.bool false)], args := [d1, d2] }
  | _ => none }
def SourceCountsWrongFalsely : Prop := sourceCountsRow.holds Try.pinned (OpenSpec.ofChange sourceCountsWrong)

/- THE SECOND FORM. 'bulk': how many values and letters a reading holds, each counted each time it is reached (what is shared counts as often as it is met; a slice's spare places count too). A statement '..UptoSaid' is the law's where the arguments, and the package variables that the reading takes, are together of bulk at most 1048576: NARROWER than '..Said'. Prove '..Said' where nothing that the law and all that it calls make is longer than what came in: it says more and counts as full. Else prove '..UptoSaid'. A law counts once. -/
mutual
def uptoBulk {H : Type} : DataW H → Nat
  | .lit (.string bytes) => bytes.length + 1
  | .lit _ => 1
  | .nil => 1
  | .ptr d => uptoBulk d + 1
  | .slice elems spare => uptoBulkAll elems + uptoBulkAll spare + 1
  | .agg parts => uptoBulkAll parts + 1
  | .iface _ d => uptoBulk d + 1
  | .map entries => uptoBulkEntries entries + 1
  | .held _ => 1
def uptoBulkAll {H : Type} : List (DataW H) → Nat
  | [] => 0
  | d :: r => uptoBulk d + uptoBulkAll r
def uptoBulkEntries {H : Type} : List (Lit × DataW H) → Nat
  | [] => 0
  | x :: r => uptoBulkEntry x + uptoBulkEntries r
def uptoBulkEntry {H : Type} : Lit × DataW H → Nat
  | (.string bytes, d) => bytes.length + uptoBulk d + 1
  | (_, d) => uptoBulk d + 1
 end
def uptoSmall : (H : Type) → List (DataW H) → Bool := fun _ ds => decide (uptoBulkAll ds ≤ 1048576)
def OpenSpec.upto (s : _root_.Go.ChangeSpec) : _root_.Go.OpenSpec := { _root_.Go.OpenSpec.ofChange s with cond := some uptoSmall }

/-- 'cordellelaw14.LossFractions', WHERE WHAT IT READS IS OF BULK AT MOST 1048576: true; the input reads as it did. -/
def lossFractionsUptoRow : OpenClaim := { program := "ythngobikokhdlaa", sum := "6fac3b52fc6ae15a109c6ff7f5553c947db6d256bc88a0b8339abe59274f66ca", func := "cordelle/cordellelaw14.LossFractions", spec := "lossFractions", apart := false, narrowed := true }
def LossFractionsUptoSaid : Prop := lossFractionsUptoRow.holds Try.pinned (OpenSpec.upto lossFractionsSpec)

/-- 'cordellelaw14.LossNone', WHERE WHAT IT READS IS OF BULK AT MOST 1048576: true; the input reads as it did. -/
def lossNoneUptoRow : OpenClaim := { program := "ythngobikokhdlaa", sum := "6fac3b52fc6ae15a109c6ff7f5553c947db6d256bc88a0b8339abe59274f66ca", func := "cordelle/cordellelaw14.LossNone", spec := "lossNone", apart := false, narrowed := true }
def LossNoneUptoSaid : Prop := lossNoneUptoRow.holds Try.pinned (OpenSpec.upto lossNoneSpec)

/-- 'cordellelaw14.LossSums', WHERE WHAT IT READS IS OF BULK AT MOST 1048576: true; the input reads as it did. -/
def lossSumsUptoRow : OpenClaim := { program := "ythngobikokhdlaa", sum := "6fac3b52fc6ae15a109c6ff7f5553c947db6d256bc88a0b8339abe59274f66ca", func := "cordelle/cordellelaw14.LossSums", spec := "lossSums", apart := false, narrowed := true }
def LossSumsUptoSaid : Prop := lossSumsUptoRow.holds Try.pinned (OpenSpec.upto lossSumsSpec)

/-- 'cordellelaw13.SourceTwice', WHERE WHAT IT READS IS OF BULK AT MOST 1048576: true; the input reads as it did. -/
def sourceTwiceUptoRow : OpenClaim := { program := "ythngobikokhdlaa", sum := "6fac3b52fc6ae15a109c6ff7f5553c947db6d256bc88a0b8339abe59274f66ca", func := "cordelle/cordellelaw13.SourceTwice", spec := "sourceTwice", apart := false, narrowed := true }
def SourceTwiceUptoSaid : Prop := sourceTwiceUptoRow.holds Try.pinned (OpenSpec.upto sourceTwiceSpec)

/-- 'cordellelaw13.SourceUpdates', WHERE WHAT IT READS IS OF BULK AT MOST 1048576: true; the input reads as it did. -/
def sourceUpdatesUptoRow : OpenClaim := { program := "ythngobikokhdlaa", sum := "6fac3b52fc6ae15a109c6ff7f5553c947db6d256bc88a0b8339abe59274f66ca", func := "cordelle/cordellelaw13.SourceUpdates", spec := "sourceUpdates", apart := false, narrowed := true }
def SourceUpdatesUptoSaid : Prop := sourceUpdatesUptoRow.holds Try.pinned (OpenSpec.upto sourceUpdatesSpec)

/-- 'cordellelaw13.SourceCounts', WHERE WHAT IT READS IS OF BULK AT MOST 1048576: true; the input reads as it did. -/
def sourceCountsUptoRow : OpenClaim := { program := "ythngobikokhdlaa", sum := "6fac3b52fc6ae15a109c6ff7f5553c947db6d256bc88a0b8339abe59274f66ca", func := "cordelle/cordellelaw13.SourceCounts", spec := "sourceCounts", apart := false, narrowed := true }
def SourceCountsUptoSaid : Prop := sourceCountsUptoRow.holds Try.pinned (OpenSpec.upto sourceCountsSpec)

end Rows
end Go.Proofs.Ythngobikokhdlaa
