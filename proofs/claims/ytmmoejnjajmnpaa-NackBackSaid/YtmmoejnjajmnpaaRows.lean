/-
  No cell of these rows narrows 'for every input' (looked for: loops, veiled, ifaces, maps, wideKeys, modest, calm, conditions, laid).
  DERIVED. THE GIVEN ROWS OF THIS SEAT. 5 by the template 'for every input the law returns true; each argument reads behind the call as it read before'; 0 by the template 'total and deterministic' (their statements: YtmmoejnjajmnpaaTotals.lean).
  GIVEN WITH THE SEED: the statements are not yours to turn. If you find one false, say at which input.
  Laid BY PROGRAM, IN A SANDBOX (cutbox-rows.mjs): the forced cells as the released guide's own fill.sh prints them over the translation 89d7041647f4a4c4… (all of the seat's roots in one cut). By AI agents, Wed Nov 11 2026. No macro, syntax, notation, axiom, sorry.
-/
import Derived.Test.YtmmoejnjajmnpaaChecked
import GoSem.Claim
import GoSem.ClaimJoined
import GoSem.ClaimMapViews
import Derived.JoinedTies
import Derived.KernelRfl
namespace Go.Proofs.Ytmmoejnjajmnpaa
/- THE CELL 'sum', in the pinned program and in every row, IS THE sha256 OF THE DUMP (.gsa) THAT YtmmoejnjajmnpaaProg.lean LOADS. Nothing in Lean hashes anything: it is a label: what it is worth is what the hold of that sum in a sandbox is worth. -/
noncomputable def Try.pinned : Pinned := { name := "ytmmoejnjajmnpaa", sum := "89d7041647f4a4c4a8939dd27ef4d5f6e4538116cac2be8babb113bb573d7aed", checked := Try.checked }
namespace Rows
def none {H : Type} : Left H := { results := [], args := [] }

/-- 'cordellelaw10.NackFewer': WHATEVER THE INPUT: true; the input reads as it did. -/
def nackFewerSpec : ChangeSpec := { name := "nackFewer", fn := fun _ => fun
  | [d] => { results := [.lit (.bool true)], args := [d] }
  | _ => none }
def nackFewerRow : OpenClaim := { program := "ytmmoejnjajmnpaa", sum := "89d7041647f4a4c4a8939dd27ef4d5f6e4538116cac2be8babb113bb573d7aed", func := "cordelle/cordellelaw10.NackFewer", spec := "nackFewer", unfollowed := true, recurses := true, apart := false }
def NackFewerSaid : Prop := nackFewerRow.holds Try.pinned (OpenSpec.ofChange nackFewerSpec)

/-- ITS FALSE NEIGHBOUR: 'it returns false'. Refute it at one input. -/
def nackFewerWrong : ChangeSpec := { name := "nackFewer", fn := fun _ => fun
  | [d] => { results := [.lit (.bool false)], args := [d] }
  | _ => none }
def NackFewerWrongFalsely : Prop := nackFewerRow.holds Try.pinned (OpenSpec.ofChange nackFewerWrong)

/-- 'cordellelaw10.NackNumbers': WHATEVER THE INPUT: true; the input reads as it did. -/
def nackNumbersSpec : ChangeSpec := { name := "nackNumbers", fn := fun _ => fun
  | [d] => { results := [.lit (.bool true)], args := [d] }
  | _ => none }
def nackNumbersRow : OpenClaim := { program := "ytmmoejnjajmnpaa", sum := "89d7041647f4a4c4a8939dd27ef4d5f6e4538116cac2be8babb113bb573d7aed", func := "cordelle/cordellelaw10.NackNumbers", spec := "nackNumbers", unfollowed := true, recurses := true, apart := false }
def NackNumbersSaid : Prop := nackNumbersRow.holds Try.pinned (OpenSpec.ofChange nackNumbersSpec)

/-- ITS FALSE NEIGHBOUR: 'it returns false'. Refute it at one input. -/
def nackNumbersWrong : ChangeSpec := { name := "nackNumbers", fn := fun _ => fun
  | [d] => { results := [.lit (.bool false)], args := [d] }
  | _ => none }
def NackNumbersWrongFalsely : Prop := nackNumbersRow.holds Try.pinned (OpenSpec.ofChange nackNumbersWrong)

/-- 'cordellelaw10.NackPairs': WHATEVER THE INPUT: true; the input reads as it did. -/
def nackPairsSpec : ChangeSpec := { name := "nackPairs", fn := fun _ => fun
  | [d] => { results := [.lit (.bool true)], args := [d] }
  | _ => none }
def nackPairsRow : OpenClaim := { program := "ytmmoejnjajmnpaa", sum := "89d7041647f4a4c4a8939dd27ef4d5f6e4538116cac2be8babb113bb573d7aed", func := "cordelle/cordellelaw10.NackPairs", spec := "nackPairs", unfollowed := true, recurses := true, apart := false }
def NackPairsSaid : Prop := nackPairsRow.holds Try.pinned (OpenSpec.ofChange nackPairsSpec)

/-- ITS FALSE NEIGHBOUR: 'it returns false'. Refute it at one input. -/
def nackPairsWrong : ChangeSpec := { name := "nackPairs", fn := fun _ => fun
  | [d] => { results := [.lit (.bool false)], args := [d] }
  | _ => none }
def NackPairsWrongFalsely : Prop := nackPairsRow.holds Try.pinned (OpenSpec.ofChange nackPairsWrong)

/-- 'cordellelaw10.NackBack': WHATEVER THE INPUT: true; the input reads as it did. -/
def nackBackSpec : ChangeSpec := { name := "nackBack", fn := fun _ => fun
  | [d] => { results := [.lit (.bool true)], args := [d] }
  | _ => none }
def nackBackRow : OpenClaim := { program := "ytmmoejnjajmnpaa", sum := "89d7041647f4a4c4a8939dd27ef4d5f6e4538116cac2be8babb113bb573d7aed", func := "cordelle/cordellelaw10.NackBack", spec := "nackBack", unfollowed := true, recurses := true, apart := false }
def NackBackSaid : Prop := nackBackRow.holds Try.pinned (OpenSpec.ofChange nackBackSpec)

/-- ITS FALSE NEIGHBOUR: 'it returns false'. Refute it at one input. -/
def nackBackWrong : ChangeSpec := { name := "nackBack", fn := fun _ => fun
  | [d] => { results := [.lit (.bool false)], args := [d] }
  | _ => none }
def NackBackWrongFalsely : Prop := nackBackRow.holds Try.pinned (OpenSpec.ofChange nackBackWrong)

/-- 'cordellelaw10.NackReads': WHATEVER THE INPUT: true; the input reads as it did. -/
def nackReadsSpec : ChangeSpec := { name := "nackReads", fn := fun _ => fun
  | [d] => { results := [.lit (.bool true)], args := [d] }
  | _ => none }
def nackReadsRow : OpenClaim := { program := "ytmmoejnjajmnpaa", sum := "89d7041647f4a4c4a8939dd27ef4d5f6e4538116cac2be8babb113bb573d7aed", func := "cordelle/cordellelaw10.NackReads", spec := "nackReads", unfollowed := true, recurses := true, apart := false }
def NackReadsSaid : Prop := nackReadsRow.holds Try.pinned (OpenSpec.ofChange nackReadsSpec)

/-- ITS FALSE NEIGHBOUR: 'it returns false'. Refute it at one input. -/
def nackReadsWrong : ChangeSpec := { name := "nackReads", fn := fun _ => fun
  | [d] => { results := [.lit (.bool false)], args := [d] }
  | _ => none }
def NackReadsWrongFalsely : Prop := nackReadsRow.holds Try.pinned (OpenSpec.ofChange nackReadsWrong)

/- THE SECOND FORM. 'bulk': how many values and letters a reading holds, each counted each time it is reached (what is shared counts as often as it is met; a slice's spare places count too). A statement '..UptoSaid' is the law's where the arguments, and the package variables that the reading takes, are together of bulk at most 1048576: NARROWER than '..Said'. Prove '..Said' where nothing that the law and all that it calls make is longer than what came in: it says more and counts as full. Else prove '..UptoSaid'. A law counts once. -/
mutual
def uptoBulk {H : Type} : DataW H → Nat
  | .lit (.string bytes) => bytes.length + 1
  | .lit _ => 1
  | .nil => 1
  | .ptr d => uptoBulk d + 1
  | .slice elems spare => uptoBulkAll elems + uptoBulkAll spare + 1
  | .agg parts => uptoBulkAll parts + 1
  | .iface _ d => uptoBulk d + 1
  | .map entries => uptoBulkEntries entries + 1
  | .held _ => 1
def uptoBulkAll {H : Type} : List (DataW H) → Nat
  | [] => 0
  | d :: r => uptoBulk d + uptoBulkAll r
def uptoBulkEntries {H : Type} : List (Lit × DataW H) → Nat
  | [] => 0
  | x :: r => uptoBulkEntry x + uptoBulkEntries r
def uptoBulkEntry {H : Type} : Lit × DataW H → Nat
  | (.string bytes, d) => bytes.length + uptoBulk d + 1
  | (_, d) => uptoBulk d + 1
 end
def uptoSmall : (H : Type) → List (DataW H) → Bool := fun _ ds => decide (uptoBulkAll ds ≤ 1048576)
def OpenSpec.upto (s : _root_.Go.ChangeSpec) : _root_.Go.OpenSpec := { _root_.Go.OpenSpec.ofChange s with cond := some uptoSmall }

/-- 'cordellelaw10.NackFewer', WHERE WHAT IT READS IS OF BULK AT MOST 1048576: true; the input reads as it did. -/
def nackFewerUptoRow : OpenClaim := { program := "ytmmoejnjajmnpaa", sum := "89d7041647f4a4c4a8939dd27ef4d5f6e4538116cac2be8babb113bb573d7aed", func := "cordelle/cordellelaw10.NackFewer", spec := "nackFewer", unfollowed := true, recurses := true, apart := false, narrowed := true }
def NackFewerUptoSaid : Prop := nackFewerUptoRow.holds Try.pinned (OpenSpec.upto nackFewerSpec)

/-- 'cordellelaw10.NackNumbers', WHERE WHAT IT READS IS OF BULK AT MOST 1048576: true; the input reads as it did. -/
def nackNumbersUptoRow : OpenClaim := { program := "ytmmoejnjajmnpaa", sum := "89d7041647f4a4c4a8939dd27ef4d5f6e4538116cac2be8babb113bb573d7aed", func := "cordelle/cordellelaw10.NackNumbers", spec := "nackNumbers", unfollowed := true, recurses := true, apart := false, narrowed := true }
def NackNumbersUptoSaid : Prop := nackNumbersUptoRow.holds Try.pinned (OpenSpec.upto nackNumbersSpec)

/-- 'cordellelaw10.NackPairs', WHERE WHAT IT READS IS OF BULK AT MOST 1048576: true; the input reads as it did. -/
def nackPairsUptoRow : OpenClaim := { program := "ytmmoejnjajmnpaa", sum := "89d7041647f4a4c4a8939dd27ef4d5f6e4538116cac2be8babb113bb573d7aed", func := "cordelle/cordellelaw10.NackPairs", spec := "nackPairs", unfollowed := true, recurses := true, apart := false, narrowed := true }
def NackPairsUptoSaid : Prop := nackPairsUptoRow.holds Try.pinned (OpenSpec.upto nackPairsSpec)

/-- 'cordellelaw10.NackBack', WHERE WHAT IT READS IS OF BULK AT MOST 1048576: true; the input reads as it did. -/
def nackBackUptoRow : OpenClaim := { program := "ytmmoejnjajmnpaa", sum := "89d7041647f4a4c4a8939dd27ef4d5f6e4538116cac2be8babb113bb573d7aed", func := "cordelle/cordellelaw10.NackBack", spec := "nackBack", unfollowed := true, recurses := true, apart := false, narrowed := true }
def NackBackUptoSaid : Prop := nackBackUptoRow.holds Try.pinned (OpenSpec.upto nackBackSpec)

/-- 'cordellelaw10.NackReads', WHERE WHAT IT READS IS OF BULK AT MOST 1048576: true; the input reads as it did. -/
def nackReadsUptoRow : OpenClaim := { program := "ytmmoejnjajmnpaa", sum := "89d7041647f4a4c4a8939dd27ef4d5f6e4538116cac2be8babb113bb573d7aed", func := "cordelle/cordellelaw10.NackReads", spec := "nackReads", unfollowed := true, recurses := true, apart := false, narrowed := true }
def NackReadsUptoSaid : Prop := nackReadsUptoRow.holds Try.pinned (OpenSpec.upto nackReadsSpec)

end Rows
end Go.Proofs.Ytmmoejnjajmnpaa
