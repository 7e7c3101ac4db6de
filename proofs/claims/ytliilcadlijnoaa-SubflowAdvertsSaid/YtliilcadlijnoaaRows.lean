/-
  No cell of these rows narrows 'for every input' (looked for: loops, veiled, ifaces, maps, wideKeys, modest, calm, conditions, laid).
  DERIVED. THE GIVEN ROWS OF THIS SEAT. 3 by the template 'for every input the law returns true; each argument reads behind the call as it read before'; 0 by the template 'total and deterministic' (their statements: YtliilcadlijnoaaTotals.lean).
  GIVEN WITH THE SEED: the statements are not yours to turn. If you find one false, say at which input.
  Laid BY PROGRAM, IN A SANDBOX (cutbox-rows.mjs): the forced cells as the released guide's own fill.sh prints them over the translation 2a6ef3f80659609e… (all of the seat's roots in one cut). By AI agents, Wed Nov 11 2026. No macro, syntax, notation, axiom, sorry.
-/
import Derived.Test.YtliilcadlijnoaaChecked
import GoSem.Claim
import GoSem.ClaimJoined
import GoSem.ClaimMapViews
import Derived.JoinedTies
import Derived.KernelRfl
namespace Go.Proofs.Ytliilcadlijnoaa
/- THE CELL 'sum', in the pinned program and in every row, IS THE sha256 OF THE DUMP (.gsa) THAT YtliilcadlijnoaaProg.lean LOADS. Nothing in Lean hashes anything: it is a label: what it is worth is what the hold of that sum in a sandbox is worth. -/
noncomputable def Try.pinned : Pinned := { name := "ytliilcadlijnoaa", sum := "2a6ef3f80659609ec81a27f644512a5ce17ca33b9da0b5bed53dac788dfbf405", checked := Try.checked }
namespace Rows
def none {H : Type} : Left H := { results := [], args := [] }

/-- 'cordellelaw11.SubflowAdverts': WHATEVER THE INPUT: true; the input reads as it did. -/
def subflowAdvertsSpec : ChangeSpec := { name := "subflowAdverts", fn := fun _ => fun
  | [d1, d2] => { results := [.lit (.bool true)], args := [d1, d2] }
  | _ => none }
def subflowAdvertsRow : OpenClaim := { program := "ytliilcadlijnoaa", sum := "2a6ef3f80659609ec81a27f644512a5ce17ca33b9da0b5bed53dac788dfbf405", func := "cordelle/cordellelaw11.SubflowAdverts", spec := "subflowAdverts", unfollowed := true, recurses := true, apart := false }
def SubflowAdvertsSaid : Prop := subflowAdvertsRow.holds Try.pinned (OpenSpec.ofChange subflowAdvertsSpec)

/-- ITS FALSE NEIGHBOUR: 'it returns false'. Refute it at one input. -/
def subflowAdvertsWrong : ChangeSpec := { name := "subflowAdverts", fn := fun _ => fun
  | [d1, d2] => { results := [.lit (.bool false)], args := [d1, d2] }
  | _ => none }
def SubflowAdvertsWrongFalsely : Prop := subflowAdvertsRow.holds Try.pinned (OpenSpec.ofChange subflowAdvertsWrong)

/-- 'cordellelaw11.SubflowReads': WHATEVER THE INPUT: true; the input reads as it did. -/
def subflowReadsSpec : ChangeSpec := { name := "subflowReads", fn := fun _ => fun
  | [d] => { results := [.lit (.bool true)], args := [d] }
  | _ => none }
def subflowReadsRow : OpenClaim := { program := "ytliilcadlijnoaa", sum := "2a6ef3f80659609ec81a27f644512a5ce17ca33b9da0b5bed53dac788dfbf405", func := "cordelle/cordellelaw11.SubflowReads", spec := "subflowReads", unfollowed := true, recurses := true, apart := false }
def SubflowReadsSaid : Prop := subflowReadsRow.holds Try.pinned (OpenSpec.ofChange subflowReadsSpec)

/-- ITS FALSE NEIGHBOUR: 'it returns false'. Refute it at one input. -/
def subflowReadsWrong : ChangeSpec := { name := "subflowReads", fn := fun _ => fun
  | [d] => { results := [.lit (.bool false)], args := [d] }
  | _ => none }
def SubflowReadsWrongFalsely : Prop := subflowReadsRow.holds Try.pinned (OpenSpec.ofChange subflowReadsWrong)

/-- 'cordellelaw11.SubflowApart': WHATEVER THE INPUT: true; the input reads as it did. -/
def subflowApartSpec : ChangeSpec := { name := "subflowApart", fn := fun _ => fun
  | [d1, d2, d3] => { results := [.lit (.bool true)], args := [d1, d2, d3] }
  | _ => none }
def subflowApartRow : OpenClaim := { program := "ytliilcadlijnoaa", sum := "2a6ef3f80659609ec81a27f644512a5ce17ca33b9da0b5bed53dac788dfbf405", func := "cordelle/cordellelaw11.SubflowApart", spec := "subflowApart", unfollowed := true, recurses := true, apart := false }
def SubflowApartSaid : Prop := subflowApartRow.holds Try.pinned (OpenSpec.ofChange subflowApartSpec)

/-- ITS FALSE NEIGHBOUR: 'it returns false'. Refute it at one input. -/
def subflowApartWrong : ChangeSpec := { name := "subflowApart", fn := fun _ => fun
  | [d1, d2, d3] => { results := [.lit (.bool false)], args := [d1, d2, d3] }
  | _ => none }
def SubflowApartWrongFalsely : Prop := subflowApartRow.holds Try.pinned (OpenSpec.ofChange subflowApartWrong)

/- THE SECOND FORM. 'bulk': how many values and letters a reading holds, each counted each time it is reached (what is shared counts as often as it is met; a slice's spare places count too). A statement '..UptoSaid' is the law's where the arguments, and the package variables that the reading takes, are together of bulk at most 1048576: NARROWER than '..Said'. Prove '..Said' where nothing that the law and all that it calls make is longer than what came in: it says more and counts as full. Else prove '..UptoSaid'. A law counts once. -/
mutual
def uptoBulk {H : Type} : DataW H → Nat
  | .lit (.string bytes) => bytes.length + 1
  | .lit _ => 1
  | .nil => 1
  | .ptr d => uptoBulk d + 1
  | .slice elems spare => uptoBulkAll elems + uptoBulkAll spare + 1
  | .agg parts => uptoBulkAll parts + 1
  | .iface _ d => uptoBulk d + 1
  | .map entries => uptoBulkEntries entries + 1
  | .held _ => 1
def uptoBulkAll {H : Type} : List (DataW H) → Nat
  | [] => 0
  | d :: r => uptoBulk d + uptoBulkAll r
def uptoBulkEntries {H : Type} : List (Lit × DataW H) → Nat
  | [] => 0
  | x :: r => uptoBulkEntry x + uptoBulkEntries r
def uptoBulkEntry {H : Type} : Lit × DataW H → Nat
  | (.string bytes, d) => bytes.length + uptoBulk d + 1
  | (_, d) => uptoBulk d + 1
 end
def uptoSmall : (H : Type) → List (DataW H) → Bool := fun _ ds => decide (uptoBulkAll ds ≤ 1048576)
def OpenSpec.upto (s : _root_.Go.ChangeSpec) : _root_.Go.OpenSpec := { _root_.Go.OpenSpec.ofChange s with cond := some uptoSmall }

/-- 'cordellelaw11.SubflowAdverts', WHERE WHAT IT READS IS OF BULK AT MOST 1048576: true; the input reads as it did. -/
def subflowAdvertsUptoRow : OpenClaim := { program := "ytliilcadlijnoaa", sum := "2a6ef3f80659609ec81a27f644512a5ce17ca33b9da0b5bed53dac788dfbf405", func := "cordelle/cordellelaw11.SubflowAdverts", spec := "subflowAdverts", unfollowed := true, recurses := true, apart := false, narrowed := true }
def SubflowAdvertsUptoSaid : Prop := subflowAdvertsUptoRow.holds Try.pinned (OpenSpec.upto subflowAdvertsSpec)

/-- 'cordellelaw11.SubflowReads', WHERE WHAT IT READS IS OF BULK AT MOST 1048576: true; the input reads as it did. -/
def subflowReadsUptoRow : OpenClaim := { program := "ytliilcadlijnoaa", sum := "2a6ef3f80659609ec81a27f644512a5ce17ca33b9da0b5bed53dac788dfbf405", func := "cordelle/cordellelaw11.SubflowReads", spec := "subflowReads", unfollowed := true, recurses := true, apart := false, narrowed := true }
def SubflowReadsUptoSaid : Prop := subflowReadsUptoRow.holds Try.pinned (OpenSpec.upto subflowReadsSpec)

/-- 'cordellelaw11.SubflowApart', WHERE WHAT IT READS IS OF BULK AT MOST 1048576: true; the input reads as it did. -/
def subflowApartUptoRow : OpenClaim := { program := "ytliilcadlijnoaa", sum := "2a6ef3f80659609ec81a27f644512a5ce17ca33b9da0b5bed53dac788dfbf405", func := "cordelle/cordellelaw11.SubflowApart", spec := "subflowApart", unfollowed := true, recurses := true, apart := false, narrowed := true }
def SubflowApartUptoSaid : Prop := subflowApartUptoRow.holds Try.pinned (OpenSpec.upto subflowApartSpec)

end Rows
end Go.Proofs.Ytliilcadlijnoaa
