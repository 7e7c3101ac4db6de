/-
  No cell of these rows narrows 'for every input' (looked for: loops, veiled, ifaces, maps, wideKeys, modest, calm, conditions, laid).
  DERIVED. THE GIVEN ROWS OF THIS SEAT. 7 by the template 'for every input the law returns true; each argument reads behind the call as it read before'; 0 by the template 'total and deterministic' (their statements: YtomhnegfemdcdaaTotals.lean).
  GIVEN WITH THE SEED: the statements are not yours to turn. If you find one false, say at which input.
  Laid BY PROGRAM, IN A SANDBOX (cutbox-rows.mjs): the forced cells as the released guide's own fill.sh prints them over the translation bc46ade31fd0522d… (all of the seat's roots in one cut). By AI agents, Wed Nov 11 2026. No macro, syntax, notation, axiom, sorry.
-/
import Derived.Test.YtomhnegfemdcdaaChecked
import GoSem.Claim
import GoSem.ClaimJoined
import GoSem.ClaimMapViews
import Derived.JoinedTies
import Derived.KernelRfl
namespace Go.Proofs.Ytomhnegfemdcdaa
/- THE CELL 'sum', in the pinned program and in every row, IS THE sha256 OF THE DUMP (.gsa) THAT YtomhnegfemdcdaaProg.lean LOADS. Nothing in Lean hashes anything: it is a label: what it is worth is what the hold of that sum in a sandbox is worth. -/
noncomputable def Try.pinned : Pinned := { name := "ytomhnegfemdcdaa", sum := "bc46ade31fd0522d8775139ea7e3395074395c6345087c0f6cbb68a4a2f0cc93", checked := Try.checked }
namespace Rows
def none {H : Type} : Left H := { results := [], args := [] }

/-- 'cordellelaw19.PaceBound': WHATEVER THE INPUT: true; the input reads as it did. -/
def paceBoundSpec : ChangeSpec := { name := "paceBound", fn := fun _ => fun
  | [d1, d2, d3] => { results := [.lit (.bool true)], args := [d1, d2, d3] }
  | _ => none }
def paceBoundRow : OpenClaim := { program := "ytomhnegfemdcdaa", sum := "bc46ade31fd0522d8775139ea7e3395074395c6345087c0f6cbb68a4a2f0cc93", func := "cordelle/cordellelaw19.PaceBound", spec := "paceBound", apart := false }
def PaceBoundSaid : Prop := paceBoundRow.holds Try.pinned (OpenSpec.ofChange paceBoundSpec)

/-- ITS FALSE NEIGHBOUR: 'it returns false'. Refute it at one input. -/
def paceBoundWrong : ChangeSpec := { name := "paceBound", fn := fun _ => fun
  | [d1, d2, d3] => { results := [.lit (.bool false)], args := [d1, d2, d3] }
  | _ => none }
def PaceBoundWrongFalsely : Prop := paceBoundRow.holds Try.pinned (OpenSpec.ofChange paceBoundWrong)

/-- 'cordellelaw19.PaceMore': WHATEVER THE INPUT: true; the input reads as it did. -/
def paceMoreSpec : ChangeSpec := { name := "paceMore", fn := fun _ => fun
  | [d] => { results := [.lit (.bool true)], args := [d] }
  | _ => none }
def paceMoreRow : OpenClaim := { program := "ytomhnegfemdcdaa", sum := "bc46ade31fd0522d8775139ea7e3395074395c6345087c0f6cbb68a4a2f0cc93", func := "cordelle/cordellelaw19.PaceMore", spec := "paceMore", apart := false }
def PaceMoreSaid : Prop := paceMoreRow.holds Try.pinned (OpenSpec.ofChange paceMoreSpec)

/-- ITS FALSE NEIGHBOUR: 'it returns false'. Refute it at one input. -/
def paceMoreWrong : ChangeSpec := { name := "paceMore", fn := fun _ => fun
  | [d] => { results := [.lit (.bool false)], args := [d] }
  | _ => none }
def PaceMoreWrongFalsely : Prop := paceMoreRow.holds Try.pinned (OpenSpec.ofChange paceMoreWrong)

/-- 'cordellelaw19.PacePlays': WHATEVER THE INPUT: true; the input reads as it did. -/
def pacePlaysSpec : ChangeSpec := { name := "pacePlays", fn := fun _ => fun
  | [d1, d2] => { results := [.lit (.bool true)], args := [d1, d2] }
  | _ => none }
def pacePlaysRow : OpenClaim := { program := "ytomhnegfemdcdaa", sum := "bc46ade31fd0522d8775139ea7e3395074395c6345087c0f6cbb68a4a2f0cc93", func := "cordelle/cordellelaw19.PacePlays", spec := "pacePlays", apart := false }
def PacePlaysSaid : Prop := pacePlaysRow.holds Try.pinned (OpenSpec.ofChange pacePlaysSpec)

/-- ITS FALSE NEIGHBOUR: 'it returns false'. Refute it at one input. -/
def pacePlaysWrong : ChangeSpec := { name := "pacePlays", fn := fun _ => fun
  | [d1, d2] => { results := [.lit (.bool false)], args := [d1, d2] }
  | _ => none }
def PacePlaysWrongFalsely : Prop := pacePlaysRow.holds Try.pinned (OpenSpec.ofChange pacePlaysWrong)

/-- 'cordellelaw20.QueueOrder': WHATEVER THE INPUT: true; the input reads as it did. -/
def queueOrderSpec : ChangeSpec := { name := "queueOrder", fn := fun _ => fun
  | [d1, d2] => { results := [.lit (.bool true)], args := [d1, d2] }
  | _ => none }
def queueOrderRow : OpenClaim := { program := "ytomhnegfemdcdaa", sum := "bc46ade31fd0522d8775139ea7e3395074395c6345087c0f6cbb68a4a2f0cc93", func := "cordelle/cordellelaw20.QueueOrder", spec := "queueOrder", unfollowed := true, recurses := true, apart := false }
def QueueOrderSaid : Prop := queueOrderRow.holds Try.pinned (OpenSpec.ofChange queueOrderSpec)

/-- ITS FALSE NEIGHBOUR: 'it returns false'. Refute it at one input. -/
def queueOrderWrong : ChangeSpec := { name := "queueOrder", fn := fun _ => fun
  | [d1, d2] => { results := [.lit (.bool false)], args := [d1, d2] }
  | _ => none }
def QueueOrderWrongFalsely : Prop := queueOrderRow.holds Try.pinned (OpenSpec.ofChange queueOrderWrong)

/-- 'cordellelaw20.QueuePlays': WHATEVER THE INPUT: true; the input reads as it did. -/
def queuePlaysSpec : ChangeSpec := { name := "queuePlays", fn := fun _ => fun
  | [d1, d2, d3] => { results := [.lit (.bool true)], args := [d1, d2, d3] }
  | _ => none }
def queuePlaysRow : OpenClaim := { program := "ytomhnegfemdcdaa", sum := "bc46ade31fd0522d8775139ea7e3395074395c6345087c0f6cbb68a4a2f0cc93", func := "cordelle/cordellelaw20.QueuePlays", spec := "queuePlays", unfollowed := true, recurses := true, apart := false }
def QueuePlaysSaid : Prop := queuePlaysRow.holds Try.pinned (OpenSpec.ofChange queuePlaysSpec)

/-- ITS FALSE NEIGHBOUR: 'it returns false'. Refute it at one input. -/
def queuePlaysWrong : ChangeSpec := { name := "queuePlays", fn := fun _ => fun
  | [d1, d2, d3] => { results := [.lit (.bool false)], args := [d1, d2, d3] }
  | _ => none }
def QueuePlaysWrongFalsely : Prop := queuePlaysRow.holds Try.pinned (OpenSpec.ofChange queuePlaysWrong)

/-- 'cordellelaw20.QueueClones': WHATEVER THE INPUT: true; the input reads as it did. -/
def queueClonesSpec : ChangeSpec := { name := "queueClones", fn := fun _ => fun
  | [d1, d2] => { results := [.lit (.bool true)], args := [d1, d2] }
  | _ => none }
def queueClonesRow : OpenClaim := { program := "ytomhnegfemdcdaa", sum := "bc46ade31fd0522d8775139ea7e3395074395c6345087c0f6cbb68a4a2f0cc93", func := "cordelle/cordellelaw20.QueueClones", spec := "queueClones", unfollowed := true, recurses := true, apart := false }
def QueueClonesSaid : Prop := queueClonesRow.holds Try.pinned (OpenSpec.ofChange queueClonesSpec)

/-- ITS FALSE NEIGHBOUR: 'it returns false'. Refute it at one input. -/
def queueClonesWrong : ChangeSpec := { name := "queueClones", fn := fun _ => fun
  | [d1, d2] => { results := [.lit (.bool false)], args := [d1, d2] }
  | _ => none }
def QueueClonesWrongFalsely : Prop := queueClonesRow.holds Try.pinned (OpenSpec.ofChange queueClonesWrong)

/-- 'cordelletop.CordellePaced': WHATEVER THE INPUT: true; the input reads as it did. -/
def cordellePacedSpec : ChangeSpec := { name := "cordellePaced", fn := fun _ => fun
  | [d1, d2, d3] => { results := [.lit (.bool true)], args := [d1, d2, d3] }
  | _ => none }
def cordellePacedRow : OpenClaim := { program := "ytomhnegfemdcdaa", sum := "bc46ade31fd0522d8775139ea7e3395074395c6345087c0f6cbb68a4a2f0cc93", func := "cordelle/cordelletop.CordellePaced", spec := "cordellePaced", unfollowed := true, recurses := true, apart := false }
def CordellePacedSaid : Prop := cordellePacedRow.holds Try.pinned (OpenSpec.ofChange cordellePacedSpec)

/-- ITS FALSE NEIGHBOUR: 'it returns false'. Refute it at one input. -/
def cordellePacedWrong : ChangeSpec := { name := "cordellePaced", fn := fun _ => fun
  | [d1, d2, d3] => { results := [.lit (.bool false)], args := [d1, d2, d3] }
  | _ => none }
def CordellePacedWrongFalsely : Prop := cordellePacedRow.holds Try.pinned (OpenSpec.ofChange cordellePacedWrong)

/- THE SECOND FORM. 'bulk': how many values and letters a reading holds, each counted each time it is reached (what is shared counts as often as it is met; a slice's spare places count too). A statement '..UptoSaid' is the law's where the arguments, and the package variables that the reading takes, are together of bulk at most 1048576: NARROWER than '..Said'. Prove '..Said' where nothing that the law and all that it calls make is longer than what came in: it says more and counts as full. Else prove '..UptoSaid'. A law counts once. -/
mutual
def uptoBulk {H : Type} : DataW H → Nat
  | .lit (.string bytes) => bytes.length + 1
  | .lit _ => 1
  | .nil => 1
  | .ptr d => uptoBulk d + 1
  | .slice elems spare => uptoBulkAll elems + uptoBulkAll spare + 1
  | .agg parts => uptoBulkAll parts + 1
  | .iface _ d => uptoBulk d + 1
  | .map entries => uptoBulkEntries entries + 1
  | .held _ => 1
def uptoBulkAll {H : Type} : List (DataW H) → Nat
  | [] => 0
  | d :: r => uptoBulk d + uptoBulkAll r
def uptoBulkEntries {H : Type} : List (Lit × DataW H) → Nat
  | [] => 0
  | x :: r => uptoBulkEntry x + uptoBulkEntries r
def uptoBulkEntry {H : Type} : Lit × DataW H → Nat
  | (.string bytes, d) => bytes.length + uptoBulk d + 1
  | (_, d) => uptoBulk d + 1
 end
def uptoSmall : (H : Type) → List (DataW H) → Bool := fun _ ds => decide (uptoBulkAll ds ≤ 1048576)
def OpenSpec.upto (s : _root_.Go.ChangeSpec) : _root_.Go.OpenSpec := { _root_.Go.OpenSpec.ofChange s with cond := some uptoSmall }

/-- 'cordellelaw19.PaceBound', WHERE WHAT IT READS IS OF BULK AT MOST 1048576: true; the input reads as it did. -/
def paceBoundUptoRow : OpenClaim := { program := "ytomhnegfemdcdaa", sum := "bc46ade31fd0522d8775139ea7e3395074395c6345087c0f6cbb68a4a2f0cc93", func := "cordelle/cordellelaw19.PaceBound", spec := "paceBound", apart := false, narrowed := true }
def PaceBoundUptoSaid : Prop := paceBoundUptoRow.holds Try.pinned (OpenSpec.upto paceBoundSpec)

/-- 'cordellelaw19.PaceMore', WHERE WHAT IT READS IS OF BULK AT MOST 1048576: true; the input reads as it did. -/
def paceMoreUptoRow : OpenClaim := { program := "ytomhnegfemdcdaa", sum := "bc46ade31fd0522d8775139ea7e3395074395c6345087c0f6cbb68a4a2f0cc93", func := "cordelle/cordellelaw19.PaceMore", spec := "paceMore", apart := false, narrowed := true }
def PaceMoreUptoSaid : Prop := paceMoreUptoRow.holds Try.pinned (OpenSpec.upto paceMoreSpec)

/-- 'cordellelaw19.PacePlays', WHERE WHAT IT READS IS OF BULK AT MOST 1048576: true; the input reads as it did. -/
def pacePlaysUptoRow : OpenClaim := { program := "ytomhnegfemdcdaa", sum := "bc46ade31fd0522d8775139ea7e3395074395c6345087c0f6cbb68a4a2f0cc93", func := "cordelle/cordellelaw19.PacePlays", spec := "pacePlays", apart := false, narrowed := true }
def PacePlaysUptoSaid : Prop := pacePlaysUptoRow.holds Try.pinned (OpenSpec.upto pacePlaysSpec)

/-- 'cordellelaw20.QueueOrder', WHERE WHAT IT READS IS OF BULK AT MOST 1048576: true; the input reads as it did. -/
def queueOrderUptoRow : OpenClaim := { program := "ytomhnegfemdcdaa", sum := "bc46ade31fd0522d8775139ea7e3395074395c6345087c0f6cbb68a4a2f0cc93", func := "cordelle/cordellelaw20.QueueOrder", spec := "queueOrder", unfollowed := true, recurses := true, apart := false, narrowed := true }
def QueueOrderUptoSaid : Prop := queueOrderUptoRow.holds Try.pinned (OpenSpec.upto queueOrderSpec)

/-- 'cordellelaw20.QueuePlays', WHERE WHAT IT READS IS OF BULK AT MOST 1048576: true; the input reads as it did. -/
def queuePlaysUptoRow : OpenClaim := { program := "ytomhnegfemdcdaa", sum := "bc46ade31fd0522d8775139ea7e3395074395c6345087c0f6cbb68a4a2f0cc93", func := "cordelle/cordellelaw20.QueuePlays", spec := "queuePlays", unfollowed := true, recurses := true, apart := false, narrowed := true }
def QueuePlaysUptoSaid : Prop := queuePlaysUptoRow.holds Try.pinned (OpenSpec.upto queuePlaysSpec)

/-- 'cordellelaw20.QueueClones', WHERE WHAT IT READS IS OF BULK AT MOST 1048576: true; the input reads as it did. -/
def queueClonesUptoRow : OpenClaim := { program := "ytomhnegfemdcdaa", sum := "bc46ade31fd0522d8775139ea7e3395074395c6345087c0f6cbb68a4a2f0cc93", func := "cordelle/cordellelaw20.QueueClones", spec := "queueClones", unfollowed := true, recurses := true, apart := false, narrowed := true }
def QueueClonesUptoSaid : Prop := queueClonesUptoRow.holds Try.pinned (OpenSpec.upto queueClonesSpec)

/-- 'cordelletop.CordellePaced', WHERE WHAT IT READS IS OF BULK AT MOST 1048576: true; the input reads as it did. -/
def cordellePacedUptoRow : OpenClaim := { program := "ytomhnegfemdcdaa", sum := "bc46ade31fd0522d8775139ea7e3395074395c6345087c0f6cbb68a4a2f0cc93", func := "cordelle/cordelletop.CordellePaced", spec := "cordellePaced", unfollowed := true, recurses := true, apart := false, narrowed := true }
def CordellePacedUptoSaid : Prop := cordellePacedUptoRow.holds Try.pinned (OpenSpec.upto cordellePacedSpec)

end Rows
end Go.Proofs.Ytomhnegfemdcdaa
