/-
  No cell of these rows narrows 'for every input' (looked for: loops, veiled, ifaces, maps, wideKeys, modest, calm, conditions, laid).
  DERIVED. THE GIVEN ROWS OF THIS SEAT. 6 by the template 'for every input the law returns true; each argument reads behind the call as it read before'; 0 by the template 'total and deterministic' (their statements: YtkopapiblihmmaaTotals.lean).
  GIVEN WITH THE SEED: the statements are not yours to turn. If you find one false, say at which input.
  Laid BY PROGRAM, IN A SANDBOX (cutbox-rows.mjs): the forced cells as the released guide's own fill.sh prints them over the translation d5fded15b33870b4… (all of the seat's roots in one cut). By AI agents, Wed Nov 11 2026. No macro, syntax, notation, axiom, sorry.
-/
import Derived.Test.YtkopapiblihmmaaChecked
import GoSem.Claim
import GoSem.ClaimJoined
import GoSem.ClaimMapViews
import Derived.JoinedTies
import Derived.KernelRfl
namespace Go.Proofs.Ytkopapiblihmmaa
/- THE CELL 'sum', in the pinned program and in every row, IS THE sha256 OF THE DUMP (.gsa) THAT YtkopapiblihmmaaProg.lean LOADS. Nothing in Lean hashes anything: it is a label: what it is worth is what the hold of that sum in a sandbox is worth. -/
noncomputable def Try.pinned : Pinned := { name := "ytkopapiblihmmaa", sum := "d5fded15b33870b435e0f0ea04f365142236ec7e6eff3ad480d848c0e81b06cf", checked := Try.checked }
namespace Rows
def none {H : Type} : Left H := { results := [], args := [] }

/-- 'cordellelaw02.CrcRems': WHATEVER THE INPUT: true; the input reads as it did. -/
def crcRemsSpec : ChangeSpec := { name := "crcRems", fn := fun _ => fun
  | [d] => { results := [.lit (.bool true)], args := [d] }
  | _ => none }
def crcRemsRow : OpenClaim := { program := "ytkopapiblihmmaa", sum := "d5fded15b33870b435e0f0ea04f365142236ec7e6eff3ad480d848c0e81b06cf", func := "cordelle/cordellelaw02.CrcRems", spec := "crcRems", apart := false }
def CrcRemsSaid : Prop := crcRemsRow.holds Try.pinned (OpenSpec.ofChange crcRemsSpec)

/-- ITS FALSE NEIGHBOUR: 'it returns false'. Refute it at one input. -/
def crcRemsWrong : ChangeSpec := { name := "crcRems", fn := fun _ => fun
  | [d] => { results := [.lit (.bool false)], args := [d] }
  | _ => none }
def CrcRemsWrongFalsely : Prop := crcRemsRow.holds Try.pinned (OpenSpec.ofChange crcRemsWrong)

/-- 'cordellelaw02.CrcSpans': WHATEVER THE INPUT: true; the input reads as it did. -/
def crcSpansSpec : ChangeSpec := { name := "crcSpans", fn := fun _ => fun
  | [d1, d2] => { results := [.lit (.bool true)], args := [d1, d2] }
  | _ => none }
def crcSpansRow : OpenClaim := { program := "ytkopapiblihmmaa", sum := "d5fded15b33870b435e0f0ea04f365142236ec7e6eff3ad480d848c0e81b06cf", func := "cordelle/cordellelaw02.CrcSpans", spec := "crcSpans", apart := false }
def CrcSpansSaid : Prop := crcSpansRow.holds Try.pinned (OpenSpec.ofChange crcSpansSpec)

/-- ITS FALSE NEIGHBOUR: 'it returns false'. Refute it at one input. -/
def crcSpansWrong : ChangeSpec := { name := "crcSpans", fn := fun _ => fun
  | [d1, d2] => { results := [.lit (.bool false)], args := [d1, d2] }
  | _ => none }
def CrcSpansWrongFalsely : Prop := crcSpansRow.holds Try.pinned (OpenSpec.ofChange crcSpansWrong)

/-- 'cordellelaw02.CrcLinear': WHATEVER THE INPUT: true; the input reads as it did. -/
def crcLinearSpec : ChangeSpec := { name := "crcLinear", fn := fun _ => fun
  | [d1, d2] => { results := [.lit (.bool true)], args := [d1, d2] }
  | _ => none }
def crcLinearRow : OpenClaim := { program := "ytkopapiblihmmaa", sum := "d5fded15b33870b435e0f0ea04f365142236ec7e6eff3ad480d848c0e81b06cf", func := "cordelle/cordellelaw02.CrcLinear", spec := "crcLinear", apart := false }
def CrcLinearSaid : Prop := crcLinearRow.holds Try.pinned (OpenSpec.ofChange crcLinearSpec)

/-- ITS FALSE NEIGHBOUR: 'it returns false'. Refute it at one input. -/
def crcLinearWrong : ChangeSpec := { name := "crcLinear", fn := fun _ => fun
  | [d1, d2] => { results := [.lit (.bool false)], args := [d1, d2] }
  | _ => none }
def CrcLinearWrongFalsely : Prop := crcLinearRow.holds Try.pinned (OpenSpec.ofChange crcLinearWrong)

/-- 'cordellelaw02.CrcTurnsBack': WHATEVER THE INPUT: true; the input reads as it did. -/
def crcTurnsBackSpec : ChangeSpec := { name := "crcTurnsBack", fn := fun _ => fun
  | [d1, d2, d3] => { results := [.lit (.bool true)], args := [d1, d2, d3] }
  | _ => none }
def crcTurnsBackRow : OpenClaim := { program := "ytkopapiblihmmaa", sum := "d5fded15b33870b435e0f0ea04f365142236ec7e6eff3ad480d848c0e81b06cf", func := "cordelle/cordellelaw02.CrcTurnsBack", spec := "crcTurnsBack", apart := false }
def CrcTurnsBackSaid : Prop := crcTurnsBackRow.holds Try.pinned (OpenSpec.ofChange crcTurnsBackSpec)

/-- ITS FALSE NEIGHBOUR: 'it returns false'. Refute it at one input. -/
def crcTurnsBackWrong : ChangeSpec := { name := "crcTurnsBack", fn := fun _ => fun
  | [d1, d2, d3] => { results := [.lit (.bool false)], args := [d1, d2, d3] }
  | _ => none }
def CrcTurnsBackWrongFalsely : Prop := crcTurnsBackRow.holds Try.pinned (OpenSpec.ofChange crcTurnsBackWrong)

/-- 'cordellelaw02.CrcSeals': WHATEVER THE INPUT: true; the input reads as it did. -/
def crcSealsSpec : ChangeSpec := { name := "crcSeals", fn := fun _ => fun
  | [d1, d2] => { results := [.lit (.bool true)], args := [d1, d2] }
  | _ => none }
def crcSealsRow : OpenClaim := { program := "ytkopapiblihmmaa", sum := "d5fded15b33870b435e0f0ea04f365142236ec7e6eff3ad480d848c0e81b06cf", func := "cordelle/cordellelaw02.CrcSeals", spec := "crcSeals", apart := false }
def CrcSealsSaid : Prop := crcSealsRow.holds Try.pinned (OpenSpec.ofChange crcSealsSpec)

/-- ITS FALSE NEIGHBOUR: 'it returns false'. Refute it at one input. -/
def crcSealsWrong : ChangeSpec := { name := "crcSeals", fn := fun _ => fun
  | [d1, d2] => { results := [.lit (.bool false)], args := [d1, d2] }
  | _ => none }
def CrcSealsWrongFalsely : Prop := crcSealsRow.holds Try.pinned (OpenSpec.ofChange crcSealsWrong)

/-- 'cordellelaw02.CrcBursts': WHATEVER THE INPUT: true; the input reads as it did. -/
def crcBurstsSpec : ChangeSpec := { name := "crcBursts", fn := fun _ => fun
  | [d] => { results := [.lit (.bool true)], args := [d] }
  | _ => none }
def crcBurstsRow : OpenClaim := { program := "ytkopapiblihmmaa", sum := "d5fded15b33870b435e0f0ea04f365142236ec7e6eff3ad480d848c0e81b06cf", func := "cordelle/cordellelaw02.CrcBursts", spec := "crcBursts", apart := false }
def CrcBurstsSaid : Prop := crcBurstsRow.holds Try.pinned (OpenSpec.ofChange crcBurstsSpec)

/-- ITS FALSE NEIGHBOUR: 'it returns false'. Refute it at one input. -/
def crcBurstsWrong : ChangeSpec := { name := "crcBursts", fn := fun _ => fun
  | [d] => { results := [.lit (.bool false)], args := [d] }
  | _ => none }
def CrcBurstsWrongFalsely : Prop := crcBurstsRow.holds Try.pinned (OpenSpec.ofChange crcBurstsWrong)

/- THE SECOND FORM. 'bulk': how many values and letters a reading holds, each counted each time it is reached (what is shared counts as often as it is met; a slice's spare places count too). A statement '..UptoSaid' is the law's where the arguments, and the package variables that the reading takes, are together of bulk at most 1048576: NARROWER than '..Said'. Prove '..Said' where nothing that the law and all that it calls make is longer than what came in: it says more and counts as full. Else prove '..UptoSaid'. A law counts once. -/
mutual
def uptoBulk {H : Type} : DataW H → Nat
  | .lit (.string bytes) => bytes.length + 1
  | .lit _ => 1
  | .nil => 1
  | .ptr d => uptoBulk d + 1
  | .slice elems spare => uptoBulkAll elems + uptoBulkAll spare + 1
  | .agg parts => uptoBulkAll parts + 1
  | .iface _ d => uptoBulk d + 1
  | .map entries => uptoBulkEntries entries + 1
  | .held _ => 1
def uptoBulkAll {H : Type} : List (DataW H) → Nat
  | [] => 0
  | d :: r => uptoBulk d + uptoBulkAll r
def uptoBulkEntries {H : Type} : List (Lit × DataW H) → Nat
  | [] => 0
  | x :: r => uptoBulkEntry x + uptoBulkEntries r
def uptoBulkEntry {H : Type} : Lit × DataW H → Nat
  | (.string bytes, d) => bytes.length + uptoBulk d + 1
  | (_, d) => uptoBulk d + 1
 end
def uptoSmall : (H : Type) → List (DataW H) → Bool := fun _ ds => decide (uptoBulkAll ds ≤ 1048576)
def OpenSpec.upto (s : _root_.Go.ChangeSpec) : _root_.Go.OpenSpec := { _root_.Go.OpenSpec.ofChange s with cond := some uptoSmall }

/-- 'cordellelaw02.CrcRems', WHERE WHAT IT READS IS OF BULK AT MOST 1048576: true; the input reads as it did. -/
def crcRemsUptoRow : OpenClaim := { program := "ytkopapiblihmmaa", sum := "d5fded15b33870b435e0f0ea04f365142236ec7e6eff3ad480d848c0e81b06cf", func := "cordelle/cordellelaw02.CrcRems", spec := "crcRems", apart := false, narrowed := true }
def CrcRemsUptoSaid : Prop := crcRemsUptoRow.holds Try.pinned (OpenSpec.upto crcRemsSpec)

/-- 'cordellelaw02.CrcSpans', WHERE WHAT IT READS IS OF BULK AT MOST 1048576: true; the input reads as it did. -/
def crcSpansUptoRow : OpenClaim := { program := "ytkopapiblihmmaa", sum := "d5fded15b33870b435e0f0ea04f365142236ec7e6eff3ad480d848c0e81b06cf", func := "cordelle/cordellelaw02.CrcSpans", spec := "crcSpans", apart := false, narrowed := true }
def CrcSpansUptoSaid : Prop := crcSpansUptoRow.holds Try.pinned (OpenSpec.upto crcSpansSpec)

/-- 'cordellelaw02.CrcLinear', WHERE WHAT IT READS IS OF BULK AT MOST 1048576: true; the input reads as it did. -/
def crcLinearUptoRow : OpenClaim := { program := "ytkopapiblihmmaa", sum := "d5fded15b33870b435e0f0ea04f365142236ec7e6eff3ad480d848c0e81b06cf", func := "cordelle/cordellelaw02.CrcLinear", spec := "crcLinear", apart := false, narrowed := true }
def CrcLinearUptoSaid : Prop := crcLinearUptoRow.holds Try.pinned (OpenSpec.upto crcLinearSpec)

/-- 'cordellelaw02.CrcTurnsBack', WHERE WHAT IT READS IS OF BULK AT MOST 1048576: true; the input reads as it did. -/
def crcTurnsBackUptoRow : OpenClaim := { program := "ytkopapiblihmmaa", sum := "d5fded15b33870b435e0f0ea04f365142236ec7e6eff3ad480d848c0e81b06cf", func := "cordelle/cordellelaw02.CrcTurnsBack", spec := "crcTurnsBack", apart := false, narrowed := true }
def CrcTurnsBackUptoSaid : Prop := crcTurnsBackUptoRow.holds Try.pinned (OpenSpec.upto crcTurnsBackSpec)

/-- 'cordellelaw02.CrcSeals', WHERE WHAT IT READS IS OF BULK AT MOST 1048576: true; the input reads as it did. -/
def crcSealsUptoRow : OpenClaim := { program := "ytkopapiblihmmaa", sum := "d5fded15b33870b435e0f0ea04f365142236ec7e6eff3ad480d848c0e81b06cf", func := "cordelle/cordellelaw02.CrcSeals", spec := "crcSeals", apart := false, narrowed := true }
def CrcSealsUptoSaid : Prop := crcSealsUptoRow.holds Try.pinned (OpenSpec.upto crcSealsSpec)

/-- 'cordellelaw02.CrcBursts', WHERE WHAT IT READS IS OF BULK AT MOST 1048576: true; the input reads as it did. -/
def crcBurstsUptoRow : OpenClaim := { program := "ytkopapiblihmmaa", sum := "d5fded15b33870b435e0f0ea04f365142236ec7e6eff3ad480d848c0e81b06cf", func := "cordelle/cordellelaw02.CrcBursts", spec := "crcBursts", apart := false, narrowed := true }
def CrcBurstsUptoSaid : Prop := crcBurstsUptoRow.holds Try.pinned (OpenSpec.upto crcBurstsSpec)

end Rows
end Go.Proofs.Ytkopapiblihmmaa
