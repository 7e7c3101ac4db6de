/-
  No cell of these rows narrows 'for every input' (looked for: loops, veiled, ifaces, maps, wideKeys, modest, calm, conditions, laid).
  DERIVED. THE GIVEN ROWS OF THIS SEAT. 9 by the template 'for every input the law returns true; each argument reads behind the call as it read before'; 0 by the template 'total and deterministic' (their statements: YtonamlgipoannaaTotals.lean).
  GIVEN WITH THE SEED: the statements are not yours to turn. If you find one false, say at which input.
  Laid BY PROGRAM, IN A SANDBOX (cutbox-rows.mjs): the forced cells as the released guide's own fill.sh prints them over the translation 82e0740c796f6164… (all of the seat's roots in one cut). By AI agents, Wed Nov 11 2026. No macro, syntax, notation, axiom, sorry.
-/
import Derived.Test.YtonamlgipoannaaChecked
import GoSem.Claim
import GoSem.ClaimJoined
import GoSem.ClaimMapViews
import Derived.JoinedTies
import Derived.KernelRfl
namespace Go.Proofs.Ytonamlgipoannaa
/- THE CELL 'sum', in the pinned program and in every row, IS THE sha256 OF THE DUMP (.gsa) THAT YtonamlgipoannaaProg.lean LOADS. Nothing in Lean hashes anything: it is a label: what it is worth is what the hold of that sum in a sandbox is worth. -/
noncomputable def Try.pinned : Pinned := { name := "ytonamlgipoannaa", sum := "82e0740c796f6164f73d79e907529ca4d64201999424cf6545226e085a76af01", checked := Try.checked }
namespace Rows
def none {H : Type} : Left H := { results := [], args := [] }

/-- 'cordellelaw21.HistoryTries': WHATEVER THE INPUT: true; the input reads as it did. -/
def historyTriesSpec : ChangeSpec := { name := "historyTries", fn := fun _ => fun
  | [d1, d2] => { results := [.lit (.bool true)], args := [d1, d2] }
  | _ => none }
def historyTriesRow : OpenClaim := { program := "ytonamlgipoannaa", sum := "82e0740c796f6164f73d79e907529ca4d64201999424cf6545226e085a76af01", func := "cordelle/cordellelaw21.HistoryTries", spec := "historyTries", unfollowed := true, recurses := true, apart := false }
def HistoryTriesSaid : Prop := historyTriesRow.holds Try.pinned (OpenSpec.ofChange historyTriesSpec)

/-- ITS FALSE NEIGHBOUR: 'it returns false'. Refute it at one input. -/
def historyTriesWrong : ChangeSpec := { name := "historyTries", fn := fun _ => fun
  | [d1, d2] => { results := [.lit (.bool false)], args := [d1, d2] }
  | _ => none }
def HistoryTriesWrongFalsely : Prop := historyTriesRow.holds Try.pinned (OpenSpec.ofChange historyTriesWrong)

/-- 'cordellelaw21.HistoryNewest': WHATEVER THE INPUT: true; the input reads as it did. -/
def historyNewestSpec : ChangeSpec := { name := "historyNewest", fn := fun _ => fun
  | [d1, d2, d3] => { results := [.lit (.bool true)], args := [d1, d2, d3] }
  | _ => none }
def historyNewestRow : OpenClaim := { program := "ytonamlgipoannaa", sum := "82e0740c796f6164f73d79e907529ca4d64201999424cf6545226e085a76af01", func := "cordelle/cordellelaw21.HistoryNewest", spec := "historyNewest", unfollowed := true, recurses := true, apart := false }
def HistoryNewestSaid : Prop := historyNewestRow.holds Try.pinned (OpenSpec.ofChange historyNewestSpec)

/-- ITS FALSE NEIGHBOUR: 'it returns false'. Refute it at one input. -/
def historyNewestWrong : ChangeSpec := { name := "historyNewest", fn := fun _ => fun
  | [d1, d2, d3] => { results := [.lit (.bool false)], args := [d1, d2, d3] }
  | _ => none }
def HistoryNewestWrongFalsely : Prop := historyNewestRow.holds Try.pinned (OpenSpec.ofChange historyNewestWrong)

/-- 'cordellelaw21.HistoryPlays': WHATEVER THE INPUT: true; the input reads as it did. -/
def historyPlaysSpec : ChangeSpec := { name := "historyPlays", fn := fun _ => fun
  | [d1, d2, d3] => { results := [.lit (.bool true)], args := [d1, d2, d3] }
  | _ => none }
def historyPlaysRow : OpenClaim := { program := "ytonamlgipoannaa", sum := "82e0740c796f6164f73d79e907529ca4d64201999424cf6545226e085a76af01", func := "cordelle/cordellelaw21.HistoryPlays", spec := "historyPlays", unfollowed := true, recurses := true, apart := false }
def HistoryPlaysSaid : Prop := historyPlaysRow.holds Try.pinned (OpenSpec.ofChange historyPlaysSpec)

/-- ITS FALSE NEIGHBOUR: 'it returns false'. Refute it at one input. -/
def historyPlaysWrong : ChangeSpec := { name := "historyPlays", fn := fun _ => fun
  | [d1, d2, d3] => { results := [.lit (.bool false)], args := [d1, d2, d3] }
  | _ => none }
def HistoryPlaysWrongFalsely : Prop := historyPlaysRow.holds Try.pinned (OpenSpec.ofChange historyPlaysWrong)

/-- 'cordellelaw21.HistoryClones': WHATEVER THE INPUT: true; the input reads as it did. -/
def historyClonesSpec : ChangeSpec := { name := "historyClones", fn := fun _ => fun
  | [d1, d2] => { results := [.lit (.bool true)], args := [d1, d2] }
  | _ => none }
def historyClonesRow : OpenClaim := { program := "ytonamlgipoannaa", sum := "82e0740c796f6164f73d79e907529ca4d64201999424cf6545226e085a76af01", func := "cordelle/cordellelaw21.HistoryClones", spec := "historyClones", unfollowed := true, recurses := true, apart := false }
def HistoryClonesSaid : Prop := historyClonesRow.holds Try.pinned (OpenSpec.ofChange historyClonesSpec)

/-- ITS FALSE NEIGHBOUR: 'it returns false'. Refute it at one input. -/
def historyClonesWrong : ChangeSpec := { name := "historyClones", fn := fun _ => fun
  | [d1, d2] => { results := [.lit (.bool false)], args := [d1, d2] }
  | _ => none }
def HistoryClonesWrongFalsely : Prop := historyClonesRow.holds Try.pinned (OpenSpec.ofChange historyClonesWrong)

/-- 'cordellelaw22.GapsOften': WHATEVER THE INPUT: true; the input reads as it did. -/
def gapsOftenSpec : ChangeSpec := { name := "gapsOften", fn := fun _ => fun
  | [d1, d2] => { results := [.lit (.bool true)], args := [d1, d2] }
  | _ => none }
def gapsOftenRow : OpenClaim := { program := "ytonamlgipoannaa", sum := "82e0740c796f6164f73d79e907529ca4d64201999424cf6545226e085a76af01", func := "cordelle/cordellelaw22.GapsOften", spec := "gapsOften", unfollowed := true, recurses := true, apart := false }
def GapsOftenSaid : Prop := gapsOftenRow.holds Try.pinned (OpenSpec.ofChange gapsOftenSpec)

/-- ITS FALSE NEIGHBOUR: 'it returns false'. Refute it at one input. -/
def gapsOftenWrong : ChangeSpec := { name := "gapsOften", fn := fun _ => fun
  | [d1, d2] => { results := [.lit (.bool false)], args := [d1, d2] }
  | _ => none }
def GapsOftenWrongFalsely : Prop := gapsOftenRow.holds Try.pinned (OpenSpec.ofChange gapsOftenWrong)

/-- 'cordellelaw22.GapsClose': WHATEVER THE INPUT: true; the input reads as it did. -/
def gapsCloseSpec : ChangeSpec := { name := "gapsClose", fn := fun _ => fun
  | [d1, d2] => { results := [.lit (.bool true)], args := [d1, d2] }
  | _ => none }
def gapsCloseRow : OpenClaim := { program := "ytonamlgipoannaa", sum := "82e0740c796f6164f73d79e907529ca4d64201999424cf6545226e085a76af01", func := "cordelle/cordellelaw22.GapsClose", spec := "gapsClose", unfollowed := true, recurses := true, apart := false }
def GapsCloseSaid : Prop := gapsCloseRow.holds Try.pinned (OpenSpec.ofChange gapsCloseSpec)

/-- ITS FALSE NEIGHBOUR: 'it returns false'. Refute it at one input. -/
def gapsCloseWrong : ChangeSpec := { name := "gapsClose", fn := fun _ => fun
  | [d1, d2] => { results := [.lit (.bool false)], args := [d1, d2] }
  | _ => none }
def GapsCloseWrongFalsely : Prop := gapsCloseRow.holds Try.pinned (OpenSpec.ofChange gapsCloseWrong)

/-- 'cordellelaw22.GapsPlay': WHATEVER THE INPUT: true; the input reads as it did. -/
def gapsPlaySpec : ChangeSpec := { name := "gapsPlay", fn := fun _ => fun
  | [d1, d2, d3] => { results := [.lit (.bool true)], args := [d1, d2, d3] }
  | _ => none }
def gapsPlayRow : OpenClaim := { program := "ytonamlgipoannaa", sum := "82e0740c796f6164f73d79e907529ca4d64201999424cf6545226e085a76af01", func := "cordelle/cordellelaw22.GapsPlay", spec := "gapsPlay", unfollowed := true, recurses := true, apart := false }
def GapsPlaySaid : Prop := gapsPlayRow.holds Try.pinned (OpenSpec.ofChange gapsPlaySpec)

/-- ITS FALSE NEIGHBOUR: 'it returns false'. Refute it at one input. -/
def gapsPlayWrong : ChangeSpec := { name := "gapsPlay", fn := fun _ => fun
  | [d1, d2, d3] => { results := [.lit (.bool false)], args := [d1, d2, d3] }
  | _ => none }
def GapsPlayWrongFalsely : Prop := gapsPlayRow.holds Try.pinned (OpenSpec.ofChange gapsPlayWrong)

/-- 'cordellelaw22.GapsClone': WHATEVER THE INPUT: true; the input reads as it did. -/
def gapsCloneSpec : ChangeSpec := { name := "gapsClone", fn := fun _ => fun
  | [d1, d2] => { results := [.lit (.bool true)], args := [d1, d2] }
  | _ => none }
def gapsCloneRow : OpenClaim := { program := "ytonamlgipoannaa", sum := "82e0740c796f6164f73d79e907529ca4d64201999424cf6545226e085a76af01", func := "cordelle/cordellelaw22.GapsClone", spec := "gapsClone", unfollowed := true, recurses := true, apart := false }
def GapsCloneSaid : Prop := gapsCloneRow.holds Try.pinned (OpenSpec.ofChange gapsCloneSpec)

/-- ITS FALSE NEIGHBOUR: 'it returns false'. Refute it at one input. -/
def gapsCloneWrong : ChangeSpec := { name := "gapsClone", fn := fun _ => fun
  | [d1, d2] => { results := [.lit (.bool false)], args := [d1, d2] }
  | _ => none }
def GapsCloneWrongFalsely : Prop := gapsCloneRow.holds Try.pinned (OpenSpec.ofChange gapsCloneWrong)

/-- 'cordelletop.CordelleAsked': WHATEVER THE INPUT: true; the input reads as it did. -/
def cordelleAskedSpec : ChangeSpec := { name := "cordelleAsked", fn := fun _ => fun
  | [d1, d2] => { results := [.lit (.bool true)], args := [d1, d2] }
  | _ => none }
def cordelleAskedRow : OpenClaim := { program := "ytonamlgipoannaa", sum := "82e0740c796f6164f73d79e907529ca4d64201999424cf6545226e085a76af01", func := "cordelle/cordelletop.CordelleAsked", spec := "cordelleAsked", unfollowed := true, recurses := true, apart := false }
def CordelleAskedSaid : Prop := cordelleAskedRow.holds Try.pinned (OpenSpec.ofChange cordelleAskedSpec)

/-- ITS FALSE NEIGHBOUR: 'it returns false'. Refute it at one input. -/
def cordelleAskedWrong : ChangeSpec := { name := "cordelleAsked", fn := fun _ => fun
  | [d1, d2] => { results := [.lit (.bool false)], args := [d1, d2] }
  | _ => none }
def CordelleAskedWrongFalsely : Prop := cordelleAskedRow.holds Try.pinned (OpenSpec.ofChange cordelleAskedWrong)

/- THE SECOND FORM. 'bulk': how many values and letters a reading holds, each counted each time it is reached (what is shared counts as often as it is met; a slice's spare places count too). A statement '..UptoSaid' is the law's where the arguments, and the package variables that the reading takes, are together of bulk at most 1048576: NARROWER than '..Said'. Prove '..Said' where nothing that the law and all that it calls make is longer than what came in: it says more and counts as full. Else prove '..UptoSaid'. A law counts once. -/
mutual
def uptoBulk {H : Type} : DataW H → Nat
  | .lit (.string bytes) => bytes.length + 1
  | .lit _ => 1
  | .nil => 1
  | .ptr d => uptoBulk d + 1
  | .slice elems spare => uptoBulkAll elems + uptoBulkAll spare + 1
  | .agg parts => uptoBulkAll parts + 1
  | .iface _ d => uptoBulk d + 1
  | .map entries => uptoBulkEntries entries + 1
  | .held _ => 1
def uptoBulkAll {H : Type} : List (DataW H) → Nat
  | [] => 0
  | d :: r => uptoBulk d + uptoBulkAll r
def uptoBulkEntries {H : Type} : List (Lit × DataW H) → Nat
  | [] => 0
  | x :: r => uptoBulkEntry x + uptoBulkEntries r
def uptoBulkEntry {H : Type} : Lit × DataW H → Nat
  | (.string bytes, d) => bytes.length + uptoBulk d + 1
  | (_, d) => uptoBulk d + 1
 end
def uptoSmall : (H : Type) → List (DataW H) → Bool := fun _ ds => decide (uptoBulkAll ds ≤ 1048576)
def OpenSpec.upto (s : _root_.Go.ChangeSpec) : _root_.Go.OpenSpec := { _root_.Go.OpenSpec.ofChange s with cond := some uptoSmall }

/-- 'cordellelaw21.HistoryTries', WHERE WHAT IT READS IS OF BULK AT MOST 1048576: true; the input reads as it did. -/
def historyTriesUptoRow : OpenClaim := { program := "ytonamlgipoannaa", sum := "82e0740c796f6164f73d79e907529ca4d64201999424cf6545226e085a76af01", func := "cordelle/cordellelaw21.HistoryTries", spec := "historyTries", unfollowed := true, recurses := true, apart := false, narrowed := true }
def HistoryTriesUptoSaid : Prop := historyTriesUptoRow.holds Try.pinned (OpenSpec.upto historyTriesSpec)

/-- 'cordellelaw21.HistoryNewest', WHERE WHAT IT READS IS OF BULK AT MOST 1048576: true; the input reads as it did. -/
def historyNewestUptoRow : OpenClaim := { program := "ytonamlgipoannaa", sum := "82e0740c796f6164f73d79e907529ca4d64201999424cf6545226e085a76af01", func := "cordelle/cordellelaw21.HistoryNewest", spec := "historyNewest", unfollowed := true, recurses := true, apart := false, narrowed := true }
def HistoryNewestUptoSaid : Prop := historyNewestUptoRow.holds Try.pinned (OpenSpec.upto historyNewestSpec)

/-- 'cordellelaw21.HistoryPlays', WHERE WHAT IT READS IS OF BULK AT MOST 1048576: true; the input reads as it did. -/
def historyPlaysUptoRow : OpenClaim := { program := "ytonamlgipoannaa", sum := "82e0740c796f6164f73d79e907529ca4d64201999424cf6545226e085a76af01", func := "cordelle/cordellelaw21.HistoryPlays", spec := "historyPlays", unfollowed := true, recurses := true, apart := false, narrowed := true }
def HistoryPlaysUptoSaid : Prop := historyPlaysUptoRow.holds Try.pinned (OpenSpec.upto historyPlaysSpec)

/-- 'cordellelaw21.HistoryClones', WHERE WHAT IT READS IS OF BULK AT MOST 1048576: true; the input reads as it did. -/
def historyClonesUptoRow : OpenClaim := { program := "ytonamlgipoannaa", sum := "82e0740c796f6164f73d79e907529ca4d64201999424cf6545226e085a76af01", func := "cordelle/cordellelaw21.HistoryClones", spec := "historyClones", unfollowed := true, recurses := true, apart := false, narrowed := true }
def HistoryClonesUptoSaid : Prop := historyClonesUptoRow.holds Try.pinned (OpenSpec.upto historyClonesSpec)

/-- 'cordellelaw22.GapsOften', WHERE WHAT IT READS IS OF BULK AT MOST 1048576: true; the input reads as it did. -/
def gapsOftenUptoRow : OpenClaim := { program := "ytonamlgipoannaa", sum := "82e0740c796f6164f73d79e907529ca4d64201999424cf6545226e085a76af01", func := "cordelle/cordellelaw22.GapsOften", spec := "gapsOften", unfollowed := true, recurses := true, apart := false, narrowed := true }
def GapsOftenUptoSaid : Prop := gapsOftenUptoRow.holds Try.pinned (OpenSpec.upto gapsOftenSpec)

/-- 'cordellelaw22.GapsClose', WHERE WHAT IT READS IS OF BULK AT MOST 1048576: true; the input reads as it did. -/
def gapsCloseUptoRow : OpenClaim := { program := "ytonamlgipoannaa", sum := "82e0740c796f6164f73d79e907529ca4d64201999424cf6545226e085a76af01", func := "cordelle/cordellelaw22.GapsClose", spec := "gapsClose", unfollowed := true, recurses := true, apart := false, narrowed := true }
def GapsCloseUptoSaid : Prop := gapsCloseUptoRow.holds Try.pinned (OpenSpec.upto gapsCloseSpec)

/-- 'cordellelaw22.GapsPlay', WHERE WHAT IT READS IS OF BULK AT MOST 1048576: true; the input reads as it did. -/
def gapsPlayUptoRow : OpenClaim := { program := "ytonamlgipoannaa", sum := "82e0740c796f6164f73d79e907529ca4d64201999424cf6545226e085a76af01", func := "cordelle/cordellelaw22.GapsPlay", spec := "gapsPlay", unfollowed := true, recurses := true, apart := false, narrowed := true }
def GapsPlayUptoSaid : Prop := gapsPlayUptoRow.holds Try.pinned (OpenSpec.upto gapsPlaySpec)

/-- 'cordellelaw22.GapsClone', WHERE WHAT IT READS IS OF BULK AT MOST 1048576: true; the input reads as it did. -/
def gapsCloneUptoRow : OpenClaim := { program := "ytonamlgipoannaa", sum := "82e0740c796f6164f73d79e907529ca4d64201999424cf6545226e085a76af01", func := "cordelle/cordellelaw22.GapsClone", spec := "gapsClone", unfollowed := true, recurses := true, apart := false, narrowed := true }
def GapsCloneUptoSaid : Prop := gapsCloneUptoRow.holds Try.pinned (OpenSpec.upto gapsCloneSpec)

/-- 'cordelletop.CordelleAsked', WHERE WHAT IT READS IS OF BULK AT MOST 1048576: true; the input reads as it did. -/
def cordelleAskedUptoRow : OpenClaim := { program := "ytonamlgipoannaa", sum := "82e0740c796f6164f73d79e907529ca4d64201999424cf6545226e085a76af01", func := "cordelle/cordelletop.CordelleAsked", spec := "cordelleAsked", unfollowed := true, recurses := true, apart := false, narrowed := true }
def CordelleAskedUptoSaid : Prop := cordelleAskedUptoRow.holds Try.pinned (OpenSpec.upto cordelleAskedSpec)

end Rows
end Go.Proofs.Ytonamlgipoannaa
