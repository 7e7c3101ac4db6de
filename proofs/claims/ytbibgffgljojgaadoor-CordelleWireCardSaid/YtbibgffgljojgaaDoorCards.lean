/-
  DERIVED. GIVEN WITH THE SEED: THE CARDS: each row of YtbibgffgljojgaaDoorRows.lean that lists a variable, with what it lists TIED to the program's text (the seventh form; the later family's looks); each row that meets fmt, with fmt's text TOLD by the authors' own Lean function (tested against real Go, not proved from fmt's source: count such statements apart). THE CARD IS WHAT COUNTS. Prove the row's statement (the work); the ties are given (YtbibgffgljojgaaDoorTie.lean); close each card by the builder's one call (the guide's Derived/Test/ToyasCard.lean, 'card_holds'). Laid BY PROGRAM, IN A SANDBOX (cutbox-door.mjs). By AI agents, Wed Nov 11 2026. No macro, syntax, notation, axiom, sorry.
-/
import Derived.Test.YtbibgffgljojgaaDoorRows
import GoSem.ClaimSeven
namespace Go.Proofs.YtbibgffgljojgaaDoor
namespace Rows

/-- THE TIED CARD OF 'cordelletop.CordelleWire'. -/
def cordelleWireCard : Claim7 := { stood := { row := cordelleWireRow, standIns := [], harness := (true, "2537f32bb06a5a39d81d1b990a2157d03552a098bf7c3ed1a6041c17b91e4c4b"), looks := false }, kinds := [], alts := [], laidByText := true, laidKinds := [.data, .pinned], laidTests := true, laidLooks := .later }
def CordelleWireCardSaid : Prop := Claim7.holds Tryd.pinned (.plain (OpenSpec.ofChange cordelleWireSpec)) cordelleWireCard

/-- THE SECOND FORM's CARD OF 'cordelletop.CordelleWire'. -/
def cordelleWireUptoCard : Claim7 := { stood := { row := cordelleWireUptoRow, standIns := [], harness := (true, "2537f32bb06a5a39d81d1b990a2157d03552a098bf7c3ed1a6041c17b91e4c4b"), looks := false }, kinds := [], alts := [], laidByText := true, laidKinds := [.data, .pinned], laidTests := true, laidLooks := .later }
def CordelleWireUptoCardSaid : Prop := Claim7.holds Tryd.pinned (.plain (OpenSpec.upto cordelleWireSpec)) cordelleWireUptoCard
end Rows
end Go.Proofs.YtbibgffgljojgaaDoor
