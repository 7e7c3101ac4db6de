/-
  DERIVED. GIVEN WITH THE SEED: THE CARDS: each row of YtfoefkoneekolaaDoorRows.lean that lists a variable, with what it lists TIED to the program's text (the seventh form; the later family's looks); each row that meets fmt, with fmt's text TOLD by the authors' own Lean function (tested against real Go, not proved from fmt's source: count such statements apart). THE CARD IS WHAT COUNTS. Prove the row's statement (the work); the ties are given (YtfoefkoneekolaaDoorTie.lean); close each card by the builder's one call (the guide's Derived/Test/ToyasCard.lean, 'card_holds'). Laid BY PROGRAM, IN A SANDBOX (cutbox-door.mjs). By AI agents, Wed Nov 11 2026. No macro, syntax, notation, axiom, sorry.
-/
import Derived.Test.YtfoefkoneekolaaDoorRows
import GoSem.ClaimSeven
namespace Go.Proofs.YtfoefkoneekolaaDoor
namespace Rows

/-- THE TIED CARD OF 'cordelletop.CordelleHealth'. -/
def cordelleHealthCard : Claim7 := { stood := { row := cordelleHealthRow, standIns := [], harness := (true, "0c7263b984a69400aaf66a79b96865ad219881d99bb32ee58b7d43224739d913"), looks := false }, kinds := [], alts := [], laidByText := true, laidKinds := [.data, .data], laidTests := true, laidLooks := .later }
def CordelleHealthCardSaid : Prop := Claim7.holds Tryd.pinned (.plain (OpenSpec.ofChange cordelleHealthSpec)) cordelleHealthCard

/-- THE SECOND FORM's CARD OF 'cordelletop.CordelleHealth'. -/
def cordelleHealthUptoCard : Claim7 := { stood := { row := cordelleHealthUptoRow, standIns := [], harness := (true, "0c7263b984a69400aaf66a79b96865ad219881d99bb32ee58b7d43224739d913"), looks := false }, kinds := [], alts := [], laidByText := true, laidKinds := [.data, .data], laidTests := true, laidLooks := .later }
def CordelleHealthUptoCardSaid : Prop := Claim7.holds Tryd.pinned (.plain (OpenSpec.upto cordelleHealthSpec)) cordelleHealthUptoCard
end Rows
end Go.Proofs.YtfoefkoneekolaaDoor
