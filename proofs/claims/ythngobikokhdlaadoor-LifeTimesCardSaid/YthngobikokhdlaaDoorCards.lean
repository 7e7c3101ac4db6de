/-
  DERIVED. GIVEN WITH THE SEED: THE CARDS: each row of YthngobikokhdlaaDoorRows.lean that lists a variable, with what it lists TIED to the program's text (the seventh form; the later family's looks); each row that meets fmt, with fmt's text TOLD by the authors' own Lean function (tested against real Go, not proved from fmt's source: count such statements apart). THE CARD IS WHAT COUNTS. Prove the row's statement (the work); the ties are given (YthngobikokhdlaaDoorTie.lean); close each card by the builder's one call (the guide's Derived/Test/ToyasCard.lean, 'card_holds'). Laid BY PROGRAM, IN A SANDBOX (cutbox-door.mjs). By AI agents, Wed Nov 11 2026. No macro, syntax, notation, axiom, sorry.
-/
import Derived.Test.YthngobikokhdlaaDoorRows
import GoSem.ClaimSeven
namespace Go.Proofs.YthngobikokhdlaaDoor
namespace Rows

/-- THE TIED CARD OF 'cordellelaw17.LifeTimes'. -/
def lifeTimesCard : Claim7 := { stood := { row := lifeTimesRow, standIns := [], harness := (true, "fafb9f71bfc56b83288a0630944ec7a48c59c9f24d22d8799b2926eb1e2b8a75"), looks := false }, kinds := [], alts := [], laidByText := true, laidKinds := [.data, .data], laidTests := true, laidLooks := .later }
def LifeTimesCardSaid : Prop := Claim7.holds Tryd.pinned (.plain (OpenSpec.ofChange lifeTimesSpec)) lifeTimesCard

/-- THE TIED CARD OF 'cordellelaw17.LifeWeights'. -/
def lifeWeightsCard : Claim7 := { stood := { row := lifeWeightsRow, standIns := [], harness := (true, "fafb9f71bfc56b83288a0630944ec7a48c59c9f24d22d8799b2926eb1e2b8a75"), looks := false }, kinds := [], alts := [], laidByText := true, laidKinds := [.data, .data], laidTests := true, laidLooks := .later }
def LifeWeightsCardSaid : Prop := Claim7.holds Tryd.pinned (.plain (OpenSpec.ofChange lifeWeightsSpec)) lifeWeightsCard

/-- THE TIED CARD OF 'cordellelaw17.LifePlays'. -/
def lifePlaysCard : Claim7 := { stood := { row := lifePlaysRow, standIns := [], harness := (true, "fafb9f71bfc56b83288a0630944ec7a48c59c9f24d22d8799b2926eb1e2b8a75"), looks := false }, kinds := [], alts := [], laidByText := true, laidKinds := [.data, .data], laidTests := true, laidLooks := .later }
def LifePlaysCardSaid : Prop := Claim7.holds Tryd.pinned (.plain (OpenSpec.ofChange lifePlaysSpec)) lifePlaysCard

/-- THE TIED CARD OF 'cordelletop.CordelleHealth'. -/
def cordelleHealthCard : Claim7 := { stood := { row := cordelleHealthRow, standIns := [], harness := (true, "fafb9f71bfc56b83288a0630944ec7a48c59c9f24d22d8799b2926eb1e2b8a75"), looks := false }, kinds := [], alts := [], laidByText := true, laidKinds := [.data, .data], laidTests := true, laidLooks := .later }
def CordelleHealthCardSaid : Prop := Claim7.holds Tryd.pinned (.plain (OpenSpec.ofChange cordelleHealthSpec)) cordelleHealthCard

/-- THE SECOND FORM's CARD OF 'cordellelaw17.LifeTimes'. -/
def lifeTimesUptoCard : Claim7 := { stood := { row := lifeTimesUptoRow, standIns := [], harness := (true, "fafb9f71bfc56b83288a0630944ec7a48c59c9f24d22d8799b2926eb1e2b8a75"), looks := false }, kinds := [], alts := [], laidByText := true, laidKinds := [.data, .data], laidTests := true, laidLooks := .later }
def LifeTimesUptoCardSaid : Prop := Claim7.holds Tryd.pinned (.plain (OpenSpec.upto lifeTimesSpec)) lifeTimesUptoCard

/-- THE SECOND FORM's CARD OF 'cordellelaw17.LifeWeights'. -/
def lifeWeightsUptoCard : Claim7 := { stood := { row := lifeWeightsUptoRow, standIns := [], harness := (true, "fafb9f71bfc56b83288a0630944ec7a48c59c9f24d22d8799b2926eb1e2b8a75"), looks := false }, kinds := [], alts := [], laidByText := true, laidKinds := [.data, .data], laidTests := true, laidLooks := .later }
def LifeWeightsUptoCardSaid : Prop := Claim7.holds Tryd.pinned (.plain (OpenSpec.upto lifeWeightsSpec)) lifeWeightsUptoCard

/-- THE SECOND FORM's CARD OF 'cordellelaw17.LifePlays'. -/
def lifePlaysUptoCard : Claim7 := { stood := { row := lifePlaysUptoRow, standIns := [], harness := (true, "fafb9f71bfc56b83288a0630944ec7a48c59c9f24d22d8799b2926eb1e2b8a75"), looks := false }, kinds := [], alts := [], laidByText := true, laidKinds := [.data, .data], laidTests := true, laidLooks := .later }
def LifePlaysUptoCardSaid : Prop := Claim7.holds Tryd.pinned (.plain (OpenSpec.upto lifePlaysSpec)) lifePlaysUptoCard

/-- THE SECOND FORM's CARD OF 'cordelletop.CordelleHealth'. -/
def cordelleHealthUptoCard : Claim7 := { stood := { row := cordelleHealthUptoRow, standIns := [], harness := (true, "fafb9f71bfc56b83288a0630944ec7a48c59c9f24d22d8799b2926eb1e2b8a75"), looks := false }, kinds := [], alts := [], laidByText := true, laidKinds := [.data, .data], laidTests := true, laidLooks := .later }
def CordelleHealthUptoCardSaid : Prop := Claim7.holds Tryd.pinned (.plain (OpenSpec.upto cordelleHealthSpec)) cordelleHealthUptoCard
end Rows
end Go.Proofs.YthngobikokhdlaaDoor
