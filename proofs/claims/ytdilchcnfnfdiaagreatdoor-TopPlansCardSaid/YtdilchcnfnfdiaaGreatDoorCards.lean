/-
  DERIVED. GIVEN WITH THE SEED: THE CARDS: each row of YtdilchcnfnfdiaaGreatDoorRows.lean that lists a variable, with what it lists TIED to the program's text (the seventh form; the later family's looks); each row that meets fmt, with fmt's text TOLD by the authors' own Lean function (tested against real Go, not proved from fmt's source: count such statements apart). THE CARD IS WHAT COUNTS. Prove the row's statement (the work); the ties are given (YtdilchcnfnfdiaaGreatDoorTie.lean); close each card by the builder's one call (the guide's Derived/Test/ToyasCard.lean, 'card_holds'). Laid BY PROGRAM, IN A SANDBOX (cutbox-door.mjs). By AI agents, Wed Nov 11 2026. No macro, syntax, notation, axiom, sorry.
-/
import Derived.Test.YtdilchcnfnfdiaaGreatDoorRows
import GoSem.ClaimSeven
namespace Go.Proofs.YtdilchcnfnfdiaaGreatDoor
namespace Rows

/-- THE TIED CARD OF 'revetmenttop.TopNumbers'. -/
def topNumbersCard : Claim7 := { stood := { row := topNumbersRow, standIns := [], harness := (true, "9df73248f30503c0eef29e3df7d8f8ce29c6b877965c68829fe3ca030f16f013"), looks := false }, kinds := [], alts := [], laidByText := true, laidKinds := [.data], laidTests := true, laidLooks := .later }
def TopNumbersCardSaid : Prop := Claim7.holds Tryz.pinned (.plain (OpenSpec.ofChange topNumbersSpec)) topNumbersCard

/-- THE TIED CARD OF 'revetmenttop.TopSuper'. -/
def topSuperCard : Claim7 := { stood := { row := topSuperRow, standIns := [], harness := (true, "9df73248f30503c0eef29e3df7d8f8ce29c6b877965c68829fe3ca030f16f013"), looks := false }, kinds := [], alts := [], laidByText := true, laidKinds := [.data], laidTests := true, laidLooks := .later }
def TopSuperCardSaid : Prop := Claim7.holds Tryz.pinned (.plain (OpenSpec.ofChange topSuperSpec)) topSuperCard

/-- THE TIED CARD OF 'revetmenttop.TopWanted'. -/
def topWantedCard : Claim7 := { stood := { row := topWantedRow, standIns := [], harness := (true, "9df73248f30503c0eef29e3df7d8f8ce29c6b877965c68829fe3ca030f16f013"), looks := false }, kinds := [], alts := [], laidByText := true, laidKinds := [.data], laidTests := true, laidLooks := .later }
def TopWantedCardSaid : Prop := Claim7.holds Tryz.pinned (.plain (OpenSpec.ofChange topWantedSpec)) topWantedCard

/-- THE TIED CARD OF 'revetmenttop.TopPlans'. -/
def topPlansCard : Claim7 := { stood := { row := topPlansRow, standIns := [], harness := (true, "9df73248f30503c0eef29e3df7d8f8ce29c6b877965c68829fe3ca030f16f013"), looks := false }, kinds := [], alts := [], laidByText := true, laidKinds := [.data], laidTests := true, laidLooks := .later }
def TopPlansCardSaid : Prop := Claim7.holds Tryz.pinned (.plain (OpenSpec.ofChange topPlansSpec)) topPlansCard

/-- THE SECOND FORM's CARD OF 'revetmenttop.TopNumbers'. -/
def topNumbersUptoCard : Claim7 := { stood := { row := topNumbersUptoRow, standIns := [], harness := (true, "9df73248f30503c0eef29e3df7d8f8ce29c6b877965c68829fe3ca030f16f013"), looks := false }, kinds := [], alts := [], laidByText := true, laidKinds := [.data], laidTests := true, laidLooks := .later }
def TopNumbersUptoCardSaid : Prop := Claim7.holds Tryz.pinned (.plain (OpenSpec.upto topNumbersSpec)) topNumbersUptoCard

/-- THE SECOND FORM's CARD OF 'revetmenttop.TopSuper'. -/
def topSuperUptoCard : Claim7 := { stood := { row := topSuperUptoRow, standIns := [], harness := (true, "9df73248f30503c0eef29e3df7d8f8ce29c6b877965c68829fe3ca030f16f013"), looks := false }, kinds := [], alts := [], laidByText := true, laidKinds := [.data], laidTests := true, laidLooks := .later }
def TopSuperUptoCardSaid : Prop := Claim7.holds Tryz.pinned (.plain (OpenSpec.upto topSuperSpec)) topSuperUptoCard

/-- THE SECOND FORM's CARD OF 'revetmenttop.TopWanted'. -/
def topWantedUptoCard : Claim7 := { stood := { row := topWantedUptoRow, standIns := [], harness := (true, "9df73248f30503c0eef29e3df7d8f8ce29c6b877965c68829fe3ca030f16f013"), looks := false }, kinds := [], alts := [], laidByText := true, laidKinds := [.data], laidTests := true, laidLooks := .later }
def TopWantedUptoCardSaid : Prop := Claim7.holds Tryz.pinned (.plain (OpenSpec.upto topWantedSpec)) topWantedUptoCard

/-- THE SECOND FORM's CARD OF 'revetmenttop.TopPlans'. -/
def topPlansUptoCard : Claim7 := { stood := { row := topPlansUptoRow, standIns := [], harness := (true, "9df73248f30503c0eef29e3df7d8f8ce29c6b877965c68829fe3ca030f16f013"), looks := false }, kinds := [], alts := [], laidByText := true, laidKinds := [.data], laidTests := true, laidLooks := .later }
def TopPlansUptoCardSaid : Prop := Claim7.holds Tryz.pinned (.plain (OpenSpec.upto topPlansSpec)) topPlansUptoCard
end Rows
end Go.Proofs.YtdilchcnfnfdiaaGreatDoor
