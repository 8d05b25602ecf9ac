/-
  DERIVED. GIVEN WITH THE SEED: THE CARDS: each row of YtabjknljcmcmfaaDoorRows.lean that lists a variable, with what it lists TIED to the program's text (the seventh form; the later family's looks); each row that meets fmt, with fmt's text TOLD by the authors' own Lean function (tested against real Go, not proved from fmt's source: count such statements apart). THE CARD IS WHAT COUNTS. Prove the row's statement (the work); the ties are given (YtabjknljcmcmfaaDoorTie.lean); close each card by the builder's one call (the guide's Derived/Test/ToyasCard.lean, 'card_holds'). Laid BY PROGRAM, IN A SANDBOX (cutbox-door.mjs). By AI agents, Wed Nov 11 2026. No macro, syntax, notation, axiom, sorry.
-/
import Derived.Test.YtabjknljcmcmfaaDoorRows
import GoSem.ClaimSeven
namespace Go.Proofs.YtabjknljcmcmfaaDoor
namespace Rows

/-- THE TIED CARD OF 'revetmentlaw10.IntentRegions'. -/
def intentRegionsCard : Claim7 := { stood := { row := intentRegionsRow, standIns := [], harness := (true, "2bac58f5816cd81ba5f46804fbc8e550e07d1a0ecc1185eec676a3b0e524617d"), looks := false }, kinds := [], alts := [], laidByText := true, laidKinds := [.data], laidTests := true, laidLooks := .later }
def IntentRegionsCardSaid : Prop := Claim7.holds Tryd.pinned (.plain (OpenSpec.ofChange intentRegionsSpec)) intentRegionsCard

/-- THE TIED CARD OF 'revetmentlaw10.IntentBusy'. -/
def intentBusyCard : Claim7 := { stood := { row := intentBusyRow, standIns := [], harness := (true, "2bac58f5816cd81ba5f46804fbc8e550e07d1a0ecc1185eec676a3b0e524617d"), looks := false }, kinds := [], alts := [], laidByText := true, laidKinds := [.data], laidTests := true, laidLooks := .later }
def IntentBusyCardSaid : Prop := Claim7.holds Tryd.pinned (.plain (OpenSpec.ofChange intentBusySpec)) intentBusyCard

/-- THE TIED CARD OF 'revetmentlaw10.IntentMerges'. -/
def intentMergesCard : Claim7 := { stood := { row := intentMergesRow, standIns := [], harness := (true, "2bac58f5816cd81ba5f46804fbc8e550e07d1a0ecc1185eec676a3b0e524617d"), looks := false }, kinds := [], alts := [], laidByText := true, laidKinds := [.data], laidTests := true, laidLooks := .later }
def IntentMergesCardSaid : Prop := Claim7.holds Tryd.pinned (.plain (OpenSpec.ofChange intentMergesSpec)) intentMergesCard

/-- THE TIED CARD OF 'revetmentlaw10.IntentActs'. -/
def intentActsCard : Claim7 := { stood := { row := intentActsRow, standIns := [], harness := (true, "2bac58f5816cd81ba5f46804fbc8e550e07d1a0ecc1185eec676a3b0e524617d"), looks := false }, kinds := [], alts := [], laidByText := true, laidKinds := [.data], laidTests := true, laidLooks := .later }
def IntentActsCardSaid : Prop := Claim7.holds Tryd.pinned (.plain (OpenSpec.ofChange intentActsSpec)) intentActsCard

/-- THE SECOND FORM's CARD OF 'revetmentlaw10.IntentRegions'. -/
def intentRegionsUptoCard : Claim7 := { stood := { row := intentRegionsUptoRow, standIns := [], harness := (true, "2bac58f5816cd81ba5f46804fbc8e550e07d1a0ecc1185eec676a3b0e524617d"), looks := false }, kinds := [], alts := [], laidByText := true, laidKinds := [.data], laidTests := true, laidLooks := .later }
def IntentRegionsUptoCardSaid : Prop := Claim7.holds Tryd.pinned (.plain (OpenSpec.upto intentRegionsSpec)) intentRegionsUptoCard

/-- THE SECOND FORM's CARD OF 'revetmentlaw10.IntentBusy'. -/
def intentBusyUptoCard : Claim7 := { stood := { row := intentBusyUptoRow, standIns := [], harness := (true, "2bac58f5816cd81ba5f46804fbc8e550e07d1a0ecc1185eec676a3b0e524617d"), looks := false }, kinds := [], alts := [], laidByText := true, laidKinds := [.data], laidTests := true, laidLooks := .later }
def IntentBusyUptoCardSaid : Prop := Claim7.holds Tryd.pinned (.plain (OpenSpec.upto intentBusySpec)) intentBusyUptoCard

/-- THE SECOND FORM's CARD OF 'revetmentlaw10.IntentMerges'. -/
def intentMergesUptoCard : Claim7 := { stood := { row := intentMergesUptoRow, standIns := [], harness := (true, "2bac58f5816cd81ba5f46804fbc8e550e07d1a0ecc1185eec676a3b0e524617d"), looks := false }, kinds := [], alts := [], laidByText := true, laidKinds := [.data], laidTests := true, laidLooks := .later }
def IntentMergesUptoCardSaid : Prop := Claim7.holds Tryd.pinned (.plain (OpenSpec.upto intentMergesSpec)) intentMergesUptoCard

/-- THE SECOND FORM's CARD OF 'revetmentlaw10.IntentActs'. -/
def intentActsUptoCard : Claim7 := { stood := { row := intentActsUptoRow, standIns := [], harness := (true, "2bac58f5816cd81ba5f46804fbc8e550e07d1a0ecc1185eec676a3b0e524617d"), looks := false }, kinds := [], alts := [], laidByText := true, laidKinds := [.data], laidTests := true, laidLooks := .later }
def IntentActsUptoCardSaid : Prop := Claim7.holds Tryd.pinned (.plain (OpenSpec.upto intentActsSpec)) intentActsUptoCard
end Rows
end Go.Proofs.YtabjknljcmcmfaaDoor
