/-
  NARROWER THAN 'FOR EVERY INPUT', by the rows' own cells (each row's printed sentence says how): IntentRegions: laid · IntentBusy: laid · IntentMerges: laid · IntentActs: laid.
  DERIVED. THE GIVEN ROWS OF THIS SEAT. 4 by the template 'for every input the law returns true; each argument reads behind the call as it read before'; 0 by the template 'total and deterministic' (their statements: YtabjknljcmcmfaaDoorTotals.lean).
  GIVEN WITH THE SEED: the statements are not yours to turn. If you find one false, say at which input.
  Laid BY PROGRAM, IN A SANDBOX (cutbox-rows.mjs): the forced cells as the released guide's own fill.sh prints them over the translation 28ce3484617c23c0… (all of the seat's roots in one cut). By AI agents, Wed Nov 11 2026. No macro, syntax, notation, axiom, sorry.
-/
import Derived.Test.YtabjknljcmcmfaaDoorChecked
import GoSem.Claim
import GoSem.ClaimJoined
import GoSem.ClaimMapViews
import Derived.JoinedTies
import Derived.KernelRfl
namespace Go.Proofs.YtabjknljcmcmfaaDoor
/- THE CELL 'sum', in the pinned program and in every row, IS THE sha256 OF THE DUMP (.gsa) THAT YtabjknljcmcmfaaDoorProg.lean LOADS. Nothing in Lean hashes anything: it is a label: what it is worth is what the hold of that sum in a sandbox is worth. -/
noncomputable def Tryd.pinned : Pinned := { name := "ytabjknljcmcmfaadoor", sum := "28ce3484617c23c0bbfb6fe7e1ab35169d31f302fad8bb4a893ea2a6dfccd37d", checked := Tryd.checked }
namespace Rows
def none {H : Type} : Left H := { results := [], args := [] }

/- WHAT THE LISTED PACKAGE-LEVEL VARIABLES READ AS WHEN THE CALL BEGINS. Each datum BY PROGRAM (the guide's laid-datum.mjs) off the statement by which the dump's own 'gosem.cut.vars' lays the variable. In a bare row this is a premise. The card (YtabjknljcmcmfaaDoorCards.lean) ties it to the program's text. -/
def laid_math_bits_deBruijn64tab {H : Type} : DataW H := .agg [.lit (.int .u8 0), .lit (.int .u8 1), .lit (.int .u8 56), .lit (.int .u8 2), .lit (.int .u8 57), .lit (.int .u8 49), .lit (.int .u8 28), .lit (.int .u8 3), .lit (.int .u8 61), .lit (.int .u8 58), .lit (.int .u8 42), .lit (.int .u8 50), .lit (.int .u8 38), .lit (.int .u8 29), .lit (.int .u8 17), .lit (.int .u8 4), .lit (.int .u8 62), .lit (.int .u8 47), .lit (.int .u8 59), .lit (.int .u8 36), .lit (.int .u8 45), .lit (.int .u8 43), .lit (.int .u8 51), .lit (.int .u8 22), .lit (.int .u8 53), .lit (.int .u8 39), .lit (.int .u8 33), .lit (.int .u8 30), .lit (.int .u8 24), .lit (.int .u8 18), .lit (.int .u8 12), .lit (.int .u8 5), .lit (.int .u8 63), .lit (.int .u8 55), .lit (.int .u8 48), .lit (.int .u8 27), .lit (.int .u8 60), .lit (.int .u8 41), .lit (.int .u8 37), .lit (.int .u8 16), .lit (.int .u8 46), .lit (.int .u8 35), .lit (.int .u8 44), .lit (.int .u8 21), .lit (.int .u8 52), .lit (.int .u8 32), .lit (.int .u8 23), .lit (.int .u8 11), .lit (.int .u8 54), .lit (.int .u8 26), .lit (.int .u8 40), .lit (.int .u8 15), .lit (.int .u8 34), .lit (.int .u8 20), .lit (.int .u8 31), .lit (.int .u8 10), .lit (.int .u8 25), .lit (.int .u8 14), .lit (.int .u8 19), .lit (.int .u8 9), .lit (.int .u8 13), .lit (.int .u8 8), .lit (.int .u8 7), .lit (.int .u8 6)]

/-- 'revetmentlaw10.IntentRegions': WHATEVER THE INPUT: true; the input reads as it did. -/
def intentRegionsSpec : ChangeSpec := { name := "intentRegions", fn := fun _ => fun
  | [d1, d2] => { results := [.lit (.bool true)], args := [d1, d2] }
  | _ => none }
def intentRegionsRow : OpenClaim := { program := "ytabjknljcmcmfaadoor", sum := "28ce3484617c23c0bbfb6fe7e1ab35169d31f302fad8bb4a893ea2a6dfccd37d", func := "revetment/revetmentlaw10.IntentRegions", spec := "intentRegions", unfollowed := true, recurses := true, named := ["math/bits.deBruijn64tab"], apart := false, laid := [("math/bits.deBruijn64tab", laid_math_bits_deBruijn64tab)] }
def IntentRegionsSaid : Prop := intentRegionsRow.holds Tryd.pinned (OpenSpec.ofChange intentRegionsSpec)

/-- ITS FALSE NEIGHBOUR: 'it returns false'. Refute it at one input. -/
def intentRegionsWrong : ChangeSpec := { name := "intentRegions", fn := fun _ => fun
  | [d1, d2] => { results := [.lit (.bool false)], args := [d1, d2] }
  | _ => none }
def IntentRegionsWrongFalsely : Prop := intentRegionsRow.holds Tryd.pinned (OpenSpec.ofChange intentRegionsWrong)

/-- 'revetmentlaw10.IntentBusy': WHATEVER THE INPUT: true; the input reads as it did. -/
def intentBusySpec : ChangeSpec := { name := "intentBusy", fn := fun _ => fun
  | [d1, d2] => { results := [.lit (.bool true)], args := [d1, d2] }
  | _ => none }
def intentBusyRow : OpenClaim := { program := "ytabjknljcmcmfaadoor", sum := "28ce3484617c23c0bbfb6fe7e1ab35169d31f302fad8bb4a893ea2a6dfccd37d", func := "revetment/revetmentlaw10.IntentBusy", spec := "intentBusy", unfollowed := true, recurses := true, named := ["math/bits.deBruijn64tab"], apart := false, laid := [("math/bits.deBruijn64tab", laid_math_bits_deBruijn64tab)] }
def IntentBusySaid : Prop := intentBusyRow.holds Tryd.pinned (OpenSpec.ofChange intentBusySpec)

/-- ITS FALSE NEIGHBOUR: 'it returns false'. Refute it at one input. -/
def intentBusyWrong : ChangeSpec := { name := "intentBusy", fn := fun _ => fun
  | [d1, d2] => { results := [.lit (.bool false)], args := [d1, d2] }
  | _ => none }
def IntentBusyWrongFalsely : Prop := intentBusyRow.holds Tryd.pinned (OpenSpec.ofChange intentBusyWrong)

/-- 'revetmentlaw10.IntentMerges': WHATEVER THE INPUT: true; the input reads as it did. -/
def intentMergesSpec : ChangeSpec := { name := "intentMerges", fn := fun _ => fun
  | [d1, d2, d3] => { results := [.lit (.bool true)], args := [d1, d2, d3] }
  | _ => none }
def intentMergesRow : OpenClaim := { program := "ytabjknljcmcmfaadoor", sum := "28ce3484617c23c0bbfb6fe7e1ab35169d31f302fad8bb4a893ea2a6dfccd37d", func := "revetment/revetmentlaw10.IntentMerges", spec := "intentMerges", unfollowed := true, recurses := true, named := ["math/bits.deBruijn64tab"], apart := false, laid := [("math/bits.deBruijn64tab", laid_math_bits_deBruijn64tab)] }
def IntentMergesSaid : Prop := intentMergesRow.holds Tryd.pinned (OpenSpec.ofChange intentMergesSpec)

/-- ITS FALSE NEIGHBOUR: 'it returns false'. Refute it at one input. -/
def intentMergesWrong : ChangeSpec := { name := "intentMerges", fn := fun _ => fun
  | [d1, d2, d3] => { results := [.lit (.bool false)], args := [d1, d2, d3] }
  | _ => none }
def IntentMergesWrongFalsely : Prop := intentMergesRow.holds Tryd.pinned (OpenSpec.ofChange intentMergesWrong)

/-- 'revetmentlaw10.IntentActs': WHATEVER THE INPUT: true; the input reads as it did. -/
def intentActsSpec : ChangeSpec := { name := "intentActs", fn := fun _ => fun
  | [d1, d2] => { results := [.lit (.bool true)], args := [d1, d2] }
  | _ => none }
def intentActsRow : OpenClaim := { program := "ytabjknljcmcmfaadoor", sum := "28ce3484617c23c0bbfb6fe7e1ab35169d31f302fad8bb4a893ea2a6dfccd37d", func := "revetment/revetmentlaw10.IntentActs", spec := "intentActs", unfollowed := true, recurses := true, named := ["math/bits.deBruijn64tab"], apart := false, laid := [("math/bits.deBruijn64tab", laid_math_bits_deBruijn64tab)] }
def IntentActsSaid : Prop := intentActsRow.holds Tryd.pinned (OpenSpec.ofChange intentActsSpec)

/-- ITS FALSE NEIGHBOUR: 'it returns false'. Refute it at one input. -/
def intentActsWrong : ChangeSpec := { name := "intentActs", fn := fun _ => fun
  | [d1, d2] => { results := [.lit (.bool false)], args := [d1, d2] }
  | _ => none }
def IntentActsWrongFalsely : Prop := intentActsRow.holds Tryd.pinned (OpenSpec.ofChange intentActsWrong)

/- THE SECOND FORM. 'bulk': how many values and letters a reading holds, each counted each time it is reached (what is shared counts as often as it is met; a slice's spare places count too). A statement '..UptoSaid' is the law's where the arguments, and the package variables that the reading takes, are together of bulk at most 1048576: NARROWER than '..Said'. Prove '..Said' where nothing that the law and all that it calls make is longer than what came in: it says more and counts as full. Else prove '..UptoSaid'. A law counts once. -/
mutual
def uptoBulk {H : Type} : DataW H → Nat
  | .lit (.string bytes) => bytes.length + 1
  | .lit _ => 1
  | .nil => 1
  | .ptr d => uptoBulk d + 1
  | .slice elems spare => uptoBulkAll elems + uptoBulkAll spare + 1
  | .agg parts => uptoBulkAll parts + 1
  | .iface _ d => uptoBulk d + 1
  | .map entries => uptoBulkEntries entries + 1
  | .held _ => 1
def uptoBulkAll {H : Type} : List (DataW H) → Nat
  | [] => 0
  | d :: r => uptoBulk d + uptoBulkAll r
def uptoBulkEntries {H : Type} : List (Lit × DataW H) → Nat
  | [] => 0
  | x :: r => uptoBulkEntry x + uptoBulkEntries r
def uptoBulkEntry {H : Type} : Lit × DataW H → Nat
  | (.string bytes, d) => bytes.length + uptoBulk d + 1
  | (_, d) => uptoBulk d + 1
 end
def uptoSmall : (H : Type) → List (DataW H) → Bool := fun _ ds => decide (uptoBulkAll ds ≤ 1048576)
def OpenSpec.upto (s : _root_.Go.ChangeSpec) : _root_.Go.OpenSpec := { _root_.Go.OpenSpec.ofChange s with cond := some uptoSmall }

/-- 'revetmentlaw10.IntentRegions', WHERE WHAT IT READS IS OF BULK AT MOST 1048576: true; the input reads as it did. -/
def intentRegionsUptoRow : OpenClaim := { program := "ytabjknljcmcmfaadoor", sum := "28ce3484617c23c0bbfb6fe7e1ab35169d31f302fad8bb4a893ea2a6dfccd37d", func := "revetment/revetmentlaw10.IntentRegions", spec := "intentRegions", unfollowed := true, recurses := true, named := ["math/bits.deBruijn64tab"], apart := false, laid := [("math/bits.deBruijn64tab", laid_math_bits_deBruijn64tab)], narrowed := true }
def IntentRegionsUptoSaid : Prop := intentRegionsUptoRow.holds Tryd.pinned (OpenSpec.upto intentRegionsSpec)

/-- 'revetmentlaw10.IntentBusy', WHERE WHAT IT READS IS OF BULK AT MOST 1048576: true; the input reads as it did. -/
def intentBusyUptoRow : OpenClaim := { program := "ytabjknljcmcmfaadoor", sum := "28ce3484617c23c0bbfb6fe7e1ab35169d31f302fad8bb4a893ea2a6dfccd37d", func := "revetment/revetmentlaw10.IntentBusy", spec := "intentBusy", unfollowed := true, recurses := true, named := ["math/bits.deBruijn64tab"], apart := false, laid := [("math/bits.deBruijn64tab", laid_math_bits_deBruijn64tab)], narrowed := true }
def IntentBusyUptoSaid : Prop := intentBusyUptoRow.holds Tryd.pinned (OpenSpec.upto intentBusySpec)

/-- 'revetmentlaw10.IntentMerges', WHERE WHAT IT READS IS OF BULK AT MOST 1048576: true; the input reads as it did. -/
def intentMergesUptoRow : OpenClaim := { program := "ytabjknljcmcmfaadoor", sum := "28ce3484617c23c0bbfb6fe7e1ab35169d31f302fad8bb4a893ea2a6dfccd37d", func := "revetment/revetmentlaw10.IntentMerges", spec := "intentMerges", unfollowed := true, recurses := true, named := ["math/bits.deBruijn64tab"], apart := false, laid := [("math/bits.deBruijn64tab", laid_math_bits_deBruijn64tab)], narrowed := true }
def IntentMergesUptoSaid : Prop := intentMergesUptoRow.holds Tryd.pinned (OpenSpec.upto intentMergesSpec)

/-- 'revetmentlaw10.IntentActs', WHERE WHAT IT READS IS OF BULK AT MOST 1048576: true; the input reads as it did. -/
def intentActsUptoRow : OpenClaim := { program := "ytabjknljcmcmfaadoor", sum := "28ce3484617c23c0bbfb6fe7e1ab35169d31f302fad8bb4a893ea2a6dfccd37d", func := "revetment/revetmentlaw10.IntentActs", spec := "intentActs", unfollowed := true, recurses := true, named := ["math/bits.deBruijn64tab"], apart := false, laid := [("math/bits.deBruijn64tab", laid_math_bits_deBruijn64tab)], narrowed := true }
def IntentActsUptoSaid : Prop := intentActsUptoRow.holds Tryd.pinned (OpenSpec.upto intentActsSpec)

end Rows
end Go.Proofs.YtabjknljcmcmfaaDoor
