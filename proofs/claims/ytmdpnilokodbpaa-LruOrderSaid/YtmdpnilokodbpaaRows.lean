/-
  No cell of these rows narrows 'for every input' (looked for: loops, veiled, ifaces, maps, wideKeys, modest, calm, conditions, laid).
  DERIVED. THE GIVEN ROWS OF THIS SEAT. 4 by the template 'for every input the law returns true; each argument reads behind the call as it read before'; 0 by the template 'total and deterministic' (their statements: YtmdpnilokodbpaaTotals.lean).
  GIVEN WITH THE SEED: the statements are not yours to turn. If you find one false, say at which input.
  Laid BY PROGRAM, IN A SANDBOX (cutbox-rows.mjs): the forced cells as the released guide's own fill.sh prints them over the translation eddafa6ce891020c… (all of the seat's roots in one cut). By AI agents, Wed Nov 11 2026. No macro, syntax, notation, axiom, sorry.
-/
import Derived.Test.YtmdpnilokodbpaaChecked
import GoSem.Claim
import GoSem.ClaimJoined
import GoSem.ClaimMapViews
import Derived.JoinedTies
import Derived.KernelRfl
namespace Go.Proofs.Ytmdpnilokodbpaa
/- THE CELL 'sum', in the pinned program and in every row, IS THE sha256 OF THE DUMP (.gsa) THAT YtmdpnilokodbpaaProg.lean LOADS. Nothing in Lean hashes anything: it is a label: what it is worth is what the hold of that sum in a sandbox is worth. -/
noncomputable def Try.pinned : Pinned := { name := "ytmdpnilokodbpaa", sum := "eddafa6ce891020c7ae75775e033dacb314985e2dab12dc70eec8694f8b34e2c", checked := Try.checked }
namespace Rows
def none {H : Type} : Left H := { results := [], args := [] }

/-- 'revetmentlaw14.LruOrder': WHATEVER THE INPUT: true; the input reads as it did. -/
def lruOrderSpec : ChangeSpec := { name := "lruOrder", fn := fun _ => fun
  | [d1, d2] => { results := [.lit (.bool true)], args := [d1, d2] }
  | _ => none }
def lruOrderRow : OpenClaim := { program := "ytmdpnilokodbpaa", sum := "eddafa6ce891020c7ae75775e033dacb314985e2dab12dc70eec8694f8b34e2c", func := "revetment/revetmentlaw14.LruOrder", spec := "lruOrder", unfollowed := true, recurses := true, apart := false }
def LruOrderSaid : Prop := lruOrderRow.holds Try.pinned (OpenSpec.ofChange lruOrderSpec)

/-- ITS FALSE NEIGHBOUR: 'it returns false'. Refute it at one input. -/
def lruOrderWrong : ChangeSpec := { name := "lruOrder", fn := fun _ => fun
  | [d1, d2] => { results := [.lit (.bool false)], args := [d1, d2] }
  | _ => none }
def LruOrderWrongFalsely : Prop := lruOrderRow.holds Try.pinned (OpenSpec.ofChange lruOrderWrong)

/-- 'revetmentlaw14.LruBusy': WHATEVER THE INPUT: true; the input reads as it did. -/
def lruBusySpec : ChangeSpec := { name := "lruBusy", fn := fun _ => fun
  | [d1, d2] => { results := [.lit (.bool true)], args := [d1, d2] }
  | _ => none }
def lruBusyRow : OpenClaim := { program := "ytmdpnilokodbpaa", sum := "eddafa6ce891020c7ae75775e033dacb314985e2dab12dc70eec8694f8b34e2c", func := "revetment/revetmentlaw14.LruBusy", spec := "lruBusy", unfollowed := true, recurses := true, apart := false }
def LruBusySaid : Prop := lruBusyRow.holds Try.pinned (OpenSpec.ofChange lruBusySpec)

/-- ITS FALSE NEIGHBOUR: 'it returns false'. Refute it at one input. -/
def lruBusyWrong : ChangeSpec := { name := "lruBusy", fn := fun _ => fun
  | [d1, d2] => { results := [.lit (.bool false)], args := [d1, d2] }
  | _ => none }
def LruBusyWrongFalsely : Prop := lruBusyRow.holds Try.pinned (OpenSpec.ofChange lruBusyWrong)

/-- 'revetmentlaw14.LruHolds': WHATEVER THE INPUT: true; the input reads as it did. -/
def lruHoldsSpec : ChangeSpec := { name := "lruHolds", fn := fun _ => fun
  | [d1, d2, d3] => { results := [.lit (.bool true)], args := [d1, d2, d3] }
  | _ => none }
def lruHoldsRow : OpenClaim := { program := "ytmdpnilokodbpaa", sum := "eddafa6ce891020c7ae75775e033dacb314985e2dab12dc70eec8694f8b34e2c", func := "revetment/revetmentlaw14.LruHolds", spec := "lruHolds", unfollowed := true, recurses := true, apart := false }
def LruHoldsSaid : Prop := lruHoldsRow.holds Try.pinned (OpenSpec.ofChange lruHoldsSpec)

/-- ITS FALSE NEIGHBOUR: 'it returns false'. Refute it at one input. -/
def lruHoldsWrong : ChangeSpec := { name := "lruHolds", fn := fun _ => fun
  | [d1, d2, d3] => { results := [.lit (.bool false)], args := [d1, d2, d3] }
  | _ => none }
def LruHoldsWrongFalsely : Prop := lruHoldsRow.holds Try.pinned (OpenSpec.ofChange lruHoldsWrong)

/-- 'revetmentlaw14.LruPins': WHATEVER THE INPUT: true; the input reads as it did. -/
def lruPinsSpec : ChangeSpec := { name := "lruPins", fn := fun _ => fun
  | [d1, d2] => { results := [.lit (.bool true)], args := [d1, d2] }
  | _ => none }
def lruPinsRow : OpenClaim := { program := "ytmdpnilokodbpaa", sum := "eddafa6ce891020c7ae75775e033dacb314985e2dab12dc70eec8694f8b34e2c", func := "revetment/revetmentlaw14.LruPins", spec := "lruPins", unfollowed := true, recurses := true, apart := false }
def LruPinsSaid : Prop := lruPinsRow.holds Try.pinned (OpenSpec.ofChange lruPinsSpec)

/-- ITS FALSE NEIGHBOUR: 'it returns false'. Refute it at one input. -/
def lruPinsWrong : ChangeSpec := { name := "lruPins", fn := fun _ => fun
  | [d1, d2] => { results := [.lit (.bool false)], args := [d1, d2] }
  | _ => none }
def LruPinsWrongFalsely : Prop := lruPinsRow.holds Try.pinned (OpenSpec.ofChange lruPinsWrong)

/- THE SECOND FORM. 'bulk': how many values and letters a reading holds, each counted each time it is reached (what is shared counts as often as it is met; a slice's spare places count too). A statement '..UptoSaid' is the law's where the arguments, and the package variables that the reading takes, are together of bulk at most 1048576: NARROWER than '..Said'. Prove '..Said' where nothing that the law and all that it calls make is longer than what came in: it says more and counts as full. Else prove '..UptoSaid'. A law counts once. -/
mutual
def uptoBulk {H : Type} : DataW H → Nat
  | .lit (.string bytes) => bytes.length + 1
  | .lit _ => 1
  | .nil => 1
  | .ptr d => uptoBulk d + 1
  | .slice elems spare => uptoBulkAll elems + uptoBulkAll spare + 1
  | .agg parts => uptoBulkAll parts + 1
  | .iface _ d => uptoBulk d + 1
  | .map entries => uptoBulkEntries entries + 1
  | .held _ => 1
def uptoBulkAll {H : Type} : List (DataW H) → Nat
  | [] => 0
  | d :: r => uptoBulk d + uptoBulkAll r
def uptoBulkEntries {H : Type} : List (Lit × DataW H) → Nat
  | [] => 0
  | x :: r => uptoBulkEntry x + uptoBulkEntries r
def uptoBulkEntry {H : Type} : Lit × DataW H → Nat
  | (.string bytes, d) => bytes.length + uptoBulk d + 1
  | (_, d) => uptoBulk d + 1
 end
def uptoSmall : (H : Type) → List (DataW H) → Bool := fun _ ds => decide (uptoBulkAll ds ≤ 1048576)
def OpenSpec.upto (s : _root_.Go.ChangeSpec) : _root_.Go.OpenSpec := { _root_.Go.OpenSpec.ofChange s with cond := some uptoSmall }

/-- 'revetmentlaw14.LruOrder', WHERE WHAT IT READS IS OF BULK AT MOST 1048576: true; the input reads as it did. -/
def lruOrderUptoRow : OpenClaim := { program := "ytmdpnilokodbpaa", sum := "eddafa6ce891020c7ae75775e033dacb314985e2dab12dc70eec8694f8b34e2c", func := "revetment/revetmentlaw14.LruOrder", spec := "lruOrder", unfollowed := true, recurses := true, apart := false, narrowed := true }
def LruOrderUptoSaid : Prop := lruOrderUptoRow.holds Try.pinned (OpenSpec.upto lruOrderSpec)

/-- 'revetmentlaw14.LruBusy', WHERE WHAT IT READS IS OF BULK AT MOST 1048576: true; the input reads as it did. -/
def lruBusyUptoRow : OpenClaim := { program := "ytmdpnilokodbpaa", sum := "eddafa6ce891020c7ae75775e033dacb314985e2dab12dc70eec8694f8b34e2c", func := "revetment/revetmentlaw14.LruBusy", spec := "lruBusy", unfollowed := true, recurses := true, apart := false, narrowed := true }
def LruBusyUptoSaid : Prop := lruBusyUptoRow.holds Try.pinned (OpenSpec.upto lruBusySpec)

/-- 'revetmentlaw14.LruHolds', WHERE WHAT IT READS IS OF BULK AT MOST 1048576: true; the input reads as it did. -/
def lruHoldsUptoRow : OpenClaim := { program := "ytmdpnilokodbpaa", sum := "eddafa6ce891020c7ae75775e033dacb314985e2dab12dc70eec8694f8b34e2c", func := "revetment/revetmentlaw14.LruHolds", spec := "lruHolds", unfollowed := true, recurses := true, apart := false, narrowed := true }
def LruHoldsUptoSaid : Prop := lruHoldsUptoRow.holds Try.pinned (OpenSpec.upto lruHoldsSpec)

/-- 'revetmentlaw14.LruPins', WHERE WHAT IT READS IS OF BULK AT MOST 1048576: true; the input reads as it did. -/
def lruPinsUptoRow : OpenClaim := { program := "ytmdpnilokodbpaa", sum := "eddafa6ce891020c7ae75775e033dacb314985e2dab12dc70eec8694f8b34e2c", func := "revetment/revetmentlaw14.LruPins", spec := "lruPins", unfollowed := true, recurses := true, apart := false, narrowed := true }
def LruPinsUptoSaid : Prop := lruPinsUptoRow.holds Try.pinned (OpenSpec.upto lruPinsSpec)

end Rows
end Go.Proofs.Ytmdpnilokodbpaa
