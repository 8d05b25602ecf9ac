/-
  No cell of these rows narrows 'for every input' (looked for: loops, veiled, ifaces, maps, wideKeys, modest, calm, conditions, laid).
  DERIVED. THE GIVEN ROWS OF THIS SEAT. 4 by the template 'for every input the law returns true; each argument reads behind the call as it read before'; 0 by the template 'total and deterministic' (their statements: YtllomgkdplpecaaTotals.lean).
  GIVEN WITH THE SEED: the statements are not yours to turn. If you find one false, say at which input.
  Laid BY PROGRAM, IN A SANDBOX (cutbox-rows.mjs): the forced cells as the released guide's own fill.sh prints them over the translation 51654cb832d104a1… (all of the seat's roots in one cut). By AI agents, Wed Nov 11 2026. No macro, syntax, notation, axiom, sorry.
-/
import Derived.Test.YtllomgkdplpecaaChecked
import GoSem.Claim
import GoSem.ClaimJoined
import GoSem.ClaimMapViews
import Derived.JoinedTies
import Derived.KernelRfl
namespace Go.Proofs.Ytllomgkdplpecaa
/- THE CELL 'sum', in the pinned program and in every row, IS THE sha256 OF THE DUMP (.gsa) THAT YtllomgkdplpecaaProg.lean LOADS. Nothing in Lean hashes anything: it is a label: what it is worth is what the hold of that sum in a sandbox is worth. -/
noncomputable def Try.pinned : Pinned := { name := "ytllomgkdplpecaa", sum := "51654cb832d104a1928cf16e59f4e6d42fa393f0223bfd104543e0f0b9a3a7e0", checked := Try.checked }
namespace Rows
def none {H : Type} : Left H := { results := [], args := [] }

/-- 'revetmentlaw15.PlanEnough': WHATEVER THE INPUT: true; the input reads as it did. -/
def planEnoughSpec : ChangeSpec := { name := "planEnough", fn := fun _ => fun
  | [d1, d2, d3, d4] => { results := [.lit (.bool true)], args := [d1, d2, d3, d4] }
  | _ => none }
def planEnoughRow : OpenClaim := { program := "ytllomgkdplpecaa", sum := "51654cb832d104a1928cf16e59f4e6d42fa393f0223bfd104543e0f0b9a3a7e0", func := "revetment/revetmentlaw15.PlanEnough", spec := "planEnough", unfollowed := true, recurses := true, apart := false }
def PlanEnoughSaid : Prop := planEnoughRow.holds Try.pinned (OpenSpec.ofChange planEnoughSpec)

/-- ITS FALSE NEIGHBOUR: 'it returns false'. Refute it at one input. -/
def planEnoughWrong : ChangeSpec := { name := "planEnough", fn := fun _ => fun
  | [d1, d2, d3, d4] => { results := [.lit (.bool false)], args := [d1, d2, d3, d4] }
  | _ => none }
def PlanEnoughWrongFalsely : Prop := planEnoughRow.holds Try.pinned (OpenSpec.ofChange planEnoughWrong)

/-- 'revetmentlaw15.PlanFull': WHATEVER THE INPUT: true; the input reads as it did. -/
def planFullSpec : ChangeSpec := { name := "planFull", fn := fun _ => fun
  | [d1, d2] => { results := [.lit (.bool true)], args := [d1, d2] }
  | _ => none }
def planFullRow : OpenClaim := { program := "ytllomgkdplpecaa", sum := "51654cb832d104a1928cf16e59f4e6d42fa393f0223bfd104543e0f0b9a3a7e0", func := "revetment/revetmentlaw15.PlanFull", spec := "planFull", unfollowed := true, recurses := true, apart := false }
def PlanFullSaid : Prop := planFullRow.holds Try.pinned (OpenSpec.ofChange planFullSpec)

/-- ITS FALSE NEIGHBOUR: 'it returns false'. Refute it at one input. -/
def planFullWrong : ChangeSpec := { name := "planFull", fn := fun _ => fun
  | [d1, d2] => { results := [.lit (.bool false)], args := [d1, d2] }
  | _ => none }
def PlanFullWrongFalsely : Prop := planFullRow.holds Try.pinned (OpenSpec.ofChange planFullWrong)

/-- 'revetmentlaw15.PlanLost': WHATEVER THE INPUT: true; the input reads as it did. -/
def planLostSpec : ChangeSpec := { name := "planLost", fn := fun _ => fun
  | [d1, d2, d3, d4] => { results := [.lit (.bool true)], args := [d1, d2, d3, d4] }
  | _ => none }
def planLostRow : OpenClaim := { program := "ytllomgkdplpecaa", sum := "51654cb832d104a1928cf16e59f4e6d42fa393f0223bfd104543e0f0b9a3a7e0", func := "revetment/revetmentlaw15.PlanLost", spec := "planLost", unfollowed := true, recurses := true, apart := false }
def PlanLostSaid : Prop := planLostRow.holds Try.pinned (OpenSpec.ofChange planLostSpec)

/-- ITS FALSE NEIGHBOUR: 'it returns false'. Refute it at one input. -/
def planLostWrong : ChangeSpec := { name := "planLost", fn := fun _ => fun
  | [d1, d2, d3, d4] => { results := [.lit (.bool false)], args := [d1, d2, d3, d4] }
  | _ => none }
def PlanLostWrongFalsely : Prop := planLostRow.holds Try.pinned (OpenSpec.ofChange planLostWrong)

/-- 'revetmentlaw15.PlanRead': WHATEVER THE INPUT: true; the input reads as it did. -/
def planReadSpec : ChangeSpec := { name := "planRead", fn := fun _ => fun
  | [d1, d2, d3, d4, d5] => { results := [.lit (.bool true)], args := [d1, d2, d3, d4, d5] }
  | _ => none }
def planReadRow : OpenClaim := { program := "ytllomgkdplpecaa", sum := "51654cb832d104a1928cf16e59f4e6d42fa393f0223bfd104543e0f0b9a3a7e0", func := "revetment/revetmentlaw15.PlanRead", spec := "planRead", unfollowed := true, recurses := true, apart := false }
def PlanReadSaid : Prop := planReadRow.holds Try.pinned (OpenSpec.ofChange planReadSpec)

/-- ITS FALSE NEIGHBOUR: 'it returns false'. Refute it at one input. -/
def planReadWrong : ChangeSpec := { name := "planRead", fn := fun _ => fun
  | [d1, d2, d3, d4, d5] => { results := [.lit (.bool false)], args := [d1, d2, d3, d4, d5] }
  | _ => none }
def PlanReadWrongFalsely : Prop := planReadRow.holds Try.pinned (OpenSpec.ofChange planReadWrong)

/- THE SECOND FORM. 'bulk': how many values and letters a reading holds, each counted each time it is reached (what is shared counts as often as it is met; a slice's spare places count too). A statement '..UptoSaid' is the law's where the arguments, and the package variables that the reading takes, are together of bulk at most 1048576: NARROWER than '..Said'. Prove '..Said' where nothing that the law and all that it calls make is longer than what came in: it says more and counts as full. Else prove '..UptoSaid'. A law counts once. -/
mutual
def uptoBulk {H : Type} : DataW H → Nat
  | .lit (.string bytes) => bytes.length + 1
  | .lit _ => 1
  | .nil => 1
  | .ptr d => uptoBulk d + 1
  | .slice elems spare => uptoBulkAll elems + uptoBulkAll spare + 1
  | .agg parts => uptoBulkAll parts + 1
  | .iface _ d => uptoBulk d + 1
  | .map entries => uptoBulkEntries entries + 1
  | .held _ => 1
def uptoBulkAll {H : Type} : List (DataW H) → Nat
  | [] => 0
  | d :: r => uptoBulk d + uptoBulkAll r
def uptoBulkEntries {H : Type} : List (Lit × DataW H) → Nat
  | [] => 0
  | x :: r => uptoBulkEntry x + uptoBulkEntries r
def uptoBulkEntry {H : Type} : Lit × DataW H → Nat
  | (.string bytes, d) => bytes.length + uptoBulk d + 1
  | (_, d) => uptoBulk d + 1
 end
def uptoSmall : (H : Type) → List (DataW H) → Bool := fun _ ds => decide (uptoBulkAll ds ≤ 1048576)
def OpenSpec.upto (s : _root_.Go.ChangeSpec) : _root_.Go.OpenSpec := { _root_.Go.OpenSpec.ofChange s with cond := some uptoSmall }

/-- 'revetmentlaw15.PlanEnough', WHERE WHAT IT READS IS OF BULK AT MOST 1048576: true; the input reads as it did. -/
def planEnoughUptoRow : OpenClaim := { program := "ytllomgkdplpecaa", sum := "51654cb832d104a1928cf16e59f4e6d42fa393f0223bfd104543e0f0b9a3a7e0", func := "revetment/revetmentlaw15.PlanEnough", spec := "planEnough", unfollowed := true, recurses := true, apart := false, narrowed := true }
def PlanEnoughUptoSaid : Prop := planEnoughUptoRow.holds Try.pinned (OpenSpec.upto planEnoughSpec)

/-- 'revetmentlaw15.PlanFull', WHERE WHAT IT READS IS OF BULK AT MOST 1048576: true; the input reads as it did. -/
def planFullUptoRow : OpenClaim := { program := "ytllomgkdplpecaa", sum := "51654cb832d104a1928cf16e59f4e6d42fa393f0223bfd104543e0f0b9a3a7e0", func := "revetment/revetmentlaw15.PlanFull", spec := "planFull", unfollowed := true, recurses := true, apart := false, narrowed := true }
def PlanFullUptoSaid : Prop := planFullUptoRow.holds Try.pinned (OpenSpec.upto planFullSpec)

/-- 'revetmentlaw15.PlanLost', WHERE WHAT IT READS IS OF BULK AT MOST 1048576: true; the input reads as it did. -/
def planLostUptoRow : OpenClaim := { program := "ytllomgkdplpecaa", sum := "51654cb832d104a1928cf16e59f4e6d42fa393f0223bfd104543e0f0b9a3a7e0", func := "revetment/revetmentlaw15.PlanLost", spec := "planLost", unfollowed := true, recurses := true, apart := false, narrowed := true }
def PlanLostUptoSaid : Prop := planLostUptoRow.holds Try.pinned (OpenSpec.upto planLostSpec)

/-- 'revetmentlaw15.PlanRead', WHERE WHAT IT READS IS OF BULK AT MOST 1048576: true; the input reads as it did. -/
def planReadUptoRow : OpenClaim := { program := "ytllomgkdplpecaa", sum := "51654cb832d104a1928cf16e59f4e6d42fa393f0223bfd104543e0f0b9a3a7e0", func := "revetment/revetmentlaw15.PlanRead", spec := "planRead", unfollowed := true, recurses := true, apart := false, narrowed := true }
def PlanReadUptoSaid : Prop := planReadUptoRow.holds Try.pinned (OpenSpec.upto planReadSpec)

end Rows
end Go.Proofs.Ytllomgkdplpecaa
