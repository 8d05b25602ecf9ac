/- A region that draws its order, whose operations and callees keep a class of worlds: one walk in the text's order serves every order. The class is spelt so that the walk's simp sees through it. -/
import Derived.BigQuiet
namespace Go.Proofs.YtdilchcnfnfdiaaGreatDoor

/-- The worlds of the class, as a type. -/
structure In (C : World → Prop) where
  val : World
  is : C val

theorem wp_region_class {P : Program} {id : Nat} {Q : Exit → Act → World → Prop} {a : Act} {w : World} {l : List Oper} (C : World → Prop) (hm : P.follows .mixedOrders = true) (hB : Region.lexB .any l.toArray = true) (hC : C w.drew)
    (h : wpQuiet P l.toArray (fun w' => ∃ W : In C, w' = W.val) (fun a' => ∀ w', (∃ W : In C, w' = W.val) → Q .normal a' w') l a) : (Code.region id l.toArray true).wp P Q a w :=
  wp_region_quiet (C := fun w' => ∃ W : In C, w' = W.val) hm hB ⟨⟨_, hC⟩, rfl⟩ (by simpa using h)

/-- A callee that keeps the class. -/
theorem calls_class {P : Program} {f : FuncId} {args : Array Value} {w : World} {v : Value} {C : World → Prop} {R : Ending → World → Prop} (h : Calls P f args w R) (hR : ∀ e w', R e w' → e = .returned v ∧ C w') :
    Calls P f args w fun e w'' => e = .returned v ∧ ∃ W : In C, w'' = W.val :=
  h.mono fun e w' r => ⟨(hR e w' r).1, ⟨w', (hR e w' r).2⟩, rfl⟩

end Go.Proofs.YtdilchcnfnfdiaaGreatDoor
