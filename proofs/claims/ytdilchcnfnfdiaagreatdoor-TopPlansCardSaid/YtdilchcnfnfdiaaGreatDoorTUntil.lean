/- A range over a function that yields till it is told to stop: the contract of such an iterator, and the law for the loop. No program in sight. -/
import Derived.RangeFuncNested
import Derived.RangeFuncBound
import Derived.RangeFuncCalls
import Derived.RangeFuncLeaves
import Derived.Shelf.Abstract
import Derived.Shelf.RegionOpen
import Derived.WalkKit
import Derived.OwnWalkIn
import Derived.TacticsInMore
import Derived.LoopNIn
import Derived.LoopIn
namespace Go.Proofs.YtdilchcnfnfdiaaGreatDoor
open Go.RowKit

/-- Round j is handed 'encs j'; a round that goes on is not the last one of N. -/
def Until (F : Fence) (n : Nat) (P : Program) (g : Nat) (lb : Array Value) (encs : Nat → Array Value) (N : Nat) : Prop :=
  ∀ (l : Nat) (J : Nat → World → Prop) (Jx : World → Prop) (W : World),
    (∀ j W1, j < N → J j W1 → YieldAt F (n - 1) P l (encs j) W1 fun e W' => (e = .returned (.bool true) ∧ j + 1 < N ∧ J (j + 1) W') ∨ (e = .returned (.bool false) ∧ Jx W')) →
    J 0 W → CallsIn F n P g (#[.func (.yield l) #[] #[]] ++ lb) W fun e W' => (∃ v, e = .returned v) ∧ Jx W'
/-- How a round's body may be left. -/
def untilPost (B : Nat) (I : Nat → World → Prop) (Ix : Nat → World → Prop) (N j : Nat) (W : World) : Exit → Act → World → Prop
  | .normal, _, W' => KeepsFrom B W W' ∧ j < N ∧ I j W'
  | .exit id, _, W' => KeepsFrom B W W' ∧ Ix id W'
  | _, _, _ => False

theorem size1 (w : World) (o : Obj) : (w.alloc o).heap.size = w.heap.size + 1 := by show (w.heap.push o).size = _; simp
section
variable {F : Fence} {n : Nat} {P : Program}
theorem wpIn_until {g : Operand} {ps : Array Tmp} {assign body : Code} {Q : Exit → Act → World → Prop} {a : Act} {w : World}
    (hro : F.round = none) (h1 : 1 ≤ n) {gf : Nat} {lb : Array Value} (hg : a.eval g = .func (.func gf) #[] lb) (hFg : F.fn gf) (eg : ∀ args w, (callFunc gf args).run P w = .ok (.enter gf args) w)
    {encs : Nat → Array Value} {N : Nat} (hseq : Until F (n - 1) P gf lb encs N) (hps : ∀ j, (encs j).size = ps.size)
    (I : Nat → World → Prop) (Ix : Nat → World → Prop)
    (hI : ∀ j W l o o', w.heap.size ≤ l → W.heap[l]? = some o → o.isCells = false → I j W → I j (W.putObj l o')) (hIx : ∀ c W l o o', w.heap.size ≤ l → W.heap[l]? = some o → o.isCells = false → Ix c W → Ix c (W.putObj l o'))
    (h0 : ∀ o o', I 0 ((w.alloc o).alloc o')) (a₁ : Nat → Act)
    (hassign : ∀ (l j : Nat) (W : World) (K : Act → World → Prop), K (a₁ j) W → assign.wpIn (F.inRound l) (n - 1 - 1) P (Exit.then K (fun _ _ _ => False)) { tmps := (ps.zip (encs j)).foldl (fun t (p, v) => t.setIfInBounds p v) a.tmps, defers := [] } W)
    (hbody : ∀ (l j : Nat) (W : World), j < N → I j W → body.wpIn (F.inRound l) (n - 1 - 1) P (untilPost w.heap.size I Ix N (j + 1) W) (a₁ j) W)
    (hstop : ∀ (D c : Nat) (W : World), w.heap.size ≤ D → Ix c W → W.heap[D]? = some (.deferred (some [])) → (Code.exit c).wpIn F n P Q { a with defers := { target := .collected D, args := #[] } :: a.defers } W) :
    (Code.rangeFunc g ps assign body).wpIn F n P Q a w := by
  refine wpIn_rangeFunc fun fn hfn => ?_
  rw [hro]
  let mk : LoopState → Option Code → Obj := fun st pe => .loop { state := st, pending := pe, fn := fn, tmps := a.tmps, params := ps, assign := assign, body := body, defers := w.heap.size }
  have hs1 : (w.alloc (.deferred (some []))).heap.size = w.heap.size + 1 := size1 w _
  have hL : ((w.alloc (.deferred (some []))).alloc (mk .ready none)).heap[w.heap.size + 1]? = some (mk .ready none) := by
    have h := World.alloc_heap_new (w.alloc (.deferred (some []))) (mk .ready none)
    rwa [hs1] at h
  have hD : ((w.alloc (.deferred (some []))).alloc (mk .ready none)).heap[w.heap.size]? = some (.deferred (some [])) := (Below.heap_alloc _ _ _ (by rw [hs1]; omega)).trans (World.alloc_heap_new w _)
  refine ⟨w.heap.size + 1, _, (w.alloc (.deferred (some []))).alloc (mk .ready none), { target := .fn (.func gf) lb, args := #[.func (.yield (w.heap.size + 1)) #[] #[]] }, (w.alloc (.deferred (some []))).alloc (mk .ready none), gf, #[.func (.yield (w.heap.size + 1)) #[] #[]] ++ lb, (w.alloc (.deferred (some []))).alloc (mk .ready none), run_enterLoop_outer _ _ _ _ _, by simp only [resolve, hg]; simp [go_sem], fun f' hf' => by simp [Target.leads] at hf'; subst hf'; exact hFg, by simp [invoke, go_sem, eg], fun _ => h1, ?_⟩
  refine (hseq (w.heap.size + 1) (fun j W => I j W ∧ W.heap[w.heap.size + 1]? = some (mk .ready none) ∧ W.heap[w.heap.size]? = some (.deferred (some [])))
    (fun W => ∃ c, Ix c W ∧ W.heap[w.heap.size + 1]? = some (mk .done (some (.exit c))) ∧ W.heap[w.heap.size]? = some (.deferred (some []))) _ ?_ ⟨h0 _ _, hL, hD⟩).mono ?_
  · rintro j W hj ⟨hi, hl, hk⟩
    refine ⟨fn, _, assign, body, run_yield hl (hps j), roundIn_of_wpIn hfn (hassign _ j W _ ?_)⟩
    have hlt : w.heap.size + 1 < W.heap.size := (Array.getElem?_eq_some_iff.1 hl).1
    refine ⟨_, run_beginRound hl rfl, ?_⟩
    have hl2 : (W.putObj (w.heap.size + 1) (mk .busy none)).heap[w.heap.size + 1]? = some (mk .busy none) := World.putObj_heap_same hlt
    have hk2 : (W.putObj (w.heap.size + 1) (mk .busy none)).heap[w.heap.size]? = some (.deferred (some [])) := (World.putObj_heap_other (by omega)).trans hk
    refine wpIn_mono (hbody _ j _ hj (hI j _ _ _ _ (by omega) hl rfl hi)) ?_
    rintro e a3 W3 hp
    cases e with
    | normal =>
      obtain ⟨hk3, hjn, hi3⟩ := hp
      have hl3 := hk3.same _ _ (by omega) hl2 rfl
      have hd3 := hk3.same _ _ (Nat.le_refl _) hk2 rfl
      exact ⟨_, _, run_endRound none hl3, .inl ⟨rfl, hjn, hI _ _ _ _ _ (by omega) hl3 rfl hi3, World.putObj_heap_same (Array.getElem?_eq_some_iff.1 hl3).1, (World.putObj_heap_other (by omega)).trans hd3⟩⟩
    | exit id =>
      obtain ⟨hk3, hi3⟩ := hp
      have hl3 := hk3.same _ _ (by omega) hl2 rfl
      have hd3 := hk3.same _ _ (Nat.le_refl _) hk2 rfl
      exact ⟨_, _, run_endRound (some (.exit id)) hl3, .inr ⟨rfl, id, hIx _ _ _ _ _ (by omega) hl3 rfl hi3, World.putObj_heap_same (Array.getElem?_eq_some_iff.1 hl3).1, (World.putObj_heap_other (by omega)).trans hd3⟩⟩
    | ret => exact hp.elim
    | goto t => exact hp.elim
    | panic ch => exact hp.elim
    | outgrown => exact hp.elim
  · rintro e W2 ⟨⟨v, rfl⟩, c, hi, hl, hk⟩
    exact ⟨some (.exit c), _, run_endLoop hl (by intro h; cases h), hstop _ c _ (Nat.le_refl _) (hIx _ _ _ _ _ (by omega) hl rfl hi) ((World.putObj_heap_other (by omega)).trans hk)⟩
end

end Go.Proofs.YtdilchcnfnfdiaaGreatDoor
