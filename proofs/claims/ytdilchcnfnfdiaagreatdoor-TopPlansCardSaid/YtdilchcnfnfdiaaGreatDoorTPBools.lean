/- Slices of bools that the call itself makes. -/
import Derived.Test.YtdilchcnfnfdiaaGreatDoorTStatus
namespace Go.Proofs.YtdilchcnfnfdiaaGreatDoor
open Go.RowKit

theorem Tryz.uBools : Tryz.prog.underlying 58 = some (.slice 4) := by kernel_rfl
theorem Tryz.iBool : (Tryz.prog.info? 4).map (fun i => (i.zero, i.size, i.bytes)) = some (some (Value.bool false), 1, 1) := by kernel_rfl

def bools (xs : List Bool) : List Value := xs.map Value.bool
theorem bools_append (a b : List Bool) : bools (a ++ b) = bools a ++ bools b := List.map_append
def OwnB (w : World) (B : Nat) (v : Value) (xs : List Bool) : Prop := w.ownsRow B 4 1 v xs.length (bools xs)

theorem OwnB.lt {w : World} {B : Nat} {v : Value} {xs : List Bool} (h : OwnB w B v xs) {g : Nat} (hg : v.ownBlock = some g) : B ≤ g ∧ g < w.heap.size := World.ownsRow.lt h g hg
theorem OwnB.of_eq {w w' : World} {B : Nat} {v : Value} {xs : List Bool} (h : OwnB w B v xs) (hk : ∀ g, v.ownBlock = some g → w'.heap[g]? = w.heap[g]?) : OwnB w' B v xs := by
  refine ⟨h.1, ?_⟩
  rcases h.2 with hn | ⟨g, cap, cur, rfl, hb, hgg, rest⟩
  · exact .inl hn
  · exact .inr ⟨g, cap, cur, rfl, hb, (hk g rfl).trans hgg, rest⟩
theorem OwnB.keep {w w' : World} {B : Nat} {v : Value} {xs : List Bool} (h : OwnB w B v xs) {F : Nat → Prop} (k : Keeps F w w') (hF : ∀ g, v.ownBlock = some g → ¬ F g) : OwnB w' B v xs :=
  h.of_eq fun g hg => k.block g (h.lt hg).2 (hF g hg)
theorem OwnB.ext {w w' : World} {B : Nat} {v : Value} {xs : List Bool} (h : OwnB w B v xs) (e : Ext w w') : OwnB w' B v xs := h.keep e.to_keeps (fun _ _ h => h)
theorem OwnB.rd {w : World} {B : Nat} {v : Value} {xs : List Bool} (h : OwnB w B v xs) : RdB w v xs := by
  rcases h.2 with ⟨rfl, hn⟩ | ⟨g, cap, cur, rfl, hb, hgg, hc, _, hs, ht⟩
  · exact ⟨none, 0, by rw [hn], by omega, fun i hi => by omega⟩
  · refine ⟨some ⟨g, 0, none⟩, cap, rfl, hc, fun i hi => ⟨⟨g, 0, none⟩, rfl, ?_⟩⟩
    rw [zero_add, cell_blk hgg]
    have h1 : (bools xs)[i]? = some (Value.bool (xs.getD i false)) := by simp [bools, hi]
    rw [← ht, List.getElem?_take] at h1
    split at h1
    · simpa using h1
    · cases h1
theorem Own.ext {w w' : World} {B : Nat} {v : Value} {xs : List Int} (h : Own w B v xs) (e : Ext w w') : Own w' B v xs := h.keep e.to_keeps (fun _ _ h => h)

section
variable {w : World} {ops : Array Oper} {rest : List Oper} {o : Oper} {a : Act} {Q : Exit → Act → World → Prop}
/-- 'xs = append(xs, y)' at a slice of bools of the call's own. -/
theorem wpList_append_bool (hg : o.guard = none) (s x : Operand) (ho : o.op = .call { callee := .builtin .append, args := #[s, x], argTypes := #[58, 58] })
    (B : Nat) (v : Value) (xs : List Bool) (hs : a.eval s = v) (hown : OwnB w B v xs) (b : Nat) (y : Bool) (hx : a.eval x = .slice (some ⟨b, 0, none⟩) 1 1) (hb : w.heap[b]? = some (.cells #[.bool y] 4 (0, 0)))
    (hlen : xs.length ≤ 1048576) (hB : B ≤ w.heap.size)
    (h : ∀ g cap w', OwnB w' B (.slice (some ⟨g, 0, none⟩) (xs.length + 1) cap) (xs ++ [y]) → Keeps (fun k => v.ownBlock = some k) w w' → (v.ownBlock = some g ∨ g = w.heap.size) → wpList Tryz.prog ops Q rest (a.put o.dst (.slice (some ⟨g, 0, none⟩) (xs.length + 1) cap)) w') :
    wpList Tryz.prog ops Q (o :: rest) a w := by
  obtain ⟨i, hi, hz0, hz1, hz2⟩ := info_parts Tryz.iBool
  refine wpList_append_lies w hg s x 58 ho B 4 i (.bool false) 1 1 Tryz.uBools hi hz0 hz1 hz2 rfl (by decide) v xs.length (bools xs) hs hown ⟨b, 0, none⟩ 1 1 [.bool y] hx rfl (World.news_of_block (cs := #[.bool y]) hb) (by simp [Value.oneCell']) (by decide) (by unfold maxLen; omega) (by omega) hB w.heap.size rfl ?_
  intro g cap w' h1 h2 h3 h4
  refine h g cap w' ?_ ⟨h2.os, h2.tape, h2.output, h2.size, fun k hk hne => h2.block k hk (fun e => hne e.symm)⟩ h3
  unfold OwnB
  rw [bools_append, List.length_append]
  exact h1
end

end Go.Proofs.YtdilchcnfnfdiaaGreatDoor
