/- Layer 10: the reference's own map in memory; New, Region, row, region. -/
import Derived.Test.YtabjknljcmcmfaaDoorIntBytes
import Derived.Test.YtabjknljcmcmfaaDoorBools
namespace Go.Proofs.YtabjknljcmcmfaaDoor
open Go.RowKit

/-- The reference's map: its block r, the blocks g1, g2 of its two slices; it holds the same x and the same counters. -/
structure RefV (w : World) (r g1 g2 rows x : Nat) (busy : List Int) : Prop where
  blk : ∃ c1 c2, w.heap[r]? = some (.cells #[num rows, .slice (some ⟨g1, 0, none⟩) (regs rows) c1, .slice (some ⟨g2, 0, none⟩) (regs rows) c2] 60)
  st : ∃ cs, w.heap[g1]? = some (.cells cs 4) ∧ ∀ i, i < regs rows → cs[i]? = some (.bool (x.testBit i))
  bu : ∃ cs, w.heap[g2]? = some (.cells cs 3) ∧ ∀ i, i < regs rows → cs[i]? = some (num (busy.getD i 0))
  ne1 : r ≠ g1
  ne2 : r ≠ g2
  ne : g1 ≠ g2
  row1 : 1 ≤ rows
  row2 : rows ≤ 256
  len : busy.length = regs rows
abbrev refF (r g1 g2 : Nat) : Nat → Prop := fun i => i = r ∨ i = g1 ∨ i = g2

section
variable {w : World} {r g1 g2 rows x : Nat} {busy : List Int} (h : RefV w r g1 g2 rows x busy)
include h
theorem RefV.keep {w' : World} {F : Nat → Prop} (k : Keeps F w w') (h1 : ¬ F r) (h2 : ¬ F g1) (h3 : ¬ F g2) : RefV w' r g1 g2 rows x busy := by
  obtain ⟨⟨c1, c2, b⟩, ⟨cs, b1, hc1⟩, ⟨cs', b2, hc2⟩, n1, n2, n3, r1, r2, hl⟩ := h
  exact ⟨⟨c1, c2, k.blk b h1⟩, ⟨cs, k.blk b1 h2, hc1⟩, ⟨cs', k.blk b2 h3, hc2⟩, n1, n2, n3, r1, r2, hl⟩
theorem RefV.ext {w' : World} (e : Ext w w') : RefV w' r g1 g2 rows x busy := h.keep e.to_keeps (fun h => h) (fun h => h) (fun h => h)
theorem RefV.lt : r < w.heap.size ∧ g1 < w.heap.size ∧ g2 < w.heap.size := by
  obtain ⟨⟨c1, c2, b⟩, ⟨cs, b1, hc1⟩, ⟨cs', b2, hc2⟩, _⟩ := h
  exact ⟨block_lt b, block_lt b1, block_lt b2⟩
theorem RefV.c0 : w.cell? ⟨r, 0, none⟩ = some (num rows) := by
  obtain ⟨⟨c1, c2, b⟩, _⟩ := h
  rw [cell_blk b]; rfl
theorem RefV.c1 : ∃ c, w.cell? ⟨r, 1, none⟩ = some (.slice (some ⟨g1, 0, none⟩) (regs rows) c) := by
  obtain ⟨⟨c1, c2, b⟩, _⟩ := h
  exact ⟨c1, by rw [cell_blk b]; rfl⟩
theorem RefV.c2 : ∃ c, w.cell? ⟨r, 2, none⟩ = some (.slice (some ⟨g2, 0, none⟩) (regs rows) c) := by
  obtain ⟨⟨c1, c2, b⟩, _⟩ := h
  exact ⟨c2, by rw [cell_blk b]; rfl⟩
theorem RefV.s (i : Nat) (hi : i < regs rows) : w.cell? ⟨g1, i, none⟩ = some (.bool (x.testBit i)) := by
  obtain ⟨_, ⟨cs, b1, hc1⟩, _⟩ := h
  rw [cell_blk b1, hc1 i hi]
theorem RefV.sf (i : Nat) : w.frozen? ⟨g1, i, none⟩ = false := by
  obtain ⟨_, ⟨cs, b1, hc1⟩, _⟩ := h
  exact free_blk b1 i
theorem RefV.b (i : Nat) (hi : i < regs rows) : w.cell? ⟨g2, i, none⟩ = some (num (busy.getD i 0)) := by
  obtain ⟨_, _, ⟨cs, b1, hc1⟩, _⟩ := h
  rw [cell_blk b1, hc1 i hi]
theorem RefV.bf (i : Nat) : w.frozen? ⟨g2, i, none⟩ = false := by
  obtain ⟨_, _, ⟨cs, b1, hc1⟩, _⟩ := h
  exact free_blk b1 i
theorem RefV.setS (i : Nat) (hi : i < regs rows) (b : Bool) (x' : Nat) (hx : ∀ j, j < regs rows → x'.testBit j = if j = i then b else x.testBit j) : RefV (w.setCell ⟨g1, i, none⟩ (.bool b)) r g1 g2 rows x' busy := by
  obtain ⟨⟨c1, c2, b0⟩, ⟨cs, b1, hc1⟩, ⟨cs', b2, hc2⟩, n1, n2, n3, r1, r2, hl⟩ := h
  refine ⟨⟨c1, c2, (set_far n1 _).trans b0⟩, ⟨_, set_blk b1 i (.bool b), fun j hj => ?_⟩, ⟨cs', (set_far n3.symm _).trans b2, hc2⟩, n1, n2, n3, r1, r2, hl⟩
  rw [Array.getElem?_setIfInBounds, hx j hj]
  by_cases e : i = j
  · subst e
    have : i < cs.size := (Array.getElem?_eq_some_iff.1 (hc1 i hi)).1
    rw [if_pos rfl, if_pos this, if_pos rfl]
  · rw [if_neg e, if_neg (fun h => e h.symm), hc1 j hj]
theorem RefV.setB (i : Nat) (hi : i < regs rows) (v : Int) : RefV (w.setCell ⟨g2, i, none⟩ (num v)) r g1 g2 rows x (busy.set i v) := by
  obtain ⟨⟨c1, c2, b0⟩, ⟨cs, b1, hc1⟩, ⟨cs', b2, hc2⟩, n1, n2, n3, r1, r2, hl⟩ := h
  refine ⟨⟨c1, c2, (set_far n2 _).trans b0⟩, ⟨cs, (set_far n3 _).trans b1, hc1⟩, ⟨_, set_blk b2 i (num v), fun j hj => ?_⟩, n1, n2, n3, r1, r2, by rw [List.length_set]; exact hl⟩
  rw [Array.getElem?_setIfInBounds]
  by_cases e : i = j
  · subst e
    have h1 : i < cs'.size := (Array.getElem?_eq_some_iff.1 (hc2 i hi)).1
    have h2 : i < busy.length := by omega
    rw [if_pos rfl, if_pos h1]
    simp [List.getD_eq_getElem?_getD, h2]
  · rw [if_neg e, hc2 j hj]
    simp [List.getD_eq_getElem?_getD, List.getElem?_set_ne e]
end

/-! ### The small ones -/
theorem refRegion_walk (n : Nat) (w : World) (hr : n ≤ 1048576) : Calls Tryd.prog 23 #[num n] w fun e w' => e = .returned (num ((n / 4 : Nat) : Int)) ∧ w' = w := by
  go_enter Tryd.func23, Tryd.ntmps23
  go_wp2
  go_ret
  exact ⟨by simp, rfl⟩
section
variable {w : World} {r g1 g2 rows x : Nat} {busy : List Int} (h : RefV w r g1 g2 rows x busy)
include h
theorem refRow_walk (n : Int) : Calls Tryd.prog 45 #[ptr r, num n] w fun e w' => e = .returned (.bool (decide (0 ≤ n ∧ n < (rows : Int)))) ∧ w' = w := by
  have c0 := h.c0
  clear h
  by_cases h0 : 0 ≤ n
  · by_cases h1 : n < (rows : Int)
    · rw [decide_eq_true ⟨h0, h1⟩]
      go_enter Tryd.func45, Tryd.ntmps45
      go_wp2
      go_ret
      exact ⟨rfl, rfl⟩
    · rw [decide_eq_false (fun h => h1 h.2)]
      go_enter Tryd.func45, Tryd.ntmps45
      go_wp2
      go_ret
      exact ⟨rfl, rfl⟩
  · rw [decide_eq_false (fun h => h0 h.1)]
    go_enter Tryd.func45, Tryd.ntmps45
    go_wp2
    go_ret
    exact ⟨rfl, rfl⟩
theorem refReg_walk (n : Int) : Calls Tryd.prog 46 #[ptr r, num n] w fun e w' => e = .returned (.bool (decide (0 ≤ n ∧ n < (regs rows : Int)))) ∧ w' = w := by
  obtain ⟨c, c1⟩ := h.c1
  clear h
  by_cases h0 : 0 ≤ n
  · by_cases h1 : n < (regs rows : Int)
    · rw [decide_eq_true ⟨h0, h1⟩]
      go_enter Tryd.func46, Tryd.ntmps46
      go_wp2
      go_ret
      exact ⟨rfl, rfl⟩
    · rw [decide_eq_false (fun h => h1 h.2)]
      go_enter Tryd.func46, Tryd.ntmps46
      go_wp2
      go_ret
      exact ⟨rfl, rfl⟩
  · rw [decide_eq_false (fun h => h0 h.1)]
    go_enter Tryd.func46, Tryd.ntmps46
    go_wp2
    go_ret
    exact ⟨rfl, rfl⟩
end

end Go.Proofs.YtabjknljcmcmfaaDoor
