/- Slices that are read as lists (of ints, of bools); a world in which all that was there still is. -/
import Derived.Test.YtabjknljcmcmfaaDoorInts
namespace Go.Proofs.YtabjknljcmcmfaaDoor
open Go.RowKit

/-- All that was there in w is as it was. -/
def Ext (w w' : World) : Prop := Below w.heap.size w w'
theorem Ext.refl (w : World) : Ext w w := Below.refl _ w
theorem Ext.trans {a b c : World} (h : Ext a b) (k : Ext b c) : Ext a c := Below.trans h (Below.mono k h.size)
theorem Ext.alloc {a w : World} (h : Ext a w) (o : Obj) : Ext a (w.alloc o) := Below.alloc h h.size o
theorem Ext.drewN {a w : World} (h : Ext a w) (n : Nat) : Ext a (w.drewN n) := ⟨h.os, h.tape, h.output, h.size, h.block⟩
theorem Ext.drew {a w : World} (h : Ext a w) : Ext a w.drew := Below.drew h
theorem Ext.set {a w : World} (h : Ext a w) {p : Addr} (hp : a.heap.size ≤ p.block) (u : Value) : Ext a (w.setCell p u) := Below.setCell h hp u
theorem Ext.keeps {F : Nat → Prop} {a b c : World} (h : Ext a b) (k : Keeps F b c) (hF : ∀ i, F i → a.heap.size ≤ i) : Ext a c := Below.trans h (k.below hF h.size)
theorem Ext.to_keeps {a b : World} (h : Ext a b) : Keeps (fun _ => False) a b := Keeps.of_below h
theorem Ext.cell {a b : World} (h : Ext a b) {p : Addr} {v : Value} (hp : a.cell? p = some v) : b.cell? p = some v := (Below.cell h (World.block_lt_of_cell? a p hp)).trans hp
theorem Ext.blk {a b : World} (h : Ext a b) {k : Nat} {o : Obj} (hk : a.heap[k]? = some o) : b.heap[k]? = some o := (h.block k (block_lt hk)).trans hk
theorem Ext.size {a b : World} (h : Ext a b) : a.heap.size ≤ b.heap.size := Below.size h

/-- The slice value v holds the list xs. -/
def Rd {α : Type} (f : α → Value) (d : α) (w : World) (v : Value) (xs : List α) : Prop :=
  ∃ A cap, v = .slice A xs.length cap ∧ xs.length ≤ cap ∧ ∀ i, i < xs.length → ∃ x, A = some x ∧ w.cell? (x.add i) = some (f (xs.getD i d))
abbrev RdI (w : World) (v : Value) (xs : List Int) : Prop := Rd num 0 w v xs
abbrev RdB (w : World) (v : Value) (xs : List Bool) : Prop := Rd Value.bool false w v xs

theorem Rd.ext {α : Type} {f : α → Value} {d : α} {w w' : World} {v : Value} {xs : List α} (h : Rd f d w v xs) (e : Ext w w') : Rd f d w' v xs := by
  obtain ⟨A, cap, hv, hc, hi⟩ := h
  exact ⟨A, cap, hv, hc, fun i hl => by
    obtain ⟨x, hx, hcell⟩ := hi i hl
    exact ⟨x, hx, e.cell hcell⟩⟩
theorem Rd.nil {α : Type} (f : α → Value) (d : α) (w : World) : Rd f d w (.slice none 0 0) [] := ⟨none, 0, rfl, Nat.le_refl _, fun i hi => by simp at hi⟩
theorem zero_add (g i : Nat) : (⟨g, 0, none⟩ : Addr).add i = ⟨g, i, none⟩ := by unfold Addr.add; split <;> simp_all
theorem Own.rd {w : World} {B : Nat} {v : Value} {xs : List Int} (h : Own w B v xs) : RdI w v xs := by
  obtain ⟨A, cap, hv, hc, hi⟩ := h.shape
  exact ⟨A, cap, hv, hc, fun i hl => by
    obtain ⟨g, hg, hcell⟩ := hi i hl
    exact ⟨⟨g, 0, none⟩, hg, by rw [zero_add]; exact hcell⟩⟩

set_option maxRecDepth 100000 in
/-- Two lists of ints, held against each other. -/
theorem same_rd {w : World} {v v' : Value} {a b : List Int} (ha : RdI w v a) (hb : RdI w v' b) (hl : a.length ≤ 1048576) (hl' : b.length ≤ 1048576) :
    Calls Tryd.prog 19 #[v, v'] w fun e w' => e = .returned (.bool (decide (a = b))) ∧ ∃ n, w' = w.drewN n := by
  obtain ⟨A, ca, rfl, hca, hA⟩ := ha
  obtain ⟨A', cb, rfl, hcb, hA'⟩ := hb
  have HA := Lib.hid hA
  have HA' := Lib.hid hA'
  clear hA hA'
  by_cases hne : a.length = b.length
  · have h1 : ((a.length : Int) != (b.length : Int)) = false := by simp [hne]
    have NE := Lib.hid hne
    clear hne
    go_enter Tryd.func19, Tryd.ntmps19
    go_wp2
    go_loopw [5] (fun i wr => SameRel w a b i wr) (fun i _ => a.length - (intOf i).toNat)
    case atStart => exact ⟨0, 0, Nat.zero_le _, rfl, rfl, rfl⟩
    case round =>
      obtain ⟨k, n, hk, rfl, ht, rfl⟩ := hrel
      have HT := Lib.hid ht
      clear ht h1
      by_cases hlt : k < a.length
      · obtain ⟨g, rfl, hc⟩ := HA.out k hlt
        have hlt' : k < b.length := by have := NE.out; omega
        obtain ⟨g', rfl, hc'⟩ := HA'.out k hlt'
        clear HA HA'
        by_cases e : a.getD k 0 = b.getD k 0
        · have ts := Lib.hid (take_step hlt NE.out HT.out e)
          rw [← e] at hc'
          clear e
          generalize a.getD k 0 = p at hc hc'
          have q : (p != p) = false := by simp
          go_wp2
          go_quiet (fail)
          go_wp2
          go_roundw
          case rel => exact ⟨k + 1, n + nq, by omega, by go_num, ts.out, rfl⟩
          case measure => simp [intOf]; omega
        · have tp := Lib.hid (take_part e)
          generalize a.getD k 0 = p at hc e
          generalize b.getD k 0 = p' at hc' e
          have q : (p != p') = true := by simpa using e
          clear e
          go_wp2
          go_quiet (fail)
          go_wp2
          go_ret
          exact ⟨by rw [decide_eq_false tp.out]; rfl, n + nq, World.drewN_drewN _ _ _⟩
      · go_wp2
        go_ret
        have hab : a = b := by
          have h2 := NE.out
          have h3 := HT.out
          rw [List.take_of_length_le (by omega), List.take_of_length_le (by omega)] at h3
          exact h3
        exact ⟨by rw [decide_eq_true hab]; rfl, n, rfl⟩
  · have h1 : ((a.length : Int) != (b.length : Int)) = true := by simp; omega
    have hab : a ≠ b := by rintro rfl; exact hne rfl
    go_enter Tryd.func19, Tryd.ntmps19
    go_wp2
    go_ret
    exact ⟨by rw [decide_eq_false hab]; rfl, 0, rfl⟩

end Go.Proofs.YtabjknljcmcmfaaDoor
