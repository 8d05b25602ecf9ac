/- Slices of ints that the call itself makes: one more at the end; two that are held against each other. Slices that are read as lists (of ints, of bools); a world in which all that was there still is. Sectors: sixty-four cells in a row; a drive's maps. Plain facts about memory. -/
import Derived.Test.YtdilchcnfnfdiaaGreatDoorChecked
import Derived.Test.YtdilchcnfnfdiaaGreatDoorMem
import Derived.Deep.AppendLies
import Derived.BigQuiet
import Derived.Lib.Hide
import Derived.WalkLawsBesides
import Derived.Deep.MidRow
import Derived.Deep.RegionHeld3
import Derived.Great.BuildSlice
import Derived.Maps.OwnSet
import Derived.Maps.Range
import Derived.Maps.RangeWalk
import Derived.StillTailTactics
namespace Go.Proofs.YtdilchcnfnfdiaaGreatDoor
open Go.RowKit

theorem Tryz.uInts : Tryz.prog.underlying 23 = some (.slice 3) := by kernel_rfl
theorem Tryz.iInt : (Tryz.prog.info? 3).map (fun i => (i.zero, i.size, i.bytes)) = some (some (num 0), 1, 8) := by kernel_rfl

def nums (xs : List Int) : List Value := xs.map num
theorem nums_append (a b : List Int) : nums (a ++ b) = nums a ++ nums b := List.map_append
theorem nums_length (a : List Int) : (nums a).length = a.length := List.length_map ..

/-- v is a slice of the call's own (from block B on) that holds xs. -/
def Own (w : World) (B : Nat) (v : Value) (xs : List Int) : Prop := w.ownsRow B 3 1 v xs.length (nums xs)

theorem Own.nil (w : World) (B : Nat) : Own w B (.slice none 0 0) [] := w.ownsRow_nil B _ 1
theorem Own.of_eq {w w' : World} {B : Nat} {v : Value} {xs : List Int} (h : Own w B v xs) (hk : ∀ g, v.ownBlock = some g → w'.heap[g]? = w.heap[g]?) : Own w' B v xs := by
  refine ⟨h.1, ?_⟩
  rcases h.2 with hn | ⟨g, cap, cur, rfl, hb, hgg, rest⟩
  · exact .inl hn
  · exact .inr ⟨g, cap, cur, rfl, hb, (hk g rfl).trans hgg, rest⟩
theorem Own.lt {w : World} {B : Nat} {v : Value} {xs : List Int} (h : Own w B v xs) {g : Nat} (hg : v.ownBlock = some g) : B ≤ g ∧ g < w.heap.size := World.ownsRow.lt h g hg
theorem Own.keep {w w' : World} {B : Nat} {v : Value} {xs : List Int} (h : Own w B v xs) {F : Nat → Prop} (k : Keeps F w w') (hF : ∀ g, v.ownBlock = some g → ¬ F g) : Own w' B v xs :=
  h.of_eq fun g hg => k.block g (h.lt hg).2 (hF g hg)
theorem Own.mono {w : World} {B B' : Nat} {v : Value} {xs : List Int} (h : Own w B v xs) (hB : B' ≤ B) : Own w B' v xs := by
  refine ⟨h.1, ?_⟩
  rcases h.2 with hn | ⟨g, cap, cur, rfl, hb, rest⟩
  · exact .inl hn
  · exact .inr ⟨g, cap, cur, rfl, Nat.le_trans hB hb, rest⟩
/-- The shape of such a value. -/
theorem Own.shape {w : World} {B : Nat} {v : Value} {xs : List Int} (h : Own w B v xs) : ∃ A cap, v = .slice A xs.length cap ∧ xs.length ≤ cap ∧ ∀ i, i < xs.length → ∃ g, A = some ⟨g, 0, none⟩ ∧ w.cell? ⟨g, i, none⟩ = some (num (xs.getD i 0)) := by
  rcases h.2 with ⟨rfl, hn⟩ | ⟨g, cap, cur, rfl, hb, hgg, hc, _, hs, ht⟩
  · exact ⟨none, 0, by rw [hn], by omega, fun i hi => by omega⟩
  · refine ⟨some ⟨g, 0, none⟩, cap, rfl, hc, fun i hi => ⟨g, rfl, ?_⟩⟩
    rw [cell_blk hgg]
    have h1 : (nums xs)[i]? = some (num (xs.getD i 0)) := by
      simp [nums, hi]
    rw [← ht, List.getElem?_take] at h1
    split at h1
    · simpa using h1
    · cases h1

section
variable {P : Program} {w : World} {ops : Array Oper} {rest : List Oper} {o : Oper} {a : Act} {Q : Exit → Act → World → Prop}

/-- 'xs = append(xs, y)' at a slice of the call's own. -/
theorem wpList_append_num (hg : o.guard = none) (s x : Operand) (ho : o.op = .call { callee := .builtin .append, args := #[s, x], argTypes := #[23, 23] })
    (B : Nat) (v : Value) (xs : List Int) (hs : a.eval s = v) (hown : Own w B v xs) (b : Nat) (y : Int) (hx : a.eval x = .slice (some ⟨b, 0, none⟩) 1 1) (hb : w.heap[b]? = some (.cells #[num y] 3 (0, 0)))
    (hlen : xs.length ≤ 1048576) (hB : B ≤ w.heap.size)
    (h : ∀ g cap w', Own w' B (.slice (some ⟨g, 0, none⟩) (xs.length + 1) cap) (xs ++ [y]) → Keeps (fun k => v.ownBlock = some k) w w' → (v.ownBlock = some g ∨ g = w.heap.size) → wpList Tryz.prog ops Q rest (a.put o.dst (.slice (some ⟨g, 0, none⟩) (xs.length + 1) cap)) w') :
    wpList Tryz.prog ops Q (o :: rest) a w := by
  obtain ⟨i, hi, hz0, hz1, hz2⟩ := info_parts Tryz.iInt
  refine wpList_append_lies w hg s x 23 ho B 3 i (num 0) 1 8 Tryz.uInts hi hz0 hz1 hz2 rfl (by decide) v xs.length (nums xs) hs hown ⟨b, 0, none⟩ 1 1 [num y] hx rfl (World.news_of_block (cs := #[num y]) hb) (by simp [Value.oneCell']) (by decide) (by unfold maxLen; omega) (by omega) hB w.heap.size rfl ?_
  intro g cap w' h1 h2 h3 h4
  refine h g cap w' ?_ ⟨h2.os, h2.tape, h2.output, h2.size, fun k hk hne => h2.block k hk (fun e => hne e.symm)⟩ h3
  unfold Own
  rw [nums_append, List.length_append]
  exact h1
end

end Go.Proofs.YtdilchcnfnfdiaaGreatDoor
namespace Go.Proofs.YtdilchcnfnfdiaaGreatDoor
open Go.RowKit

/-- All that was there in w is as it was. -/
def Ext (w w' : World) : Prop := Below w.heap.size w w'
theorem Ext.refl (w : World) : Ext w w := Below.refl _ w
theorem Ext.trans {a b c : World} (h : Ext a b) (k : Ext b c) : Ext a c := Below.trans h (Below.mono k h.size)
theorem Ext.alloc {a w : World} (h : Ext a w) (o : Obj) : Ext a (w.alloc o) := Below.alloc h h.size o
theorem Ext.drewN {a w : World} (h : Ext a w) (n : Nat) : Ext a (w.drewN n) := ⟨h.os, h.tape, h.output, h.size, h.block⟩
theorem Ext.drew {a w : World} (h : Ext a w) : Ext a w.drew := Below.drew h
theorem Ext.set {a w : World} (h : Ext a w) {p : Addr} (hp : a.heap.size ≤ p.block) (u : Value) : Ext a (w.setCell p u) := Below.setCell h hp u
theorem Ext.keeps {F : Nat → Prop} {a b c : World} (h : Ext a b) (k : Keeps F b c) (hF : ∀ i, F i → a.heap.size ≤ i) : Ext a c := Below.trans h (k.below hF h.size)
theorem Ext.to_keeps {a b : World} (h : Ext a b) : Keeps (fun _ => False) a b := Keeps.of_below h
theorem Ext.cell {a b : World} (h : Ext a b) {p : Addr} {v : Value} (hp : a.cell? p = some v) : b.cell? p = some v := (Below.cell h (World.block_lt_of_cell? a p hp)).trans hp
theorem Ext.blk {a b : World} (h : Ext a b) {k : Nat} {o : Obj} (hk : a.heap[k]? = some o) : b.heap[k]? = some o := (h.block k (block_lt hk)).trans hk
theorem Ext.size {a b : World} (h : Ext a b) : a.heap.size ≤ b.heap.size := Below.size h

/-- The slice value v holds the list xs. -/
def Rd {α : Type} (f : α → Value) (d : α) (w : World) (v : Value) (xs : List α) : Prop :=
  ∃ A cap, v = .slice A xs.length cap ∧ xs.length ≤ cap ∧ ∀ i, i < xs.length → ∃ x, A = some x ∧ w.cell? (x.add i) = some (f (xs.getD i d))
abbrev RdI (w : World) (v : Value) (xs : List Int) : Prop := Rd num 0 w v xs
abbrev RdB (w : World) (v : Value) (xs : List Bool) : Prop := Rd Value.bool false w v xs

theorem Rd.ext {α : Type} {f : α → Value} {d : α} {w w' : World} {v : Value} {xs : List α} (h : Rd f d w v xs) (e : Ext w w') : Rd f d w' v xs := by
  obtain ⟨A, cap, hv, hc, hi⟩ := h
  exact ⟨A, cap, hv, hc, fun i hl => by
    obtain ⟨x, hx, hcell⟩ := hi i hl
    exact ⟨x, hx, e.cell hcell⟩⟩
theorem Rd.nil {α : Type} (f : α → Value) (d : α) (w : World) : Rd f d w (.slice none 0 0) [] := ⟨none, 0, rfl, Nat.le_refl _, fun i hi => by simp at hi⟩
theorem zero_add (g i : Nat) : (⟨g, 0, none⟩ : Addr).add i = ⟨g, i, none⟩ := by unfold Addr.add; split <;> simp_all
theorem Own.rd {w : World} {B : Nat} {v : Value} {xs : List Int} (h : Own w B v xs) : RdI w v xs := by
  obtain ⟨A, cap, hv, hc, hi⟩ := h.shape
  exact ⟨A, cap, hv, hc, fun i hl => by
    obtain ⟨g, hg, hcell⟩ := hi i hl
    exact ⟨⟨g, 0, none⟩, hg, by rw [zero_add]; exact hcell⟩⟩

end Go.Proofs.YtdilchcnfnfdiaaGreatDoor
namespace Go.Proofs.YtdilchcnfnfdiaaGreatDoor
open Go.RowKit Go.Maps
open Go.ChangeMaps (setBlock)

theorem Tryz.uSecs : Tryz.prog.underlying 91 = some (.slice 100) := by kernel_rfl
theorem Tryz.iSec : (Tryz.prog.info? 100).map (fun i => (i.zero, i.size, i.bytes)) = some (some (.agg (Array.replicate 64 (.int .u8 0))), 64, 64) := by kernel_rfl
theorem Tryz.uSec : Tryz.prog.underlying 100 = some (.array 64 5) := by kernel_rfl
theorem Tryz.sSec : (Tryz.prog.info? 100).map (·.size) = some 64 := by kernel_rfl
theorem Tryz.uWrites : Tryz.prog.underlying 92 = some (.map 3 91) := by kernel_rfl
theorem Tryz.uSpoilt : Tryz.prog.underlying 93 = some (.map 3 4) := by kernel_rfl
theorem Tryz.zSecs (w : World) : (zeroValue 91).run Tryz.prog w = .ok (.slice none 0 0) w := by kernel_rfl
theorem Tryz.zBool (w : World) : (zeroValue 4).run Tryz.prog w = .ok (.bool false) w := by kernel_rfl
theorem Tryz.intKey : Keyed Tryz.prog 3 := int_keyed Tryz.underlying3

/-- A sector: its bytes. -/
abbrev Sec := List Nat
def cellsS (s : Sec) : List Value := s.map fun (b : Nat) => Value.int .u8 (b : Int)
theorem cellsS_len (s : Sec) : (cellsS s).length = s.length := by simp [cellsS]
theorem cellsS_one (s : Sec) : ∀ v ∈ cellsS s, v.oneCell' = true := by
  intro v hv
  obtain ⟨b, _, rfl⟩ := List.mem_map.1 hv
  rfl
abbrev keyI (i : Int) : Lit := .int .i64 i

theorem run_buildSec (w : World) (s : Sec) (hs : s.length = 64) : (Instr.buildSlice 91 1 #[(0, .agg (cellsS s).toArray)]).run Tryz.prog w = .ok (.slice (some ⟨w.heap.size, 0, none⟩) 1 1) (w.alloc (.cells (cellsS s).toArray 100)) := by
  obtain ⟨i, hi, hz0, hz1, hz2⟩ := info_parts Tryz.iSec
  refine run_buildSlice w _ _ 1 _ _ i _ Tryz.uSecs hi hz0 (by rw [hz1]; decide) (by rw [hz1]; decide) ?_
  rw [hz1]
  have hsz : (cellsS s).toArray.size = 64 := by simp [cellsS_len, hs]
  obtain ⟨r, h1, h2, h3⟩ := Great.fill_dense (s := 64) (by decide) [.agg (cellsS s).toArray] 0 ((Array.range (1 * 64)).map ((Value.agg (Array.replicate 64 (.int .u8 0))).cells[· % (Value.agg (Array.replicate 64 (.int .u8 0))).cells.size]!)) (by
    intro v hv
    simp only [List.mem_singleton] at hv
    subst hv
    exact hsz) (by simp)
  have e : r = (cellsS s).toArray := by
    apply Array.ext_getElem?
    intro k
    rw [h3 k]
    by_cases hk : k < 64
    · rw [if_pos ⟨by omega, by simpa using hk⟩]
      have e1 : k / 64 = 0 := by omega
      have e2 : k % 64 = k := by omega
      simp [e1, e2, Value.cells]
    · rw [if_neg (by simp; omega), Array.getElem?_eq_none (by simp; omega), Array.getElem?_eq_none (by omega)]
  rw [e] at h1
  exact h1

/-! ### A slice of sectors, as a map's element -/
def rowRef (v : Value) : Option (DataW Unit × List MemPlace) :=
  match v with
  | .slice (some ⟨g, 0, none⟩) n c => some (.agg [.lit (.int .i64 g), .lit (.int .i64 n), .lit (.int .i64 c)], [])
  | .slice none 0 0 => some (.nil, [])
  | _ => none
theorem rowRef_some (g n c : Nat) : rowRef (.slice (some ⟨g, 0, none⟩) n c) = some (.agg [.lit (.int .i64 g), .lit (.int .i64 n), .lit (.int .i64 c)], []) := rfl
theorem rowRef_nil : rowRef (.slice none 0 0) = some (.nil, []) := rfl
theorem rowRef_form {v : Value} {z : DataW Unit × List MemPlace} (h : rowRef v = some z) : (∃ g n c, v = .slice (some ⟨g, 0, none⟩) n c) ∨ v = .slice none 0 0 := by
  unfold rowRef at h
  split at h
  · exact .inl ⟨_, _, _, rfl⟩
  · exact .inr rfl
  · cases h
theorem rowRef_inj {v v' : Value} {d : DataW Unit} {p p' : List MemPlace} (h : rowRef v = some (d, p)) (h' : rowRef v' = some (d, p')) : v = v' := by
  rcases rowRef_form h with ⟨g, n, c, rfl⟩ | rfl <;> rcases rowRef_form h' with ⟨g', n', c', rfl⟩ | rfl
  · rw [rowRef_some] at h h'
    injection h with h; injection h' with h'
    injection h with h _; injection h' with h' _
    rw [← h] at h'
    injection h' with h'
    injection h' with e1 h'
    injection h' with e2 h'
    injection h' with e3 _
    injection e1 with e1; injection e2 with e2; injection e3 with e3
    injection e1 with _ e1; injection e2 with _ e2; injection e3 with _ e3
    have e1 : g' = g := by omega
    have e2 : n' = n := by omega
    have e3 : c' = c := by omega
    rw [e1, e2, e3]
  · rw [rowRef_some] at h; rw [rowRef_nil] at h'
    injection h with h; injection h' with h'
    injection h with h _; injection h' with h' _
    rw [← h] at h'; cases h'
  · rw [rowRef_nil] at h; rw [rowRef_some] at h'
    injection h with h; injection h' with h'
    injection h with h _; injection h' with h' _
    rw [← h] at h'; cases h'
  · rfl

/-- v is a slice of the call's own (from block B on) of the sectors ss. -/
def OwnS (w : World) (B : Nat) (v : Value) (ss : List Sec) : Prop := w.ownsRow B 100 64 v ss.length (ss.flatMap cellsS)
theorem OwnS.nil (w : World) (B : Nat) : OwnS w B (.slice none 0 0) [] := w.ownsRow_nil B _ 64
theorem OwnS.lt {w : World} {B : Nat} {v : Value} {ss : List Sec} (h : OwnS w B v ss) {g : Nat} (hg : v.ownBlock = some g) : B ≤ g ∧ g < w.heap.size := World.ownsRow.lt h g hg
theorem OwnS.keep {w w' : World} {B : Nat} {v : Value} {ss : List Sec} (h : OwnS w B v ss) {F : Nat → Prop} (k : Keeps F w w') (hF : ∀ g, v.ownBlock = some g → ¬ F g) : OwnS w' B v ss := by
  refine ⟨h.1, ?_⟩
  rcases h.2 with hn | ⟨g, cap, cur, rfl, hb, hgg, rest⟩
  · exact .inl hn
  · exact .inr ⟨g, cap, cur, rfl, hb, (k.block g (block_lt hgg) (hF g rfl)).trans hgg, rest⟩
theorem OwnS.mono {w : World} {B B' : Nat} {v : Value} {ss : List Sec} (h : OwnS w B v ss) (hB : B' ≤ B) : OwnS w B' v ss := by
  refine ⟨h.1, ?_⟩
  rcases h.2 with hn | ⟨g, cap, cur, rfl, hb, rest⟩
  · exact .inl hn
  · exact .inr ⟨g, cap, cur, rfl, Nat.le_trans hB hb, rest⟩

/-! ### What a drive has pending -/
/-- The map's datum D tells, of each number, the slice that owns the sectors wr of it. -/
structure Rows (w : World) (B : Nat) (D : DataW Unit) (wr : Int → List Sec) (V : Int → Value) : Prop where
  at_ : ∀ i, rowRef (V i) = some (D.atKey (keyI i) .nil, [])
  own : ∀ i, OwnS w B (V i) (wr i)
  apart : ∀ i j g, i ≠ j → (V i).ownBlock = some g → (V j).ownBlock ≠ some g
  has : ∀ i, Maps.has D (keyI i) = !(wr i).isEmpty
theorem Rows.empty (w : World) (B : Nat) : Rows w B (.map []) (fun _ => []) (fun _ => .slice none 0 0) := ⟨fun _ => rfl, fun _ => OwnS.nil _ _, (fun _ _ _ _ h => by cases h), fun _ => rfl⟩
theorem Rows.keep {w w' : World} {B : Nat} {D : DataW Unit} {wr : Int → List Sec} {V : Int → Value} (h : Rows w B D wr V) {F : Nat → Prop} (k : Keeps F w w') (hF : ∀ g, B ≤ g → ¬ F g) : Rows w' B D wr V :=
  ⟨h.at_, fun i => (h.own i).keep k (fun g hg => hF g ((h.own i).lt hg).1), h.apart, h.has⟩

end Go.Proofs.YtdilchcnfnfdiaaGreatDoor
