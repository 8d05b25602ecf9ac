/- Slices of ints that the call itself makes: one more at the end; two that are held against each other. -/
import Derived.Test.YtabjknljcmcmfaaDoorChecked
import Derived.Test.YtabjknljcmcmfaaDoorMem
import Derived.Deep.AppendLies
import Derived.BigQuiet
import Derived.Lib.Hide
import Derived.WalkLawsBesides
namespace Go.Proofs.YtabjknljcmcmfaaDoor
open Go.RowKit

theorem Tryd.uInts : Tryd.prog.underlying 35 = some (.slice 3) := by kernel_rfl
theorem Tryd.iInt : (Tryd.prog.info? 3).map (fun i => (i.zero, i.size, i.bytes)) = some (some (num 0), 1, 8) := by kernel_rfl

def nums (xs : List Int) : List Value := xs.map num
theorem nums_append (a b : List Int) : nums (a ++ b) = nums a ++ nums b := List.map_append
theorem nums_length (a : List Int) : (nums a).length = a.length := List.length_map ..

/-- v is a slice of the call's own (from block B on) that holds xs. -/
def Own (w : World) (B : Nat) (v : Value) (xs : List Int) : Prop := w.ownsRow B 3 1 v xs.length (nums xs)

theorem Own.nil (w : World) (B : Nat) : Own w B (.slice none 0 0) [] := w.ownsRow_nil B _ 1
theorem Own.of_eq {w w' : World} {B : Nat} {v : Value} {xs : List Int} (h : Own w B v xs) (hk : ∀ g, v.ownBlock = some g → w'.heap[g]? = w.heap[g]?) : Own w' B v xs := by
  refine ⟨h.1, ?_⟩
  rcases h.2 with hn | ⟨g, cap, cur, rfl, hb, hgg, rest⟩
  · exact .inl hn
  · exact .inr ⟨g, cap, cur, rfl, hb, (hk g rfl).trans hgg, rest⟩
theorem Own.lt {w : World} {B : Nat} {v : Value} {xs : List Int} (h : Own w B v xs) {g : Nat} (hg : v.ownBlock = some g) : B ≤ g ∧ g < w.heap.size := World.ownsRow.lt h g hg
theorem Own.keep {w w' : World} {B : Nat} {v : Value} {xs : List Int} (h : Own w B v xs) {F : Nat → Prop} (k : Keeps F w w') (hF : ∀ g, v.ownBlock = some g → ¬ F g) : Own w' B v xs :=
  h.of_eq fun g hg => k.block g (h.lt hg).2 (hF g hg)
theorem Own.mono {w : World} {B B' : Nat} {v : Value} {xs : List Int} (h : Own w B v xs) (hB : B' ≤ B) : Own w B' v xs := by
  refine ⟨h.1, ?_⟩
  rcases h.2 with hn | ⟨g, cap, cur, rfl, hb, rest⟩
  · exact .inl hn
  · exact .inr ⟨g, cap, cur, rfl, Nat.le_trans hB hb, rest⟩
/-- The shape of such a value. -/
theorem Own.shape {w : World} {B : Nat} {v : Value} {xs : List Int} (h : Own w B v xs) : ∃ A cap, v = .slice A xs.length cap ∧ xs.length ≤ cap ∧ ∀ i, i < xs.length → ∃ g, A = some ⟨g, 0, none⟩ ∧ w.cell? ⟨g, i, none⟩ = some (num (xs.getD i 0)) := by
  rcases h.2 with ⟨rfl, hn⟩ | ⟨g, cap, cur, rfl, hb, hgg, hc, _, hs, ht⟩
  · exact ⟨none, 0, by rw [hn], by omega, fun i hi => by omega⟩
  · refine ⟨some ⟨g, 0, none⟩, cap, rfl, hc, fun i hi => ⟨g, rfl, ?_⟩⟩
    rw [cell_blk hgg]
    have h1 : (nums xs)[i]? = some (num (xs.getD i 0)) := by
      simp [nums, hi]
    rw [← ht, List.getElem?_take] at h1
    split at h1
    · simpa using h1
    · cases h1

section
variable {P : Program} {w : World} {ops : Array Oper} {rest : List Oper} {o : Oper} {a : Act} {Q : Exit → Act → World → Prop}

/-- 'xs = append(xs, y)' at a slice of the call's own. -/
theorem wpList_append_num (hg : o.guard = none) (s x : Operand) (ho : o.op = .call { callee := .builtin .append, args := #[s, x], argTypes := #[35, 35] })
    (B : Nat) (v : Value) (xs : List Int) (hs : a.eval s = v) (hown : Own w B v xs) (b : Nat) (y : Int) (hx : a.eval x = .slice (some ⟨b, 0, none⟩) 1 1) (hb : w.heap[b]? = some (.cells #[num y] 3 (0, 0)))
    (hlen : xs.length ≤ 1048576) (hB : B ≤ w.heap.size)
    (h : ∀ g cap w', Own w' B (.slice (some ⟨g, 0, none⟩) (xs.length + 1) cap) (xs ++ [y]) → Keeps (fun k => v.ownBlock = some k) w w' → (v.ownBlock = some g ∨ g = w.heap.size) → wpList Tryd.prog ops Q rest (a.put o.dst (.slice (some ⟨g, 0, none⟩) (xs.length + 1) cap)) w') :
    wpList Tryd.prog ops Q (o :: rest) a w := by
  obtain ⟨i, hi, hz0, hz1, hz2⟩ := info_parts Tryd.iInt
  refine wpList_append_lies w hg s x 35 ho B 3 i (num 0) 1 8 Tryd.uInts hi hz0 hz1 hz2 rfl (by decide) v xs.length (nums xs) hs hown ⟨b, 0, none⟩ 1 1 [num y] hx rfl (World.news_of_block (cs := #[num y]) hb) (by simp [Value.oneCell']) (by decide) (by unfold maxLen; omega) (by omega) hB w.heap.size rfl ?_
  intro g cap w' h1 h2 h3 h4
  refine h g cap w' ?_ ⟨h2.os, h2.tape, h2.output, h2.size, fun k hk hne => h2.block k hk (fun e => hne e.symm)⟩ h3
  unfold Own
  rw [nums_append, List.length_append]
  exact h1
end

/-! ### Same -/
theorem take_step {a b : List Int} {k : Nat} (hk : k < a.length) (hl : a.length = b.length) (h : a.take k = b.take k) (e : a.getD k 0 = b.getD k 0) : a.take (k + 1) = b.take (k + 1) := by
  have hk' : k < b.length := by omega
  rw [List.take_succ_eq_append_getElem hk, List.take_succ_eq_append_getElem hk', h]
  simp only [List.getD_eq_getElem?_getD, List.getElem?_eq_getElem hk, List.getElem?_eq_getElem hk', Option.getD_some] at e
  rw [e]
theorem take_part {a b : List Int} {k : Nat} (e : ¬ a.getD k 0 = b.getD k 0) : a ≠ b := by
  rintro rfl
  exact e rfl

def SameRel (w : World) (a b : List Int) (i : Value) (wr : World) : Prop := ∃ k n : Nat, k ≤ a.length ∧ i = num k ∧ a.take k = b.take k ∧ wr = w.drewN n

set_option maxRecDepth 100000 in
theorem same_any {w : World} {B B' : Nat} {v v' : Value} {a b : List Int} (ha : Own w B v a) (hb : Own w B' v' b) (hl : a.length ≤ 1048576) (hl' : b.length ≤ 1048576) :
    Calls Tryd.prog 19 #[v, v'] w fun e w' => e = .returned (.bool (decide (a = b))) ∧ ∃ n, w' = w.drewN n := by
  obtain ⟨A, ca, rfl, hca, hA⟩ := ha.shape
  obtain ⟨A', cb, rfl, hcb, hA'⟩ := hb.shape
  have HA := Lib.hid hA
  have HA' := Lib.hid hA'
  clear hA hA' ha hb
  by_cases hne : a.length = b.length
  · have h1 : ((a.length : Int) != (b.length : Int)) = false := by simp [hne]
    have NE := Lib.hid hne
    clear hne
    go_enter Tryd.func19, Tryd.ntmps19
    go_wp2
    go_loopw [5] (fun i wr => SameRel w a b i wr) (fun i _ => a.length - (intOf i).toNat)
    case atStart => exact ⟨0, 0, Nat.zero_le _, rfl, rfl, rfl⟩
    case round =>
      obtain ⟨k, n, hk, rfl, ht, rfl⟩ := hrel
      have HT := Lib.hid ht
      clear ht h1
      by_cases hlt : k < a.length
      · obtain ⟨g, rfl, hc⟩ := HA.out k hlt
        have hlt' : k < b.length := by have := NE.out; omega
        obtain ⟨g', rfl, hc'⟩ := HA'.out k hlt'
        clear HA HA'
        by_cases e : a.getD k 0 = b.getD k 0
        · have ts := Lib.hid (take_step hlt NE.out HT.out e)
          rw [← e] at hc'
          clear e
          generalize a.getD k 0 = p at hc hc'
          have q : (p != p) = false := by simp
          go_wp2
          go_quiet (fail)
          go_wp2
          go_roundw
          case rel => exact ⟨k + 1, n + nq, by omega, by go_num, ts.out, rfl⟩
          case measure => simp [intOf]; omega
        · have tp := Lib.hid (take_part e)
          generalize a.getD k 0 = p at hc e
          generalize b.getD k 0 = p' at hc' e
          have q : (p != p') = true := by simpa using e
          clear e
          go_wp2
          go_quiet (fail)
          go_wp2
          go_ret
          exact ⟨by rw [decide_eq_false tp.out]; rfl, n + nq, World.drewN_drewN _ _ _⟩
      · go_wp2
        go_ret
        have hab : a = b := by
          have h2 := NE.out
          have h3 := HT.out
          rw [List.take_of_length_le (by omega), List.take_of_length_le (by omega)] at h3
          exact h3
        exact ⟨by rw [decide_eq_true hab]; rfl, n, rfl⟩
  · have h1 : ((a.length : Int) != (b.length : Int)) = true := by simp; omega
    have hab : a ≠ b := by rintro rfl; exact hne rfl
    go_enter Tryd.func19, Tryd.ntmps19
    go_wp2
    go_ret
    exact ⟨by rw [decide_eq_false hab]; rfl, 0, rfl⟩

end Go.Proofs.YtabjknljcmcmfaaDoor
