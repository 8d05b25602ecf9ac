/- Layer 10: the reference's Dirty, Idle, Bytes. -/
import Derived.Test.YtabjknljcmcmfaaDoorRefMap
import Derived.Test.YtabjknljcmcmfaaDoorIntIdle
namespace Go.Proofs.YtabjknljcmcmfaaDoor
open Go.RowKit

/-- Those below k that p takes. -/
def selP (p : Nat → Bool) (k : Nat) : List Int := ((List.range k).filter p).map fun (i : Nat) => (i : Int)
theorem selP_yes {p : Nat → Bool} {k : Nat} (h : p k = true) : selP p (k + 1) = selP p k ++ [(k : Int)] := by simp [selP, List.range_succ, h]
theorem selP_no {p : Nat → Bool} {k : Nat} (h : p k = false) : selP p (k + 1) = selP p k := by simp [selP, List.range_succ, h]
theorem selP_len (p : Nat → Bool) (k : Nat) : (selP p k).length ≤ k := by
  unfold selP
  rw [List.length_map]
  have := List.length_filter_le p (List.range k)
  simpa using this
theorem filter_range {p : Nat → Bool} {a b : Nat} (hab : a ≤ b) (h : ∀ i, a ≤ i → p i = false) : (List.range b).filter p = (List.range a).filter p := by
  induction b with
  | zero => obtain rfl : a = 0 := by omega
            rfl
  | succ b ih =>
    rcases Nat.lt_or_ge a (b + 1) with h1 | h1
    · rw [List.range_succ, List.filter_append, ih (by omega)]
      simp [h b (by omega)]
    · obtain rfl : a = b + 1 := by omega
      rfl
theorem selP_bits {x q : Nat} (hq : q ≤ 64) (hx : x < 2 ^ q) : selP (fun i => x.testBit i) q = bitsI x := by
  unfold selP bitsI bitsOf
  rw [filter_range (p := fun i => x.testBit i) hq (fun i hi => Nat.testBit_lt_two_pow (Nat.lt_of_lt_of_le hx (Nat.pow_le_pow_right (n := 2) (show 0 < 2 by decide) hi)))]
theorem selP_idle {x q : Nat} {busy : List Int} (hq : q ≤ 64) (hx : x < 2 ^ q) (hb : ∀ i, 0 ≤ busy.getD i 0) : selP (fun i => x.testBit i && (busy.getD i 0 == 0)) q = idleL x busy := by
  rw [idleL, ← selP_bits hq hx]
  unfold selP
  rw [List.filter_map, List.filter_filter]
  congr 1
  apply List.filter_congr
  intro i _
  show (x.testBit i && (busy.getD i 0 == 0)) = (!decide (0 < busy.getD ((i : Int).toNat) 0) && x.testBit i)
  rw [Int.toNat_natCast, Bool.and_comm]
  congr 1
  have := hb i
  by_cases h : busy.getD i 0 = 0
  · rw [h]; rfl
  · have h1 : (busy.getD i 0 == 0) = false := by simpa using h
    rw [h1, decide_eq_true (by omega)]; rfl

theorem Own.empty (w : World) (B : Nat) (hB : B ≤ w.heap.size) : Own (w.alloc (.cells #[] 3)) B (.slice (some ⟨w.heap.size, 0, none⟩) 0 0) [] := w.ownsRow_lit #[] 0 hB (by decide) rfl
def SelRel (W : World) (p : Nat → Bool) (q : Nat) (v i : Value) (wr : World) : Prop := ∃ k : Nat, k ≤ q ∧ i = num k ∧ Own wr W.heap.size v (selP p k) ∧ Ext W wr

section
variable {w : World} {r g1 g2 rows x : Nat} {busy : List Int} (h : RefV w r g1 g2 rows x busy)
include h
set_option maxRecDepth 100000 in
theorem refDirty_walk : Calls Tryd.prog 39 #[ptr r] w fun e w' => ∃ v, e = .returned v ∧ Own w' w.heap.size v (selP (fun i => x.testBit i) (regs rows)) ∧ Ext w w' := by
  have hq := regs_le h.row2
  have H := Lib.hid h
  have O0 := Lib.hid (Own.empty w w.heap.size (Nat.le_refl _))
  have E0 := Lib.hid ((Ext.refl w).alloc (.cells #[] 3))
  clear h
  go_enter Tryd.func39, Tryd.ntmps39
  go_wp2_with fail
  go_loopw [3, 4] (fun v i wr => SelRel w (fun i => x.testBit i) (regs rows) v i wr) (fun _ i _ => regs rows - (intOf i).toNat)
  case atStart => exact ⟨0, Nat.zero_le _, rfl, O0.out, E0.out⟩
  case round =>
    clear O0 E0
    obtain ⟨k, hk, rfl, ho, he⟩ := hrel
    obtain ⟨c, c1⟩ := (H.out.ext he).c1
    by_cases hlt : k < regs rows
    · have s1 := (H.out.ext he).s k hlt
      cases hb : x.testBit k with
      | true =>
        rw [hb] at s1
        have HA := Lib.hid (ho.keep (F := fun _ => False) ((Keeps.refl _ wr).alloc (.cells #[num k] 3)) (fun _ _ h => h))
        have HN := Lib.hid (alloc_new wr (.cells #[num k] 3))
        have hlen : (selP (fun i => x.testBit i) k).length ≤ 1048576 := by have := selP_len (fun i => x.testBit i) k; omega
        have hB : w.heap.size ≤ (wr.alloc (.cells #[num k] 3)).heap.size := by rw [size_alloc]; have := he.size; omega
        have ST := Lib.hid (fun (g cap : Nat) (w2 : World) (h1 : Own w2 w.heap.size (.slice (some ⟨g, 0, none⟩) ((selP (fun i => x.testBit i) k).length + 1) cap) (selP (fun i => x.testBit i) k ++ [(k : Int)])) (h2 : Keeps (fun j => u3.ownBlock = some j) (wr.alloc (.cells #[num k] 3)) w2) =>
          show SelRel w (fun i => x.testBit i) (regs rows) (.slice (some ⟨g, 0, none⟩) ((selP (fun i => x.testBit i) k).length + 1) cap) (num ((k : Int) + 1)) w2 from
            ⟨k + 1, by omega, by go_num, by rw [selP_yes (p := fun i => x.testBit i) hb]; exact h1, (he.alloc _).keeps h2 (fun q hq => (ho.lt hq).1)⟩)
        clear ho he hb H
        generalize selP (fun i => x.testBit i) k = ls at HA hlen ST
        go_wp2_with (at_builtin; refine wpList_append_num rfl _ _ rfl w.heap.size u3 ls rfl HA.out wr.heap.size k rfl HN.out hlen hB ?_; intro g cap w2 h1 h2 h3; have R := Lib.hid (ST.out g cap w2 h1 h2); clear h1 h2 h3 ST HA HN hlen hB)
        go_roundw
        case rel => exact R.out
        case measure => simp [intOf]; omega
      | false =>
        rw [hb] at s1
        have R := Lib.hid (show SelRel w (fun i => x.testBit i) (regs rows) u3 (num ((k : Int) + 1)) wr from ⟨k + 1, by omega, by go_num, by rw [selP_no (p := fun i => x.testBit i) hb]; exact ho, he⟩)
        clear ho he hb H
        go_wp2_with fail
        go_roundw
        case rel => exact R.out
        case measure => simp [intOf]; omega
    · obtain rfl : k = regs rows := by omega
      have R := Lib.hid (And.intro ho he)
      clear ho he H
      go_wp2_with fail
      go_ret
      exact ⟨_, rfl, R.out.1, R.out.2⟩

set_option maxRecDepth 100000 in
theorem refIdle_walk : Calls Tryd.prog 41 #[ptr r] w fun e w' => ∃ v, e = .returned v ∧ Own w' w.heap.size v (selP (fun i => x.testBit i && (busy.getD i 0 == 0)) (regs rows)) ∧ Ext w w' := by
  have hq := regs_le h.row2
  obtain ⟨p, hpp⟩ : ∃ p : Nat → Bool, (fun i => x.testBit i && (busy.getD i 0 == 0)) = p := ⟨_, rfl⟩
  have HP := Lib.hid (fun i : Nat => congrFun hpp i)
  rw [hpp]
  have H := Lib.hid h
  have O0 := Lib.hid (Own.empty w w.heap.size (Nat.le_refl _))
  have E0 := Lib.hid ((Ext.refl w).alloc (.cells #[] 3))
  clear h hpp
  go_enter Tryd.func41, Tryd.ntmps41
  go_wp2_with fail
  go_loopw [3, 4] (fun v i wr => SelRel w p (regs rows) v i wr) (fun _ i _ => regs rows - (intOf i).toNat)
  case atStart => exact ⟨0, Nat.zero_le _, rfl, O0.out, E0.out⟩
  case round =>
    clear O0 E0
    obtain ⟨k, hk, rfl, ho, he⟩ := hrel
    obtain ⟨c, c1⟩ := (H.out.ext he).c1
    obtain ⟨c', c2⟩ := (H.out.ext he).c2
    by_cases hlt : k < regs rows
    · have s1 := (H.out.ext he).s k hlt
      have b1 := (H.out.ext he).b k hlt
      have hp := HP.out k
      generalize busy.getD k 0 = y at b1 hp
      have RNo := Lib.hid (fun (h : p k = false) => show SelRel w p (regs rows) u3 (num ((k : Int) + 1)) wr from ⟨k + 1, by omega, by go_num, by rw [selP_no h]; exact ho, he⟩)
      cases hb : x.testBit k with
      | true =>
        rw [hb] at s1 hp
        cases hy : (y == 0) with
        | true =>
          rw [hy] at hp
          have HPk := Lib.hid (show p k = true from hp.symm)
          have HA := Lib.hid (ho.keep (F := fun _ => False) ((Keeps.refl _ wr).alloc (.cells #[num k] 3)) (fun _ _ h => h))
          have HN := Lib.hid (alloc_new wr (.cells #[num k] 3))
          have hlen : (selP p k).length ≤ 1048576 := by have := selP_len p k; omega
          have hB : w.heap.size ≤ (wr.alloc (.cells #[num k] 3)).heap.size := by rw [size_alloc]; have := he.size; omega
          have ST := Lib.hid (fun (g cap : Nat) (w2 : World) (h1 : Own w2 w.heap.size (.slice (some ⟨g, 0, none⟩) ((selP p k).length + 1) cap) (selP p k ++ [(k : Int)])) (h2 : Keeps (fun j => u3.ownBlock = some j) (wr.alloc (.cells #[num k] 3)) w2) =>
            show SelRel w p (regs rows) (.slice (some ⟨g, 0, none⟩) ((selP p k).length + 1) cap) (num ((k : Int) + 1)) w2 from
              ⟨k + 1, by omega, by go_num, by rw [selP_yes HPk.out]; exact h1, (he.alloc _).keeps h2 (fun q hq => (ho.lt hq).1)⟩)
          clear ho he hb H hp RNo HPk HP
          generalize selP p k = ls at HA hlen ST
          go_wp2_with (at_builtin; refine wpList_append_num rfl _ _ rfl w.heap.size u3 ls rfl HA.out wr.heap.size k rfl HN.out hlen hB ?_; intro g cap w2 h1 h2 h3; have R := Lib.hid (ST.out g cap w2 h1 h2); clear h1 h2 h3 ST HA HN hlen hB)
          go_roundw
          case rel => exact R.out
          case measure => simp [intOf]; omega
        | false =>
          rw [hy] at hp
          have R := Lib.hid (RNo.out hp.symm)
          clear ho he hb H hp RNo HP
          go_wp2_with fail
          go_roundw
          case rel => exact R.out
          case measure => simp [intOf]; omega
      | false =>
        rw [hb] at s1 hp
        have R := Lib.hid (RNo.out hp.symm)
        clear ho he hb H hp RNo HP
        go_wp2_with fail
        go_roundw
        case rel => exact R.out
        case measure => simp [intOf]; omega
    · obtain rfl : k = regs rows := by omega
      have R := Lib.hid (And.intro ho he)
      clear ho he H
      go_wp2_with fail
      go_ret
      exact ⟨_, rfl, R.out.1, R.out.2⟩
end

end Go.Proofs.YtabjknljcmcmfaaDoor
