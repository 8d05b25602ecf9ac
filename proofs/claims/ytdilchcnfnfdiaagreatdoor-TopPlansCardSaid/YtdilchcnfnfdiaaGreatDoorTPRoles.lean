/- Layer 15: the roles that are wanted, rising: for whatever function of the role is handed in. -/
import Derived.Test.YtdilchcnfnfdiaaGreatDoorTPRow
import Derived.Conc.MuLone
namespace Go.Proofs.YtdilchcnfnfdiaaGreatDoor
open Go.RowKit

/-- The roles below m that p wants, as ints. -/
def sel (m : Nat) (p : Nat → Bool) : List Int := ((List.range m).filter p).map fun (i : Nat) => (i : Int)
theorem sel_zero (p : Nat → Bool) : sel 0 p = [] := rfl
theorem sel_yes {m : Nat} {p : Nat → Bool} (h : p m = true) : sel (m + 1) p = sel m p ++ [(m : Int)] := by simp [sel, List.range_succ, h]
theorem sel_no {m : Nat} {p : Nat → Bool} (h : p m = false) : sel (m + 1) p = sel m p := by simp [sel, List.range_succ, h]
theorem sel_len (m : Nat) (p : Nat → Bool) : (sel m p).length ≤ m := by
  unfold sel
  have := List.length_filter_le p (List.range m)
  simp at this ⊢
  omega

/-- A function of a role, by its number and what it captured: what it answers. -/
structure Tells (k : FuncId) (c : Value) (n : Nat) (p : Nat → Bool) (w : World) : Prop where
  run : ∀ args W, (callFunc k args).run Tryz.prog W = .ok (.enter k args) W
  out : ∀ i, i < n + 2 → ∀ W, Ext w W → Calls Tryz.prog k #[num i, .bool (decide (i < n)), c] W fun e W' => e = .returned (.bool (p i)) ∧ W' = W

def RolesRel (w : World) (n : Nat) (p : Nat → Bool) (v j : Value) (wr : World) : Prop :=
  ∃ i : Nat, i ≤ n + 2 ∧ j = num i ∧ Own wr w.heap.size v (sel i p) ∧ Ext w wr

set_option maxRecDepth 100000 in
theorem roles_any (k : FuncId) (c : Value) (n : Nat) (wv lv : Value) (p : Nat → Bool) (w : World) (hn : n ≤ 8) (hf : Tells k c n p w) :
    Calls Tryz.prog 60 #[.agg #[num n, wv, lv], .func (.func k) #[] #[c]] w fun e w' => ∃ v, e = .returned v ∧ Own w' w.heap.size v (sel (n + 2) p) ∧ Ext w w' := by
  have HF := Lib.hid hf
  have hrun := hf.run
  clear hf
  go_enter Tryz.func60, Tryz.ntmps60
  go_wp2_with fail
  have c0 : (w.alloc (.cells #[num n, wv, lv] 122)).cell? ⟨w.heap.size, 0, none⟩ = some (num n) := by rw [cell_blk (alloc_new w _)]; rfl
  have e0 := Lib.hid ((Ext.refl w).alloc (.cells #[num n, wv, lv] 122))
  have hs : w.heap.size ≤ (w.alloc (.cells #[num n, wv, lv] 122)).heap.size := by rw [size_alloc]; omega
  have HS := Lib.hid hs
  clear hs
  generalize w.alloc (.cells #[num n, wv, lv] 122) = w1 at c0 e0 HS ⊢
  have C0 := Lib.hid c0
  clear c0
  go_loopw [5, 10] (fun v j wr => RolesRel w1 n p v j wr) (fun _ j _ => n + 2 - (intOf j).toNat)
  case atStart => exact ⟨0, Nat.zero_le _, rfl, Own.nil _ _, Ext.refl _⟩
  case round =>
    obtain ⟨i, hi, rfl, hown, hext⟩ := hrel
    have c0 := hext.cell C0.out
    have hlt := World.block_lt_of_cell? wr _ c0
    by_cases hlt : i < n + 2
    · have HC := Lib.hid (HF.out.out i hlt wr (e0.out.trans hext))
      have HO := Lib.hid hown
      have HE := Lib.hid hext
      cases hp : p i with
      | true =>
        have ST := Lib.hid (fun (g cap : Nat) (w2 : World) (h1 : Own w2 w1.heap.size (.slice (some ⟨g, 0, none⟩) ((sel i p).length + 1) cap) (sel i p ++ [(i : Int)])) (h2 : Keeps (fun k => u5.ownBlock = some k) (wr.alloc (.cells #[num i] 3)) w2) =>
          show RolesRel w1 n p (.slice (some ⟨g, 0, none⟩) ((sel i p).length + 1) cap) (num ((i : Int) + 1)) w2 from
            ⟨i + 1, by omega, by go_num, by rw [sel_yes hp]; exact h1, (hext.alloc _).keeps h2 (fun q hq => (hown.lt hq).1)⟩)
        have hlen : (sel i p).length ≤ 1048576 := by have := sel_len i p; omega
        have hB : w1.heap.size ≤ (wr.alloc (.cells #[num i] 3)).heap.size := by rw [size_alloc]; have := hext.size; omega
        have HN := Lib.hid (alloc_new wr (.cells #[num i] 3))
        have HA := Lib.hid (hown.keep (F := fun _ => False) ((Keeps.refl _ wr).alloc (.cells #[num i] 3)) (fun _ _ h => h))
        have HP := Lib.hid hp
        clear hp hown hext HO HE HF
        go_wp2_with fail
        refine HC.out.mono ?_
        rintro e w' ⟨rfl, rfl⟩
        rw [HP.out]
        clear HC
        go_wp2_with (at_builtin; refine wpList_append_num rfl _ _ rfl w1.heap.size u5 (sel i p) rfl HA.out w'.heap.size i rfl HN.out hlen hB ?_; intro g cap w2 h1 h2 h3; have R := Lib.hid (ST.out g cap w2 h1 h2); clear h1 h2 h3 ST HA HN hlen hB)
        go_roundw
        case rel => exact R.out
        case measure => simp [intOf]; omega
      | false =>
        have R := Lib.hid (show RolesRel w1 n p u5 (num ((i : Int) + 1)) wr from ⟨i + 1, by omega, by go_num, by rw [sel_no hp]; exact hown, hext⟩)
        have HP := Lib.hid hp
        clear hp hown hext HO HE HF
        go_wp2_with fail
        refine HC.out.mono ?_
        rintro e w' ⟨rfl, rfl⟩
        rw [HP.out]
        clear HC
        go_wp2_with fail
        go_roundw
        case rel => exact R.out
        case measure => simp [intOf]; omega
    · obtain rfl : i = n + 2 := by omega
      have R := Lib.hid (And.intro (hown.mono HS.out) (e0.out.trans hext))
      clear hown hext HF
      go_wp2_with fail
      go_ret
      exact ⟨_, rfl, R.out.1, R.out.2⟩

end Go.Proofs.YtdilchcnfnfdiaaGreatDoor
