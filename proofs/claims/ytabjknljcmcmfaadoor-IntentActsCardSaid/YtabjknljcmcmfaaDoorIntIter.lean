/- Layer 10: stained: the regions one by one. -/
import Derived.Test.YtabjknljcmcmfaaDoorIntTz
import Derived.RangeFuncBox
import Derived.RangeFuncLeaves
import Derived.Shelf.Abstract
import Derived.WalkKit
import Derived.OwnWalkIn
import Derived.TacticsInMore
import Derived.LoopNIn
import Derived.LoopIn
import Derived.Maps.AppendAt
namespace Go.Proofs.YtabjknljcmcmfaaDoor
open Go.RowKit Go.Shelf

attribute [local go_sem] Oper.semAt_some

/-- The set bits, as ints. -/
def bitsI (x : Nat) : List Int := (bitsOf x).map fun (i : Nat) => (i : Int)
theorem bitsI_zero : bitsI 0 = [] := by rw [bitsI, bitsOf_zero]; rfl
theorem bitsI_next {x : Nat} (h0 : x ≠ 0) (h : x < two64) : bitsI x = (Go.Lib.ctz 64 x : Int) :: bitsI (x &&& (x - 1)) := by
  rw [bitsI, (bitsOf_next h0 h).1]
  rfl
theorem Tab.below {g n₀ : Nat} {w w' : World} (h : Tab g w) (hg : g < n₀) (b : Below n₀ w w') : Tab g w' := fun j hj => (b.cell (p := ⟨g, j, none⟩) hg).trans (h j hj)
def leftOf (v : Value) : Nat := match v with | .int _ n => n.toNat | _ => 0

set_option maxRecDepth 100000 in
set_option maxHeartbeats 1000000 in
theorem stained1_in (n : Nat) (hn : 1 ≤ n) (l Bn m n₀ stain : Nat) (hs : stain < two64) (hg : 0 < n₀) (J Jx : List Int → World → Prop)
    (hY : ∀ pre x W, J pre W → pre.length < (bitsI stain).length → YieldAt Fence.wide (n - 1) Tryd.prog l #[.int .i64 x] W fun e W' =>
      (e = .returned (.bool true) ∧ J (pre ++ [x]) W' ∧ Below n₀ W W') ∨ (e = .returned (.bool false) ∧ Jx (pre ++ [x]) W'))
    (W : World) (hBn : W.cell? ⟨Bn, 0, none⟩ = some (.pointer (some ⟨m, 0, none⟩))) (hm : W.cell? ⟨m, 1, none⟩ = some (.int .u64 stain)) (ht : Tab 0 W) (h0 : J [] W) :
    CallsIn Fence.wide n Tryd.prog 43 #[.func (.yield l) #[] #[], .pointer (some ⟨Bn, 0, none⟩)] W fun e W' => (∃ v, e = .returned v) ∧
      ((∃ ys, ys = bitsI stain ∧ J ys W') ∨ (∃ pre, pre <+: bitsI stain ∧ Jx pre W')) := by
  refine callsIn_of_wp Tryd.func43 rfl trivial ?_ rfl
  simp only [Tryd.ntmps43, List.size_toArray, List.length_cons, List.length_nil, Nat.reduceAdd, Nat.reduceSub, Array.replicate_succ, Array.replicate_zero, List.push_toArray, List.append_toArray, List.nil_append, List.cons_append]
  gi_wp2
  gi_loopw [3] (fun p wr => ∃ (pre : List Int) (left : Nat), p = .int .u64 left ∧ left < two64 ∧ bitsI stain = pre ++ bitsI left ∧ Tab 0 wr ∧ J pre wr)
    (fun p _ => leftOf p)
  case atStart => exact ⟨[], stain, rfl, hs, rfl, ht, h0⟩
  case round =>
    obtain ⟨pre, left, rfl, hl, hx, htr, hJs⟩ := hrel
    by_cases hz : left = 0
    · subst hz
      rw [bitsI_zero, List.append_nil] at hx
      gi_wp2
      go_end0
      exact ⟨⟨_, rfl⟩, .inl ⟨pre, hx.symm, hJs⟩⟩
    · have hnx := bitsI_next hz hl
      rw [hnx] at hx
      have TZ := Lib.hid (tz_walk left wr hl hz htr)
      have hq1 : IntKind.u64.wrap ((left : Int) - 1) = ((left - 1 : Nat) : Int) := by
        rw [IntKind.wrap_u64]
        have : left < 18446744073709551616 := hl
        omega
      have hq2 : bits BinOp.and IntKind.u64 (left : Int) ((left - 1 : Nat) : Int) = ((left &&& (left - 1) : Nat) : Int) := u64_and_nat left (left - 1) hl (by have : left < 18446744073709551616 := hl; omega)
      have hpos : (0 : Int) < (left : Int) := by omega
      have hnl := next_lt left hl
      have hless := next_less hz
      obtain ⟨fn, tmps, assign, body, hy, hR⟩ := hY pre (Go.Lib.ctz 64 left : Int) wr hJs (by rw [hx]; simp)
      generalize (Go.Lib.ctz 64 left : Int) = c at TZ hx hy hR
      generalize left &&& (left - 1) = left' at hq2 hnl hless hx
      have HX := Lib.hid hx
      have HR := Lib.hid hR
      clear hnx hx hz hR hY hJs
      gi_wp2
      refine ⟨trivial, (callsIn_wide.2 TZ.out).mono ?_⟩
      rintro e w' ⟨rfl, rfl⟩
      clear TZ
      gi_wp2
      refine HR.out.mono ?_
      rintro e W3 (⟨rfl, hJ3, hk3⟩ | ⟨rfl, hJx3⟩)
      · have ht3 := htr.below hg hk3
        have R := Lib.hid (And.intro ht3 hJ3)
        clear ht3 hJ3 hk3 htr
        gi_wp2
        go_roundw
        case rel => exact ⟨pre ++ [c], left', rfl, hnl, by rw [HX.out]; simp, R.out.1, R.out.2⟩
        case measure => simp [leftOf]; omega
      · gi_wp2
        refine bodyPost_ret (results_none rfl _ _ _) rfl ?_
        exact ⟨⟨_, rfl⟩, .inr ⟨pre ++ [c], ⟨bitsI left', by rw [HX.out]; simp⟩, hJx3⟩⟩

end Go.Proofs.YtabjknljcmcmfaaDoor
