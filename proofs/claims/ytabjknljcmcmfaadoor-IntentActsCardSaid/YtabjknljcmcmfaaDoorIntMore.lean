/- Layer 10: Done, Clear, Mark in range. -/
import Derived.Test.YtabjknljcmcmfaaDoorIntIn
namespace Go.Proofs.YtabjknljcmcmfaaDoor
open Go.RowKit

def clr (x r : Nat) : Nat := x &&& (18446744073709551615 - 2 ^ r)
theorem clr_lt (x r : Nat) (h : x < two64) : clr x r < two64 := Nat.lt_of_le_of_lt Nat.and_le_left h
theorem clr_bit (x r i : Nat) (hr : r < 64) (hi : i < 64) : (clr x r).testBit i = (x.testBit i && decide (i ≠ r)) := by
  have h2 : 2 ^ r < 2 ^ 64 := Nat.pow_lt_pow_right (by decide) hr
  have e : 18446744073709551615 - 2 ^ r = 2 ^ 64 - (2 ^ r + 1) := by omega
  rw [clr, Nat.testBit_and, e, Nat.testBit_two_pow_sub_succ h2, Nat.testBit_two_pow]
  simp [hi]
  by_cases h : r = i <;> simp [h]
  intro h'
  exact fun e => h e.symm
theorem not_bit (x r : Nat) (hx : x < two64) (hr : r < 64) : bits BinOp.andNot IntKind.u64 (x : Int) (IntKind.u64.wrap (2 ^ r)) = ((clr x r : Nat) : Int) := by
  have h2 : 2 ^ r < 18446744073709551616 := Nat.pow_lt_pow_right (by decide) hr
  have e : IntKind.u64.wrap ((2 : Int) ^ r) = ((2 ^ r : Nat) : Int) := by
    rw [IntKind.wrap_u64, show ((2 : Int) ^ r) = ((2 ^ r : Nat) : Int) by simp]
    generalize 2 ^ r = y at h2 ⊢
    omega
  rw [e, u64_andNot_nat x (2 ^ r) hx h2]
  rfl

section
variable {w : World} {m bz rows stain : Nat} {busy : List Int} (h : MapV w m bz rows stain busy)
include h
theorem at_in1 (row k : Nat) (c1 : Value) (R : Ending → World → Prop) (hr : row < rows) (hrun : ∀ args W, (callFunc k args).run Tryd.prog W = .ok (.enter k args) W) (hv : ∀ e w', R e w' → ∃ v, e = .returned v)
    (hk : Calls Tryd.prog k #[num ((row / 4 : Nat) : Int), c1] w R) : Calls Tryd.prog 24 #[ptr m, num row, .func (.func k) #[] #[c1]] w R := by
  have c0 : w.cell? ⟨m, 0, none⟩ = some (num rows) := by rw [cell_blk h.blk]; rfl
  have hb := h.row2
  have HR := Lib.hid (region_walk row w (by omega))
  have HK := Lib.hid hk
  have HV := Lib.hid hv
  have hlt : (row : Int) < (rows : Int) := by omega
  clear hk hv h
  go_enter Tryd.func24, Tryd.ntmps24
  go_wp2_with fail
  refine HR.out.mono ?_
  rintro e w1 ⟨rfl, rfl⟩
  clear HR
  go_wp2_with fail
  rw [show (row : Int) / 4 = ((row / 4 : Nat) : Int) by omega]
  refine HK.out.mono ?_
  intro e w2 hR
  obtain ⟨v, rfl⟩ := HV.out e w2 hR
  have HR := Lib.hid hR
  clear hR HK HV
  go_wp2
  exact HR.out
theorem in_in (r k : Nat) (c1 : Value) (R : Ending → World → Prop) (hr : r < regs rows) (hrun : ∀ args W, (callFunc k args).run Tryd.prog W = .ok (.enter k args) W) (hv : ∀ e w', R e w' → ∃ v, e = .returned v)
    (hk : Calls Tryd.prog k #[num r, c1] w R) : Calls Tryd.prog 27 #[ptr m, num r, .func (.func k) #[] #[c1]] w R := by
  have HR := Lib.hid (regions_walk h)
  have HK := Lib.hid hk
  have HV := Lib.hid hv
  have hlt : (r : Int) < (regs rows : Int) := by omega
  clear hk hv h hr
  go_enter Tryd.func27, Tryd.ntmps27
  go_wp2_with fail
  refine HR.out.mono ?_
  rintro e w1 ⟨rfl, rfl⟩
  clear HR
  go_wp2_with fail
  refine HK.out.mono ?_
  intro e w2 hR
  obtain ⟨v, rfl⟩ := HV.out e w2 hR
  have HR := Lib.hid hR
  clear hR HK HV
  go_wp2
  exact HR.out

/-! ### Their functions -/
theorem MapV.bcell (r : Nat) (hr : r < regs rows) : w.cell? ⟨bz, r, none⟩ = some (num (busy.getD r 0)) := by
  have hbl : r < busy.length := by rw [h.len]; exact hr
  rw [cell_blk h.cnt]
  simp [nums, hbl, List.getD_eq_getElem?_getD]
theorem done1_none (b1 r : Nat) (hr : r < regs rows) (h1 : w.cell? ⟨b1, 0, none⟩ = some (ptr m)) (hz : busy.getD r 0 = 0) :
    Calls Tryd.prog 30 #[num r, ptr b1] w fun e w' => e = .returned (num 3) ∧ w' = w := by
  have c2 : w.cell? ⟨m, 2, none⟩ = some (.slice (some ⟨bz, 0, none⟩) (regs rows) (regs rows)) := by rw [cell_blk h.blk]; rfl
  have c3 := h.bcell r hr
  rw [hz] at c3
  have hr64 := regs_le h.row2
  clear h hz
  go_enter Tryd.func30, Tryd.ntmps30
  go_wp2
  go_ret
  exact ⟨rfl, rfl⟩
theorem done1_walk (b1 r : Nat) (hr : r < regs rows) (h1 : w.cell? ⟨b1, 0, none⟩ = some (ptr m)) (hz : busy.getD r 0 ≠ 0) :
    Calls Tryd.prog 30 #[num r, ptr b1] w fun e w' => e = .returned (num 0) ∧ w' = w.setCell ⟨bz, r, none⟩ (num (wrap64 (busy.getD r 0 - 1))) := by
  have c2 : w.cell? ⟨m, 2, none⟩ = some (.slice (some ⟨bz, 0, none⟩) (regs rows) (regs rows)) := by rw [cell_blk h.blk]; rfl
  have c3 := h.bcell r hr
  have f3 : w.frozen? ⟨bz, r, none⟩ = false := free_blk h.cnt r
  have hr64 := regs_le h.row2
  clear h
  generalize busy.getD r 0 = q at c3 hz ⊢
  have hq : (q == 0) = false := by simpa using hz
  clear hz
  go_enter Tryd.func30, Tryd.ntmps30
  go_wp2
  go_ret
  exact ⟨rfl, rfl⟩
theorem clear1_busy (b1 r : Nat) (hr : r < regs rows) (h1 : w.cell? ⟨b1, 0, none⟩ = some (ptr m)) (hz : 0 < busy.getD r 0) :
    Calls Tryd.prog 29 #[num r, ptr b1] w fun e w' => e = .returned (num 5) ∧ w' = w := by
  have c2 : w.cell? ⟨m, 2, none⟩ = some (.slice (some ⟨bz, 0, none⟩) (regs rows) (regs rows)) := by rw [cell_blk h.blk]; rfl
  have c3 := h.bcell r hr
  have hr64 := regs_le h.row2
  clear h
  generalize busy.getD r 0 = q at c3 hz
  go_enter Tryd.func29, Tryd.ntmps29
  go_wp2
  go_ret
  exact ⟨rfl, rfl⟩
theorem clear1_walk (b1 r : Nat) (hr : r < regs rows) (h1 : w.cell? ⟨b1, 0, none⟩ = some (ptr m)) (hz : busy.getD r 0 = 0) :
    Calls Tryd.prog 29 #[num r, ptr b1] w fun e w' => e = .returned (num 0) ∧ w' = (w.setCell ⟨m, 1, none⟩ (.int .u64 (clr stain r : Nat))).drew := by
  have c1 : w.cell? ⟨m, 1, none⟩ = some (.int .u64 stain) := by rw [cell_blk h.blk]; rfl
  have f1 : w.frozen? ⟨m, 1, none⟩ = false := free_blk h.blk 1
  have c2 : w.cell? ⟨m, 2, none⟩ = some (.slice (some ⟨bz, 0, none⟩) (regs rows) (regs rows)) := by rw [cell_blk h.blk]; rfl
  have c3 := h.bcell r hr
  rw [hz] at c3
  have hr64 := regs_le h.row2
  have HQ := Lib.hid (not_bit stain r h.small (by omega))
  clear h hz
  go_enter Tryd.func29, Tryd.ntmps29
  go_wp2_with fail
  go_region
  rw [HQ.out]
  go_wp2
  go_ret
  exact ⟨rfl, rfl⟩
theorem mark1_walk (b1 r : Nat) (hr : r < regs rows) (h1 : w.cell? ⟨b1, 0, none⟩ = some (ptr m)) :
    Calls Tryd.prog 28 #[num r, ptr b1] w fun e w' => e = .returned (num 0) ∧ w' = (w.setCell ⟨m, 1, none⟩ (.int .u64 (stain ||| 2 ^ r : Nat))).drew := by
  have c1 : w.cell? ⟨m, 1, none⟩ = some (.int .u64 stain) := by rw [cell_blk h.blk]; rfl
  have f1 : w.frozen? ⟨m, 1, none⟩ = false := free_blk h.blk 1
  have hr64 := regs_le h.row2
  have HQ := Lib.hid (or_bit stain r h.small (by omega))
  clear h
  go_enter Tryd.func28, Tryd.ntmps28
  go_wp2_with fail
  go_region
  rw [HQ.out]
  go_wp2
  go_ret
  exact ⟨rfl, rfl⟩
end

end Go.Proofs.YtabjknljcmcmfaaDoor
