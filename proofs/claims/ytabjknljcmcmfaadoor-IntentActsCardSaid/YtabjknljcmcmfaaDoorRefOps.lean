/- Layer 10: the reference's Start, Done, Clear, Mark, Stale. -/
import Derived.Test.YtabjknljcmcmfaaDoorRefMap
import Derived.Test.YtabjknljcmcmfaaDoorLawIBusy
namespace Go.Proofs.YtabjknljcmcmfaaDoor
open Go.RowKit

section
variable {w : World} {r g1 g2 rows x : Nat} {busy : List Int} (h : RefV w r g1 g2 rows x busy)
include h
theorem RefV.reg {row : Nat} (hr : row < rows) : row / 4 < regs rows := by
  have := h.row1
  unfold regs
  omega
set_option maxRecDepth 100000 in
theorem refStart_walk (row : Nat) (hr : row < rows) :
    Calls Tryd.prog 33 #[ptr r, num row] w fun e w' => e = .returned (.tuple #[.bool (!x.testBit (row / 4)), num 0]) ∧ RefV w' r g1 g2 rows (x ||| 2 ^ (row / 4)) (startBusy busy (row / 4)) ∧ Keeps (refF r g1 g2) w w' := by
  have hk := h.reg hr
  have h64 := regs_le h.row2
  have hR := refRow_walk h row
  rw [decide_eq_true ⟨by omega, by omega⟩] at hR
  have HR := Lib.hid hR
  have HG := Lib.hid (refRegion_walk row w (by have := h.row2; omega))
  obtain ⟨k, hkk⟩ : ∃ k, row / 4 = k := ⟨_, rfl⟩
  rw [hkk] at hk HG ⊢
  obtain ⟨c, c1⟩ := h.c1
  have s1 := h.s k hk
  have f1 := h.sf k
  have h2 := h.setS k hk true (x ||| 2 ^ k) (fun j _ => by
    rw [or_testBit]
    by_cases e : j = k
    · subst e; simp
    · rw [if_neg e, decide_eq_false (fun h => e h.symm), Bool.or_false])
  obtain ⟨c', c2⟩ := h2.c2
  have b2 := h2.b k hk
  have f2 := h2.bf k
  have HQ := Lib.hid (show RefV _ r g1 g2 rows (x ||| 2 ^ k) (startBusy busy k) from h2.setB k hk (wrap64 (busy.getD k 0 + 1)))
  have K2 := Lib.hid ((Keeps.refl (refF r g1 g2) w).set (p := ⟨g1, k, none⟩) (.inl (.inr (.inl rfl))) (.bool true))
  clear h hR hkk h2
  generalize busy.getD k 0 = q at b2 HQ
  generalize hw2 : w.setCell ⟨g1, k, none⟩ (.bool true) = w2 at c2 b2 f2 HQ K2
  have W2 := Lib.hid hw2
  clear hw2
  go_enter Tryd.func33, Tryd.ntmps33
  go_wp2_with fail
  refine HR.out.mono ?_
  rintro e w3 ⟨rfl, rfl⟩
  clear HR
  go_wp2_with fail
  refine HG.out.mono ?_
  rintro e w4 ⟨rfl, rfl⟩
  clear HG
  go_wp2_with fail
  rw [W2.out]
  go_region
  go_wp2
  go_ret2
  refine ⟨by simp, ?_, ?_⟩
  · exact HQ.out.ext (Ext.refl _).drew
  · exact (K2.out.set (p := ⟨g2, k, none⟩) (.inl (.inr (.inr rfl))) _).drew
theorem refStart_out (n : Int) (hr : ¬ (0 ≤ n ∧ n < (rows : Int))) : Calls Tryd.prog 33 #[ptr r, num n] w fun e w' => e = .returned (.tuple #[.bool false, num 70]) ∧ w' = w := by
  have hR := refRow_walk h n
  rw [decide_eq_false hr] at hR
  have HR := Lib.hid hR
  clear hR h hr
  go_enter Tryd.func33, Tryd.ntmps33
  go_wp2_with fail
  refine HR.out.mono ?_
  rintro e w3 ⟨rfl, rfl⟩
  clear HR
  go_wp2_with fail
  go_ret2
  exact ⟨rfl, rfl⟩

theorem refDone_out (n : Int) (hr : ¬ (0 ≤ n ∧ n < (rows : Int))) : Calls Tryd.prog 34 #[ptr r, num n] w fun e w' => e = .returned (num 70) ∧ w' = w := by
  have hR := refRow_walk h n
  rw [decide_eq_false hr] at hR
  have HR := Lib.hid hR
  clear hR h hr
  go_enter Tryd.func34, Tryd.ntmps34
  go_wp2_with fail
  refine HR.out.mono ?_
  rintro e w3 ⟨rfl, rfl⟩
  clear HR
  go_wp2_with fail
  go_ret
  exact ⟨rfl, rfl⟩
theorem refDone_none (row : Nat) (hr : row < rows) (hz : busy.getD (row / 4) 0 = 0) : Calls Tryd.prog 34 #[ptr r, num row] w fun e w' => e = .returned (num 3) ∧ w' = w := by
  have hk := h.reg hr
  have h64 := regs_le h.row2
  have hR := refRow_walk h row
  rw [decide_eq_true ⟨by omega, by omega⟩] at hR
  have HR := Lib.hid hR
  have HG := Lib.hid (refRegion_walk row w (by have := h.row2; omega))
  obtain ⟨k, hkk⟩ : ∃ k, row / 4 = k := ⟨_, rfl⟩
  rw [hkk] at hk HG hz
  obtain ⟨c', c2⟩ := h.c2
  have b2 := h.b k hk
  rw [hz] at b2
  clear h hR hkk hz
  go_enter Tryd.func34, Tryd.ntmps34
  go_wp2_with fail
  refine HR.out.mono ?_
  rintro e w3 ⟨rfl, rfl⟩
  clear HR
  go_wp2_with fail
  refine HG.out.mono ?_
  rintro e w4 ⟨rfl, rfl⟩
  clear HG
  go_wp2_with fail
  go_ret
  exact ⟨rfl, rfl⟩
set_option maxRecDepth 100000 in
theorem refDone_walk (row : Nat) (hr : row < rows) (hz : busy.getD (row / 4) 0 ≠ 0) : Calls Tryd.prog 34 #[ptr r, num row] w fun e w' => e = .returned (num 0) ∧ RefV w' r g1 g2 rows x (busy.set (row / 4) (wrap64 (busy.getD (row / 4) 0 - 1))) ∧ Keeps (refF r g1 g2) w w' := by
  have hk := h.reg hr
  have h64 := regs_le h.row2
  have hR := refRow_walk h row
  rw [decide_eq_true ⟨by omega, by omega⟩] at hR
  have HR := Lib.hid hR
  have HG := Lib.hid (refRegion_walk row w (by have := h.row2; omega))
  obtain ⟨k, hkk⟩ : ∃ k, row / 4 = k := ⟨_, rfl⟩
  rw [hkk] at hk HG hz ⊢
  obtain ⟨c', c2⟩ := h.c2
  have b2 := h.b k hk
  have f2 := h.bf k
  have HQ := Lib.hid (h.setB k hk (wrap64 (busy.getD k 0 - 1)))
  clear h hR hkk
  generalize busy.getD k 0 = q at b2 HQ hz ⊢
  have hq : (q == 0) = false := by simpa using hz
  clear hz
  go_enter Tryd.func34, Tryd.ntmps34
  go_wp2_with fail
  refine HR.out.mono ?_
  rintro e w3 ⟨rfl, rfl⟩
  clear HR
  go_wp2_with fail
  refine HG.out.mono ?_
  rintro e w4 ⟨rfl, rfl⟩
  clear HG
  go_wp2_with fail
  go_region
  go_wp2
  go_ret
  refine ⟨rfl, ?_, ?_⟩
  · exact HQ.out.ext (Ext.refl _).drew
  · exact ((Keeps.refl _ _).set (p := ⟨g2, k, none⟩) (.inl (.inr (.inr rfl))) _).drew

theorem refClear_out (n : Int) (hr : ¬ (0 ≤ n ∧ n < (regs rows : Int))) : Calls Tryd.prog 35 #[ptr r, num n] w fun e w' => e = .returned (num 70) ∧ w' = w := by
  have hR := refReg_walk h n
  rw [decide_eq_false hr] at hR
  have HR := Lib.hid hR
  clear hR h hr
  go_enter Tryd.func35, Tryd.ntmps35
  go_wp2_with fail
  refine HR.out.mono ?_
  rintro e w3 ⟨rfl, rfl⟩
  clear HR
  go_wp2_with fail
  go_ret
  exact ⟨rfl, rfl⟩
theorem refClear_busy (k : Nat) (hk : k < regs rows) (hz : 0 < busy.getD k 0) : Calls Tryd.prog 35 #[ptr r, num k] w fun e w' => e = .returned (num 5) ∧ w' = w := by
  have h64 := regs_le h.row2
  have hR := refReg_walk h k
  rw [decide_eq_true ⟨by omega, by omega⟩] at hR
  have HR := Lib.hid hR
  obtain ⟨c', c2⟩ := h.c2
  have b2 := h.b k hk
  clear h hR
  generalize busy.getD k 0 = q at b2 hz
  go_enter Tryd.func35, Tryd.ntmps35
  go_wp2_with fail
  refine HR.out.mono ?_
  rintro e w3 ⟨rfl, rfl⟩
  clear HR
  go_wp2_with fail
  go_ret
  exact ⟨rfl, rfl⟩
theorem refClear_walk (k : Nat) (hk : k < regs rows) (hz : busy.getD k 0 ≤ 0) : Calls Tryd.prog 35 #[ptr r, num k] w fun e w' => e = .returned (num 0) ∧ RefV w' r g1 g2 rows (clr x k) busy ∧ Keeps (refF r g1 g2) w w' := by
  have h64 := regs_le h.row2
  have hR := refReg_walk h k
  rw [decide_eq_true ⟨by omega, by omega⟩] at hR
  have HR := Lib.hid hR
  obtain ⟨c, c1⟩ := h.c1
  obtain ⟨c', c2⟩ := h.c2
  have b2 := h.b k hk
  have s1 := h.s k hk
  have f1 := h.sf k
  have HQ := Lib.hid (h.setS k hk false (clr x k) (fun j hj => by
    rw [clr_bit x k j (by omega) (by omega)]
    by_cases e : j = k
    · subst e; simp
    · rw [if_neg e, decide_eq_true e, Bool.and_true]))
  clear h hR
  generalize busy.getD k 0 = q at b2 hz
  go_enter Tryd.func35, Tryd.ntmps35
  go_wp2_with fail
  refine HR.out.mono ?_
  rintro e w3 ⟨rfl, rfl⟩
  clear HR
  go_wp2_with fail
  go_ret
  exact ⟨rfl, HQ.out, (Keeps.refl _ _).set (p := ⟨g1, k, none⟩) (.inl (.inr (.inl rfl))) _⟩

theorem refMark_out (n : Int) (hr : ¬ (0 ≤ n ∧ n < (regs rows : Int))) : Calls Tryd.prog 36 #[ptr r, num n] w fun e w' => e = .returned (num 70) ∧ w' = w := by
  have hR := refReg_walk h n
  rw [decide_eq_false hr] at hR
  have HR := Lib.hid hR
  clear hR h hr
  go_enter Tryd.func36, Tryd.ntmps36
  go_wp2_with fail
  refine HR.out.mono ?_
  rintro e w3 ⟨rfl, rfl⟩
  clear HR
  go_wp2_with fail
  go_ret
  exact ⟨rfl, rfl⟩
theorem refMark_walk (k : Nat) (hk : k < regs rows) : Calls Tryd.prog 36 #[ptr r, num k] w fun e w' => e = .returned (num 0) ∧ RefV w' r g1 g2 rows (x ||| 2 ^ k) busy ∧ Keeps (refF r g1 g2) w w' := by
  have h64 := regs_le h.row2
  have hR := refReg_walk h k
  rw [decide_eq_true ⟨by omega, by omega⟩] at hR
  have HR := Lib.hid hR
  obtain ⟨c, c1⟩ := h.c1
  have s1 := h.s k hk
  have f1 := h.sf k
  have HQ := Lib.hid (h.setS k hk true (x ||| 2 ^ k) (fun j _ => by
    rw [or_testBit]
    by_cases e : j = k
    · subst e; simp
    · rw [if_neg e, decide_eq_false (fun h => e h.symm), Bool.or_false]))
  clear h hR
  go_enter Tryd.func36, Tryd.ntmps36
  go_wp2_with fail
  refine HR.out.mono ?_
  rintro e w3 ⟨rfl, rfl⟩
  clear HR
  go_wp2_with fail
  go_ret
  exact ⟨rfl, HQ.out, (Keeps.refl _ _).set (p := ⟨g1, k, none⟩) (.inl (.inr (.inl rfl))) _⟩

/-- Stale: whatever the row. -/
def staleB (rows x : Nat) (n : Int) : Bool := if 0 ≤ n ∧ n < (rows : Int) then x.testBit (n.toNat / 4) else false
theorem refStale_walk (n : Int) : Calls Tryd.prog 38 #[ptr r, num n] w fun e w' => e = .returned (.bool (staleB rows x n)) ∧ ∃ q, w' = w.drewN q := by
  by_cases hr : 0 ≤ n ∧ n < (rows : Int)
  · obtain ⟨row, rfl⟩ : ∃ row : Nat, n = (row : Int) := ⟨n.toNat, by omega⟩
    rw [staleB, if_pos hr, Int.toNat_natCast]
    have hrow : row < rows := by omega
    have hk := h.reg hrow
    have h64 := regs_le h.row2
    have HR := Lib.hid (fun q : Nat => by
      have hR := refRow_walk (w := w.drewN q) (h.ext ((Ext.refl w).drewN q)) row
      rw [decide_eq_true hr] at hR
      exact hR)
    have HG := Lib.hid (fun q : Nat => refRegion_walk row (w.drewN q) (by have := h.row2; omega))
    obtain ⟨k, hkk⟩ : ∃ k, row / 4 = k := ⟨_, rfl⟩
    rw [hkk] at hk HG ⊢
    obtain ⟨c, c1⟩ := h.c1
    have s1 := h.s k hk
    clear h hkk hr hrow
    go_enter Tryd.func38, Tryd.ntmps38
    go_wp2_with fail
    go_quiet ((first | (go_at_call 45; exact Calls.quiet_of_same (HR.out _)) | (go_at_call 23; exact Calls.quiet_of_same (HG.out _))))
    go_wp2
    go_ret
    exact ⟨rfl, _, rfl⟩
  · rw [staleB, if_neg hr]
    have HR := Lib.hid (fun q : Nat => by
      have hR := refRow_walk (w := w.drewN q) (h.ext ((Ext.refl w).drewN q)) n
      rw [decide_eq_false hr] at hR
      exact hR)
    clear h hr
    go_enter Tryd.func38, Tryd.ntmps38
    go_wp2_with fail
    go_quiet ((go_at_call 45; exact Calls.quiet_of_same (HR.out _)))
    go_wp2
    go_ret
    exact ⟨rfl, _, rfl⟩
end

end Go.Proofs.YtabjknljcmcmfaaDoor
