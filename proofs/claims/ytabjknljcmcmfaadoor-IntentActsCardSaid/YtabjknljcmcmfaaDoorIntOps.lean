/- Layer 10: the methods Mark, Clear, Done, whole. -/
import Derived.Test.YtabjknljcmcmfaaDoorIntMore
namespace Go.Proofs.YtabjknljcmcmfaaDoor
open Go.RowKit

section
variable {w : World} {m bz rows stain : Nat} {busy : List Int} (h : MapV w m bz rows stain busy)
include h
theorem mark_walk (r : Nat) (hr : r < regs rows) : Calls Tryd.prog 13 #[ptr m, num r] w fun e w' => e = .returned (num 0) ∧ MapV w' m bz rows (stain ||| 2 ^ r) busy ∧ Keeps (mapF m bz) w w' := by
  have hr64 := regs_le h.row2
  have e1 := (Ext.refl w).alloc (.cells #[ptr m] 22)
  have b1 := alloc_new w (.cells #[ptr m] 22)
  have h1 := h.ext e1
  have hk := (mark1_walk h1 w.heap.size r hr (by rw [cell_blk b1]; rfl)).mono (R' := fun e w' => e = .returned (num 0) ∧ MapV w' m bz rows (stain ||| 2 ^ r) busy ∧ Keeps (mapF m bz) w w') (by
    rintro e w' ⟨rfl, rfl⟩
    exact ⟨rfl, (h1.stain (stain ||| 2 ^ r) (or_small stain r h.small (by omega))).ext (Ext.refl _).drew, (((e1.to_keeps.mono (G := mapF m bz) (fun _ h => h.elim)).set (p := ⟨m, 1, none⟩) (.inl (.inl rfl)) _)).drew⟩)
  have HA := Lib.hid (in_in h1 r 28 (ptr w.heap.size) _ hr (Tryd.runs _ Tryd.func28 (by kernel_rfl) rfl) (fun e w' hR => ⟨_, hR.1⟩) hk)
  clear e1 b1 h1 hk h hr hr64
  go_enter Tryd.func13, Tryd.ntmps13
  go_wp2_with fail
  refine HA.out.mono ?_
  rintro e w2 ⟨rfl, hR⟩
  have R := Lib.hid hR
  clear HA hR
  go_wp2
  go_ret
  exact ⟨rfl, R.out⟩
theorem clear_busy (r : Nat) (hr : r < regs rows) (hz : 0 < busy.getD r 0) : Calls Tryd.prog 14 #[ptr m, num r] w fun e w' => e = .returned (num 5) ∧ Ext w w' := by
  have hr64 := regs_le h.row2
  have e1 := (Ext.refl w).alloc (.cells #[ptr m] 22)
  have b1 := alloc_new w (.cells #[ptr m] 22)
  have h1 := h.ext e1
  have hk := (clear1_busy h1 w.heap.size r hr (by rw [cell_blk b1]; rfl) hz).mono (R' := fun e w' => e = .returned (num 5) ∧ Ext w w') (by
    rintro e w' ⟨rfl, rfl⟩
    exact ⟨rfl, e1⟩)
  have HA := Lib.hid (in_in h1 r 29 (ptr w.heap.size) _ hr (Tryd.runs _ Tryd.func29 (by kernel_rfl) rfl) (fun e w' hR => ⟨_, hR.1⟩) hk)
  clear e1 b1 h1 hk h hr hr64 hz
  go_enter Tryd.func14, Tryd.ntmps14
  go_wp2_with fail
  refine HA.out.mono ?_
  rintro e w2 ⟨rfl, hR⟩
  have R := Lib.hid hR
  clear HA hR
  go_wp2
  go_ret
  exact ⟨rfl, R.out⟩
theorem clear_walk (r : Nat) (hr : r < regs rows) (hz : busy.getD r 0 = 0) : Calls Tryd.prog 14 #[ptr m, num r] w fun e w' => e = .returned (num 0) ∧ MapV w' m bz rows (clr stain r) busy ∧ Keeps (mapF m bz) w w' := by
  have hr64 := regs_le h.row2
  have e1 := (Ext.refl w).alloc (.cells #[ptr m] 22)
  have b1 := alloc_new w (.cells #[ptr m] 22)
  have h1 := h.ext e1
  have hk := (clear1_walk h1 w.heap.size r hr (by rw [cell_blk b1]; rfl) hz).mono (R' := fun e w' => e = .returned (num 0) ∧ MapV w' m bz rows (clr stain r) busy ∧ Keeps (mapF m bz) w w') (by
    rintro e w' ⟨rfl, rfl⟩
    exact ⟨rfl, (h1.stain (clr stain r) (clr_lt stain r h.small)).ext (Ext.refl _).drew, (((e1.to_keeps.mono (G := mapF m bz) (fun _ h => h.elim)).set (p := ⟨m, 1, none⟩) (.inl (.inl rfl)) _)).drew⟩)
  have HA := Lib.hid (in_in h1 r 29 (ptr w.heap.size) _ hr (Tryd.runs _ Tryd.func29 (by kernel_rfl) rfl) (fun e w' hR => ⟨_, hR.1⟩) hk)
  clear e1 b1 h1 hk h hr hr64 hz
  go_enter Tryd.func14, Tryd.ntmps14
  go_wp2_with fail
  refine HA.out.mono ?_
  rintro e w2 ⟨rfl, hR⟩
  have R := Lib.hid hR
  clear HA hR
  go_wp2
  go_ret
  exact ⟨rfl, R.out⟩
theorem done_none (row : Nat) (hr : row < rows) (hz : busy.getD (row / 4) 0 = 0) : Calls Tryd.prog 15 #[ptr m, num row] w fun e w' => e = .returned (num 3) ∧ Ext w w' := by
  have e1 := (Ext.refl w).alloc (.cells #[ptr m] 22)
  have b1 := alloc_new w (.cells #[ptr m] 22)
  have h1 := h.ext e1
  have hk := (done1_none h1 w.heap.size (row / 4) (row_reg h hr) (by rw [cell_blk b1]; rfl) hz).mono (R' := fun e w' => e = .returned (num 3) ∧ Ext w w') (by
    rintro e w' ⟨rfl, rfl⟩
    exact ⟨rfl, e1⟩)
  have HA := Lib.hid (at_in1 h1 row 30 (ptr w.heap.size) _ hr (Tryd.runs _ Tryd.func30 (by kernel_rfl) rfl) (fun e w' hR => ⟨_, hR.1⟩) hk)
  clear e1 b1 h1 hk h hr hz
  go_enter Tryd.func15, Tryd.ntmps15
  go_wp2_with fail
  refine HA.out.mono ?_
  rintro e w2 ⟨rfl, hR⟩
  have R := Lib.hid hR
  clear HA hR
  go_wp2
  go_ret
  exact ⟨rfl, R.out⟩
theorem done_walk (row : Nat) (hr : row < rows) (hz : busy.getD (row / 4) 0 ≠ 0) : Calls Tryd.prog 15 #[ptr m, num row] w fun e w' => e = .returned (num 0) ∧ MapV w' m bz rows stain (busy.set (row / 4) (wrap64 (busy.getD (row / 4) 0 - 1))) ∧ Keeps (mapF m bz) w w' := by
  have e1 := (Ext.refl w).alloc (.cells #[ptr m] 22)
  have b1 := alloc_new w (.cells #[ptr m] 22)
  have h1 := h.ext e1
  have hk := (done1_walk h1 w.heap.size (row / 4) (row_reg h hr) (by rw [cell_blk b1]; rfl) hz).mono (R' := fun e w' => e = .returned (num 0) ∧ MapV w' m bz rows stain (busy.set (row / 4) (wrap64 (busy.getD (row / 4) 0 - 1))) ∧ Keeps (mapF m bz) w w') (by
    rintro e w' ⟨rfl, rfl⟩
    exact ⟨rfl, h1.count _ _, (e1.to_keeps.mono (G := mapF m bz) (fun _ h => h.elim)).set (p := ⟨bz, row / 4, none⟩) (.inl (.inr rfl)) _⟩)
  have HA := Lib.hid (at_in1 h1 row 30 (ptr w.heap.size) _ hr (Tryd.runs _ Tryd.func30 (by kernel_rfl) rfl) (fun e w' hR => ⟨_, hR.1⟩) hk)
  clear e1 b1 h1 hk h hr hz
  go_enter Tryd.func15, Tryd.ntmps15
  go_wp2_with fail
  refine HA.out.mono ?_
  rintro e w2 ⟨rfl, hR⟩
  have R := Lib.hid hR
  clear HA hR
  go_wp2
  go_ret
  exact ⟨rfl, R.out⟩
theorem done_out (row : Nat) (hr : rows ≤ row) : Calls Tryd.prog 15 #[ptr m, num row] w fun e w' => e = .returned (num 70) ∧ Ext w w' := by
  have e1 := (Ext.refl w).alloc (.cells #[ptr m] 22)
  have HI := Lib.hid (at_out (h.ext e1) row (.func (.func 30) #[] #[ptr w.heap.size]) hr)
  have E1 := Lib.hid e1
  clear h e1 hr
  go_enter Tryd.func15, Tryd.ntmps15
  go_wp2_with fail
  refine HI.out.mono ?_
  rintro e w' ⟨rfl, rfl⟩
  clear HI
  go_wp2
  go_ret
  exact ⟨rfl, E1.out⟩
end

end Go.Proofs.YtabjknljcmcmfaaDoor
