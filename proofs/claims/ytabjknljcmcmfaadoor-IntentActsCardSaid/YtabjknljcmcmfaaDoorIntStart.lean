/- Layer 10: Start, Stale. -/
import Derived.Test.YtabjknljcmcmfaaDoorIntMap
import Derived.Conc.MuLone
namespace Go.Proofs.YtabjknljcmcmfaaDoor
open Go.RowKit

theorem Tryd.runs (k : FuncId) {fn : Func} {c : Code} (hf : Tryd.prog.funcs[k]? = some fn) (hname : (fn.name == "runtime.NumGoroutine") = false) (hb : fn.body = some c) : ∀ args W, (callFunc k args).run Tryd.prog W = .ok (.enter k args) W := fun args w => Go.MuLone.run_callFunc_enter (P := Tryd.prog) hf hname hb args w
abbrev mapF (m bz : Nat) : Nat → Prop := fun i => i = m ∨ i = bz

section
variable {w : World} {m bz rows stain : Nat} {busy : List Int} (h : MapV w m bz rows stain busy)
include h
theorem MapV.lt : m < w.heap.size ∧ bz < w.heap.size := ⟨block_lt h.blk, block_lt h.cnt⟩
theorem row_reg {row : Nat} (hr : row < rows) : row / 4 < regs rows := by
  have := h.row1
  unfold regs
  omega

set_option maxRecDepth 100000 in
theorem start_walk (row : Nat) (hr : row < rows) :
    Calls Tryd.prog 11 #[ptr m, num row] w fun e w' => e = .returned (.tuple #[.bool (!stain.testBit (row / 4)), num 0]) ∧ MapV w' m bz rows (stain ||| 2 ^ (row / 4)) (startBusy busy (row / 4)) ∧ Keeps (mapF m bz) w w' := by
  obtain ⟨l1, l2⟩ := h.lt
  have e2 := ((Ext.refl w).alloc (.cells #[ptr m] 22)).alloc (.cells #[.bool false] 4)
  have b1 := alloc_old (.cells #[.bool false] 4) (alloc_new w (.cells #[ptr m] 22))
  have b2 := alloc_new (w.alloc (.cells #[ptr m] 22)) (.cells #[.bool false] 4)
  rw [size_alloc] at b2
  have h2 := h.ext e2
  have hk := start1_walk h2 w.heap.size (w.heap.size + 1) (row / 4) false (row_reg h hr) (by rw [cell_blk b1]; rfl) b2 (by omega) (by omega) (by omega) (by omega)
  have HA := Lib.hid (at_in h2 row 25 (ptr w.heap.size) (ptr (w.heap.size + 1)) _ hr (Tryd.runs _ Tryd.func25 (by kernel_rfl) rfl) (fun e w' hR => ⟨_, hR.1⟩) hk)
  have E2 := Lib.hid e2
  have B1 := Lib.hid b1
  clear e2 b1 b2 h2 hk h
  go_enter Tryd.func11, Tryd.ntmps11
  go_wp2_with fail
  refine HA.out.mono ?_
  rintro e w3 ⟨rfl, hm, hb, hk⟩
  have c1 : w3.cell? ⟨w.heap.size + 1, 0, none⟩ = some (.bool (!stain.testBit (row / 4))) := by rw [cell_blk hb]; rfl
  have f1 : w3.frozen? ⟨w.heap.size + 1, 0, none⟩ = false := free_blk hb 0
  have hm3 := hm.keep (F := fun i => i = w.heap.size + 1) ((Keeps.refl (fun i => i = w.heap.size + 1) w3).set (p := ⟨w.heap.size + 1, 0, none⟩) (.inl rfl) (.bool (!stain.testBit (row / 4)))) (fun e => by omega) (fun e => by omega)
  have k3 := ((E2.out.to_keeps.mono (G := mapF m bz) (fun _ h => h.elim)).trans hk (fun i hi => hi.elim (fun h => .inl (.inl h)) (fun hi => hi.elim (fun h => .inl (.inr h)) (fun h => .inr (by omega))))).set (p := ⟨w.heap.size + 1, 0, none⟩) (.inr (Nat.le_succ _)) (.bool (!stain.testBit (row / 4)))
  have R := Lib.hid (And.intro hm3 k3)
  have D := Lib.hid (show (w3.setCell ⟨w.heap.size + 1, 0, none⟩ (.bool (!stain.testBit (row / 4)))).cell? ⟨w.heap.size + 1, 0, none⟩ = some (.bool (!stain.testBit (row / 4))) by rw [cell_blk (set_blk hb 0 _)]; rfl)
  clear HA hm hb hk hm3 k3 E2 B1
  go_wp2
  have d := D.out
  exact bodyPost_ret (v := .tuple #[.bool (!stain.testBit (row / 4)), num 0]) (by simp [results, Tryd.results11, go_sem, d]) rfl ⟨rfl, R.out⟩

set_option maxRecDepth 100000 in
theorem start_out (row : Nat) (hr : rows ≤ row) :
    Calls Tryd.prog 11 #[ptr m, num row] w fun e w' => e = .returned (.tuple #[.bool false, num 70]) ∧ Ext w w' := by
  have e2 := ((Ext.refl w).alloc (.cells #[ptr m] 22)).alloc (.cells #[.bool false] 4)
  have b2 := alloc_new (w.alloc (.cells #[ptr m] 22)) (.cells #[.bool false] 4)
  rw [size_alloc] at b2
  have HA := Lib.hid (at_out (h.ext e2) row (.func (.func 25) #[] #[ptr w.heap.size, ptr (w.heap.size + 1)]) hr)
  have E3 := Lib.hid e2
  have D := Lib.hid (show ((w.alloc (.cells #[ptr m] 22)).alloc (.cells #[.bool false] 4)).cell? ⟨w.heap.size + 1, 0, none⟩ = some (.bool false) by rw [cell_blk b2]; rfl)
  clear e2 b2 h
  go_enter Tryd.func11, Tryd.ntmps11
  go_wp2_with fail
  refine HA.out.mono ?_
  rintro e w3 ⟨rfl, rfl⟩
  clear HA
  go_wp2
  have d := D.out
  exact bodyPost_ret (v := .tuple #[.bool false, num 70]) (by simp [results, Tryd.results11, go_sem, d]) rfl ⟨rfl, E3.out⟩

/-! ### Stale -/
theorem stale1_walk (b1 b2 r : Nat) (h1 : w.cell? ⟨b1, 0, none⟩ = some (ptr m)) (h2 : w.heap[b2]? = some (.cells #[.bool false] 4)) (hr : r < 64) :
    Calls Tryd.prog 26 #[num r, ptr b1, ptr b2] w fun e w' => e = .returned (num 0) ∧ w' = w.setCell ⟨b2, 0, none⟩ (.bool (stain.testBit r)) := by
  have c1 : w.cell? ⟨m, 1, none⟩ = some (.int .u64 stain) := by rw [cell_blk h.blk]; rfl
  have d0 : w.cell? ⟨b2, 0, none⟩ = some (.bool false) := by rw [cell_blk h2]; rfl
  have f0 : w.frozen? ⟨b2, 0, none⟩ = false := free_blk h2 0
  have Q := Lib.hid (bit_one stain r h.small)
  clear h h2
  go_enter Tryd.func26, Tryd.ntmps26
  go_wp2
  go_ret
  exact ⟨rfl, by rw [Q.out]⟩

set_option maxRecDepth 100000 in
theorem stale_walk (row : Nat) (hr : row < rows) :
    Calls Tryd.prog 12 #[ptr m, num row] w fun e w' => e = .returned (.bool (stain.testBit (row / 4))) ∧ Ext w w' := by
  have e2 := ((Ext.refl w).alloc (.cells #[ptr m] 22)).alloc (.cells #[.bool false] 4)
  have b1 := alloc_old (.cells #[.bool false] 4) (alloc_new w (.cells #[ptr m] 22))
  have b2 := alloc_new (w.alloc (.cells #[ptr m] 22)) (.cells #[.bool false] 4)
  rw [size_alloc] at b2
  have h2 := h.ext e2
  have hr4 := Nat.lt_of_lt_of_le (row_reg h hr) (regs_le h.row2)
  have hk := stale1_walk h2 w.heap.size (w.heap.size + 1) (row / 4) (by rw [cell_blk b1]; rfl) b2 hr4
  have HA := Lib.hid (at_in h2 row 26 (ptr w.heap.size) (ptr (w.heap.size + 1)) _ hr (Tryd.runs _ Tryd.func26 (by kernel_rfl) rfl) (fun e w' hR => ⟨_, hR.1⟩) hk)
  have E3 := Lib.hid (e2.set (p := ⟨w.heap.size + 1, 0, none⟩) (Nat.le_succ _) (.bool (stain.testBit (row / 4))))
  have D := Lib.hid (show (((w.alloc (.cells #[ptr m] 22)).alloc (.cells #[.bool false] 4)).setCell ⟨w.heap.size + 1, 0, none⟩ (.bool (stain.testBit (row / 4)))).cell? ⟨w.heap.size + 1, 0, none⟩ = some (.bool (stain.testBit (row / 4))) by rw [cell_blk (set_blk b2 0 _)]; rfl)
  clear e2 b1 b2 h2 hk h hr4
  go_enter Tryd.func12, Tryd.ntmps12
  go_wp2_with fail
  refine HA.out.mono ?_
  rintro e w3 ⟨rfl, rfl⟩
  have d := D.out
  have R := Lib.hid E3.out
  clear HA D E3
  generalize ((w.alloc (.cells #[ptr m] 22)).alloc (.cells #[.bool false] 4)).setCell ⟨w.heap.size + 1, 0, none⟩ (.bool (stain.testBit (row / 4))) = w4 at d R ⊢
  go_wp2
  go_ret
  exact ⟨rfl, R.out⟩
end

end Go.Proofs.YtabjknljcmcmfaaDoor
