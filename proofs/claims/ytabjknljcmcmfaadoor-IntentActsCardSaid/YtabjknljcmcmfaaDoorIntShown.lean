/- Layer 10: shown. -/
import Derived.Test.YtabjknljcmcmfaaDoorIntDirty
namespace Go.Proofs.YtabjknljcmcmfaaDoor
open Go.RowKit

theorem Tab.ext {g : Nat} {w w' : World} (h : Tab g w) (e : Ext w w') : Tab g w' := fun j hj => e.cell (h j hj)
theorem Tab.keeps {g : Nat} {w w' : World} {F : Nat → Prop} (h : Tab g w) (k : Keeps F w w') (hg : ¬ F g) : Tab g w' := fun j hj => (World.cell?_of_block (w := w) (k.block g (World.block_lt_of_cell? w _ (h j hj)) hg)).trans (h j hj)
theorem Own.one (w : World) (B : Nat) (x : Int) (hB : B ≤ w.heap.size) : Own (w.alloc (.cells #[num x] 3)) B (.slice (some ⟨w.heap.size, 0, none⟩) 1 1) [x] := w.ownsRow_lit #[num x] 1 hB (by decide) rfl

set_option maxRecDepth 100000 in
set_option maxHeartbeats 800000 in
theorem shown_walk {w : World} (ht : Tab 0 w) (hg : 0 < w.heap.size) :
    Calls Tryd.prog 8 #[] w fun e w' => e = .returned (.bool true) ∧ Ext w w' := by
  have HT := Lib.hid ht
  have HG := Lib.hid hg
  have HN := Lib.hid (new_walk 20 w (by decide) (by decide))
  clear ht hg
  go_enter Tryd.func8, Tryd.ntmps8
  go_wp2_with fail
  refine HN.out.mono ?_
  rintro e w1 ⟨m, bz, rfl, hm, l1, l2, e1⟩
  have HM := Lib.hid hm
  have HT1 := Lib.hid (HT.out.ext e1)
  have HL := Lib.hid (And.intro l1 l2)
  have E1 := Lib.hid e1
  clear hm l1 l2 e1 HN HT
  have HS := Lib.hid (start_walk HM.out 5 (by decide))
  go_wp2_with fail
  refine HS.out.mono ?_
  rintro e w2 ⟨rfl, hm2, k2⟩
  have HM2 := Lib.hid (show MapV w2 m bz 20 2 (startBusy (List.replicate (regs 20) 0) 1) from hm2)
  have HT2 := Lib.hid (HT1.out.keeps k2 (fun h => by have := HL.out; have := HG.out; rcases h with h | h <;> omega))
  have E2 := Lib.hid (E1.out.keeps k2 (fun i h => by have := HL.out; rcases h with h | h <;> omega))
  have hb0 : (!Nat.testBit 0 (5 / 4)) = true := by decide
  rw [hb0]
  clear hm2 k2 HS HM HT1 E1 hb0
  have S4 := Lib.hid (stale_walk HM2.out 4 (by decide))
  go_wp2_with fail
  refine S4.out.mono ?_
  rintro e w3 ⟨rfl, e3⟩
  have hb4 : Nat.testBit 2 (4 / 4) = true := by decide
  rw [hb4]
  have HM3 := Lib.hid (HM2.out.ext e3)
  have HT3 := Lib.hid (HT2.out.ext e3)
  have E3 := Lib.hid (E2.out.trans e3)
  clear S4 e3 HM2 HT2 E2 hb4
  have S3 := Lib.hid (stale_walk HM3.out 3 (by decide))
  go_wp2_with fail
  refine S3.out.mono ?_
  rintro e w4 ⟨rfl, e4⟩
  have hb3 : Nat.testBit 2 (3 / 4) = false := by decide
  rw [hb3]
  have HM4 := Lib.hid (HM3.out.ext e4)
  have HT4 := Lib.hid (HT3.out.ext e4)
  have E4 := Lib.hid (E3.out.trans e4)
  clear S3 e4 HM3 HT3 E3 hb3
  have HD := Lib.hid (dirty_walk HM4.out HT4.out (by have := E4.out.size; have := HG.out; omega))
  go_wp2_with fail
  refine HD.out.mono ?_
  rintro e w5 ⟨v, rfl, hv, e5⟩
  rw [show bitsI 2 = [1] by decide +kernel] at hv
  have HV := Lib.hid hv
  have E5 := Lib.hid (E4.out.trans e5)
  clear hv e5 HD
  have SM := Lib.hid (same_rd (a := [1]) (b := [1]) (HV.out.rd.ext ((Ext.refl w5).alloc (.cells #[num 1] 3))) (Own.one w5 0 1 (Nat.zero_le _)).rd (by simp) (by simp))
  have E6 := Lib.hid (E5.out.alloc (.cells #[num 1] 3))
  go_wp2_with fail
  refine SM.out.mono ?_
  rintro e w6 ⟨rfl, k, rfl⟩
  have E7 := Lib.hid (E6.out.drewN k)
  clear SM E6
  go_wp2
  go_ret
  exact ⟨by simp, E7.out⟩

end Go.Proofs.YtabjknljcmcmfaaDoor
