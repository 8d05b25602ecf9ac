/- Layer 15: shown; Read; Cost. -/
import Derived.Test.YtllomgkdplpecaaPlanSmall
namespace Go.Proofs.Ytllomgkdplpecaa
open Go.RowKit

theorem shown_plan : planOf 4 [true, false, false, false] (lsOf 4 []) = (2, [0, 4, 5], [0, 4, 5]) := by decide
theorem good_nil (n : Nat) : GoodLost n [] := ⟨fun x hx => by simp at hx, by simp, by simp⟩

set_option maxRecDepth 100000 in
set_option maxHeartbeats 800000 in
theorem shown_walk (w : World) : Calls Try.prog 9 #[] w fun e w' => e = .returned (.bool true) ∧ Ext w w' := by
  have e1 := Lib.hid ((Ext.refl w).alloc (.cells #[.bool true, .bool false, .bool false, .bool false] 4))
  have r1 : RdB (w.alloc (.cells #[.bool true, .bool false, .bool false, .bool false] 4)) (.slice (some ⟨w.heap.size, 0, none⟩) 4 4) [true, false, false, false] := ⟨some ⟨w.heap.size, 0, none⟩, 4, rfl, Nat.le_refl _, fun i hi => ⟨_, rfl, by
    rw [zero_add, cell_blk (alloc_new w _)]
    match i, hi with
    | 0, _ => rfl
    | 1, _ => rfl
    | 2, _ => rfl
    | 3, _ => rfl⟩⟩
  have HC := Lib.hid (choose_walk (n := 4) (by decide) (by decide) r1 rfl (Rd.nil num 0 _) (good_nil 4) (by decide))
  clear r1
  go_enter Try.func9, Try.ntmps9
  go_wp2_with fail
  refine HC.out.mono ?_
  rintro e w2 ⟨rv, pv, rfl, hrv, hpv, e2⟩
  rw [shown_plan] at hrv hpv
  obtain ⟨A1, cap1, rfl, hc1, -⟩ := hrv.shape
  obtain ⟨A2, cap2, rfl, hc2, -⟩ := hpv.shape
  have HR := Lib.hid hrv.rd
  have E2 := Lib.hid (e1.out.trans e2)
  clear HC hrv hpv e2 e1
  simp only [shown_plan]
  go_wp2_with fail
  have e3 := Lib.hid (((Ext.refl w2).alloc (.cells #[.int .i64 2, .slice A1 3 cap1, .slice A2 3 cap2] 26)).alloc (.cells #[.int .i64 0, .int .i64 4, .int .i64 5] 3))
  have b3 := alloc_new (w2.alloc (.cells #[.int .i64 2, .slice A1 3 cap1, .slice A2 3 cap2] 26)) (.cells #[.int .i64 0, .int .i64 4, .int .i64 5] 3)
  rw [size_alloc] at b3
  have B3 := Lib.hid b3
  clear b3
  generalize (w2.alloc (.cells #[.int .i64 2, .slice A1 3 cap1, .slice A2 3 cap2] 26)).alloc (.cells #[.int .i64 0, .int .i64 4, .int .i64 5] 3) = w3 at e3 B3 ⊢
  have hs := same_rd (a := [0, 4, 5]) (b := [0, 4, 5]) (HR.out.ext e3.out) (v' := .slice (some ⟨w2.heap.size + 1, 0, none⟩) 3 3) ⟨some ⟨w2.heap.size + 1, 0, none⟩, 3, rfl, Nat.le_refl _, fun i hi => ⟨_, rfl, by
    rw [zero_add, cell_blk B3.out]
    match i, hi with
    | 0, _ => rfl
    | 1, _ => rfl
    | 2, _ => rfl⟩⟩ (by decide) (by decide)
  refine hs.mono ?_
  rintro e w4 ⟨rfl, m, rfl⟩
  have E4 := Lib.hid ((E2.out.trans e3.out).drewN m)
  clear hs
  go_wp2
  go_ret
  exact ⟨rfl, E4.out⟩

end Go.Proofs.Ytllomgkdplpecaa
