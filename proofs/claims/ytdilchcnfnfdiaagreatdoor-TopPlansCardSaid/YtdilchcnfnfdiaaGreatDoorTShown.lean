/- shown: an array is made. -/
import Derived.Test.YtdilchcnfnfdiaaGreatDoorTStatus
import Derived.Test.YtdilchcnfnfdiaaGreatDoorTDrvs
namespace Go.Proofs.YtdilchcnfnfdiaaGreatDoor
open Go.RowKit

theorem Tryz.uArr : Tryz.prog.underlying 84 = some (.pointer 152) := by kernel_rfl
theorem ptr_some (w : World) (b : Nat) : (binOp .neq 84 (ptr b) (.pointer none)).run Tryz.prog w = .ok (.bool true) w := by
  have h : ∀ d : Nat, (Op.equalIn (d + 1) 84 (ptr b) (.pointer none)).run Tryz.prog w = .ok false w := fun d => by
    simp [Op.equalIn, run_underlying Tryz.uArr]
  simp only [binOp]
  simp [Op.equal, Op.maxDepth, h 9999]
theorem stat_size (w : World) : (Instr.field 88 (.agg statF) 1).run Tryz.prog w = .ok (num 4) w := by kernel_rfl
set_option maxRecDepth 100000 in
set_option maxHeartbeats 1000000 in
theorem shown_walk (w : World) : Calls Tryz.prog 9 #[] w fun e w' => e = .returned (.bool true) ∧ Ext w w' := by
  have HD := Lib.hid (drives_walk 4 6 w (by decide) (by decide) (by decide))
  have HM := fun W => Lib.hid (mul23_walk W)
  go_enter Tryz.func9, Tryz.ntmps9
  go_wp2_with fail
  refine HD.out.mono ?_
  rintro e1 w1 ⟨v, ds, rfl, hl, hv, hf, hge, he⟩
  obtain ⟨g, cap, hve, hg, _⟩ := hv.shape (by intro e; rw [e] at hl; cases hl)
  rw [hl] at hve
  subst hve
  have hcap : 4 ≤ cap := by
    obtain ⟨A, c, hA, hc, _⟩ := hv.rd DB.zero
    injection hA with _ _ h3
    omega
  have HC := Lib.hid (create_walk w1 g cap ds hcap hl hf (fun i hi => hv.cell i _ (by simp [hl, hi])))
  have HF := Lib.hid (And.intro hl (And.intro hge he))
  have hsn := fun W => slice_nil W ⟨g, 0, none⟩ 4 cap
  clear HD hv hl hf hge he hcap hg
  go_wp2_with fail
  refine HC.out.mono ?_
  rintro e2 w2 ⟨a, m, bz, st, dv, bv, rfl, ha, hf2, hk2⟩
  have HS := Lib.hid (status_walk ha hf2 (by intro e; have := HF.out.1; rw [e] at this; cases this) (by have := HF.out.1; omega) (by rw [HF.out.1]))
  have hpn := fun W => ptr_some W a
  have HE := Lib.hid (show Ext w w2 from HF.out.2.2.keeps hk2 (fun b hb => by obtain ⟨x, hx, hb⟩ := hb; exact HF.out.2.1 x hx b hb))
  clear HC ha hf2 hk2
  go_wp2_with fail
  refine HS.out.mono ?_
  rintro e3 w3 ⟨rfl, he3⟩
  have HE3 := Lib.hid (HE.out.trans he3)
  have hfl := fun W => stat_size W
  clear HS HE HF he3
  go_wp2_with fail
  refine (HM _).out.mono ?_
  rintro e4 w4 ⟨rfl, rfl⟩
  clear HM
  go_wp2_with fail
  go_ret
  exact ⟨rfl, HE3.out⟩

end Go.Proofs.YtdilchcnfnfdiaaGreatDoor
