/- Layer 10: in; Mark and Clear out of range. -/
import Derived.Test.YtabjknljcmcmfaaDoorIntShown
namespace Go.Proofs.YtabjknljcmcmfaaDoor
open Go.RowKit

theorem region_neg (w : World) : Calls Tryd.prog 9 #[num (-5)] w fun e w' => e = .returned (num 0) ∧ w' = w := by
  have hmax : max (-5 : Int) 0 = 0 := by decide
  go_enter Tryd.func9, Tryd.ntmps9
  go_wp2
  go_ret
  exact ⟨rfl, rfl⟩

section
variable {w : World} {m bz rows stain : Nat} {busy : List Int} (h : MapV w m bz rows stain busy)
include h
theorem in_out (r : Int) (f : Value) (hr : r < 0 ∨ (regs rows : Int) ≤ r) : Calls Tryd.prog 27 #[ptr m, num r, f] w fun e w' => e = .returned (num 70) ∧ w' = w := by
  have HR := Lib.hid (regions_walk h)
  clear h
  rcases Int.lt_or_le r 0 with hr0 | hr0
  · clear hr HR
    go_enter Tryd.func27, Tryd.ntmps27
    go_wp2
    go_ret
    exact ⟨rfl, rfl⟩
  · have hle : (regs rows : Int) ≤ r := by omega
    clear hr
    go_enter Tryd.func27, Tryd.ntmps27
    go_wp2_with fail
    refine HR.out.mono ?_
    rintro e w' ⟨rfl, rfl⟩
    clear HR
    go_wp2
    go_ret
    exact ⟨rfl, rfl⟩
theorem mark_out (r : Int) (hr : r < 0 ∨ (regs rows : Int) ≤ r) : Calls Tryd.prog 13 #[ptr m, num r] w fun e w' => e = .returned (num 70) ∧ Ext w w' := by
  have e1 := (Ext.refl w).alloc (.cells #[ptr m] 22)
  have HI := Lib.hid (in_out (h.ext e1) r (.func (.func 28) #[] #[ptr w.heap.size]) hr)
  have E1 := Lib.hid e1
  clear h e1 hr
  go_enter Tryd.func13, Tryd.ntmps13
  go_wp2_with fail
  refine HI.out.mono ?_
  rintro e w' ⟨rfl, rfl⟩
  clear HI
  go_wp2
  go_ret
  exact ⟨rfl, E1.out⟩
theorem clear_out (r : Int) (hr : r < 0 ∨ (regs rows : Int) ≤ r) : Calls Tryd.prog 14 #[ptr m, num r] w fun e w' => e = .returned (num 70) ∧ Ext w w' := by
  have e1 := (Ext.refl w).alloc (.cells #[ptr m] 22)
  have HI := Lib.hid (in_out (h.ext e1) r (.func (.func 29) #[] #[ptr w.heap.size]) hr)
  have E1 := Lib.hid e1
  clear h e1 hr
  go_enter Tryd.func14, Tryd.ntmps14
  go_wp2_with fail
  refine HI.out.mono ?_
  rintro e w' ⟨rfl, rfl⟩
  clear HI
  go_wp2
  go_ret
  exact ⟨rfl, E1.out⟩
end

end Go.Proofs.YtabjknljcmcmfaaDoor
