/- Layer 10: same: both maps show the same. -/
import Derived.Test.YtabjknljcmcmfaaDoorIntActs
namespace Go.Proofs.YtabjknljcmcmfaaDoor
open Go.RowKit

section
variable {W0 w : World} {m bz r g1 g2 rows x lim : Nat} {busy : List Int} (h : Both W0 m bz r g1 g2 rows x busy lim w)
include h
theorem Both.tab (ht : Tab 0 W0) : Tab 0 w := ht.ext h.ext
theorem Both.dirtyA (ht : Tab 0 W0) : Calls Tryd.prog 16 #[ptr m] w fun e W' => ∃ v, e = .returned v ∧ RdI W' v (bitsI x) ∧ Ext w W' := by
  refine (dirty_walk h.a (h.tab ht) (by have := h.a.lt; omega)).mono ?_
  rintro e W' ⟨v, rfl, ho, he⟩
  exact ⟨v, rfl, ho.rd, he⟩
theorem Both.dirtyB : Calls Tryd.prog 39 #[ptr r] w fun e W' => ∃ v, e = .returned v ∧ RdI W' v (bitsI x) ∧ Ext w W' := by
  refine (refDirty_walk h.b).mono ?_
  rintro e W' ⟨v, rfl, ho, he⟩
  rw [selP_bits (regs_le h.a.row2) h.x] at ho
  exact ⟨v, rfl, ho.rd, he⟩
theorem Both.idleA (ht : Tab 0 W0) : Calls Tryd.prog 40 #[ptr m] w fun e W' => ∃ v, e = .returned v ∧ RdI W' v (idleL x busy) ∧ Ext w W' := idle_walk h.a h.x (h.tab ht)
theorem Both.idleB : Calls Tryd.prog 41 #[ptr r] w fun e W' => ∃ v, e = .returned v ∧ RdI W' v (idleL x busy) ∧ Ext w W' := by
  refine (refIdle_walk h.b).mono ?_
  rintro e W' ⟨v, rfl, ho, he⟩
  rw [selP_idle (regs_le h.a.row2) h.x (fun i => (h.nn i).1)] at ho
  exact ⟨v, rfl, ho.rd, he⟩
end
theorem idleL_len (x : Nat) (busy : List Int) : (idleL x busy).length ≤ 64 := Nat.le_trans (List.length_filter_le _ _) (bitsI_len x)

section
variable {W0 w : World} {m bz r g1 g2 rows x lim : Nat} {busy : List Int} (h : Both W0 m bz r g1 g2 rows x busy lim w)
include h
set_option maxRecDepth 100000 in
set_option maxHeartbeats 2000000 in
theorem same2_walk (ht : Tab 0 W0) : Calls Tryd.prog 22 #[ptr m, ptr r] w fun e w' => e = .returned (.bool true) ∧ Both W0 m bz r g1 g2 rows x busy lim w' := by
  have H0 := Lib.hid (h.later (Ext.refl _).drew)
  have HT := Lib.hid ht
  obtain ⟨c, hc⟩ := h.b.c1
  have LA := Lib.hid (show (bitsI x).length ≤ 1048576 by have := bitsI_len x; omega)
  have LB := Lib.hid (show (idleL x busy).length ≤ 1048576 by have := idleL_len x busy; omega)
  have CC := Lib.hid (fun (W W' : World) (hW : W.cell? ⟨r, 1, none⟩ = some (.slice (some ⟨g1, 0, none⟩) (regs rows) c)) (e : Ext W W') => e.cell hW)
  have hcd : w.drew.cell? ⟨r, 1, none⟩ = some (.slice (some ⟨g1, 0, none⟩) (regs rows) c) := hc
  clear h ht
  go_enter Tryd.func22, Tryd.ntmps22
  go_wp2_with fail
  go_region_held3 (fun w' => w'.cell? ⟨r, 1, none⟩ = some (.slice (some ⟨g1, 0, none⟩) (regs rows) c)) (first | assumption) (first
    | (go_at_call 10; refine (regions_walk H0.out.a).mono ?_; rintro e w1 ⟨rfl, rfl⟩)
    | (go_at_call 16; refine (H0.out.dirtyA HT.out).mono ?_; rintro e w2 ⟨v1, rfl, o1, e2⟩; have H2 := Lib.hid (H0.out.later e2); have R1 := Lib.hid o1; have c2 := CC.out w.drew w2 hcd e2)
    | (go_at_call 39; refine (H2.out.dirtyB).mono ?_; rintro e w3 ⟨v2, rfl, o2, e3⟩; have H3 := Lib.hid (H2.out.later e3); have R2 := Lib.hid (And.intro (R1.out.ext e3) o2); have c3 := CC.out w2 w3 c2 e3)
    | (go_at_call 19; refine (same_rd R5.out.1 R5.out.2 LB.out LB.out).mono ?_; rintro e w7 ⟨rfl, q2, rfl⟩; have e7 := (Ext.refl w6).drewN q2; have H7 := Lib.hid (H6.out.later e7); have c7 := CC.out w6 (w6.drewN q2) c6 e7; rw [decide_eq_true rfl])
    | (go_at_call 19; refine (same_rd R2.out.1 R2.out.2 LA.out LA.out).mono ?_; rintro e w4 ⟨rfl, q, rfl⟩; have e4 := (Ext.refl w3).drewN q; have H4 := Lib.hid (H3.out.later e4); have c4 := CC.out w3 (w3.drewN q) c3 e4; rw [decide_eq_true rfl])
    | (go_at_call 40; refine (H4.out.idleA HT.out).mono ?_; rintro e w5 ⟨v3, rfl, o5, e5⟩; have H5 := Lib.hid (H4.out.later e5); have R4 := Lib.hid o5; have c5 := CC.out (w3.drewN q) w5 c4 e5)
    | (go_at_call 41; refine (H5.out.idleB).mono ?_; rintro e w6 ⟨v4, rfl, o6, e6⟩; have H6 := Lib.hid (H5.out.later e6); have R5 := Lib.hid (And.intro (R4.out.ext e6) o6); have c6 := CC.out w5 w6 c5 e6)
    | (go_at_call 18; refine (bytes_walk H7.out.a).mono ?_; rintro e w8 ⟨rfl, e8⟩; have H8 := Lib.hid (H7.out.later e8); have c8 := CC.out (w6.drewN q2) w8 c7 e8)
    | (go_at_call 42; refine (refBytes_walk H8.out.b H8.out.x).mono ?_; rintro e w9 ⟨rfl, e9⟩; have H9 := Lib.hid (H8.out.later e9); have c9 := CC.out w8 w9 c8 e9))
  go_wp2
  go_ret
  exact ⟨rfl, H9.out⟩
end

end Go.Proofs.YtabjknljcmcmfaaDoor
