/- IntentRegions: the walk. -/
import Derived.Test.YtabjknljcmcmfaaDoorIntIn
namespace Go.Proofs.YtabjknljcmcmfaaDoor
open Go.RowKit

def RegRel (W : World) (n : Nat) (j : Value) (wr : World) : Prop := ∃ i : Nat, i ≤ n ∧ j = num i ∧ Ext W wr
theorem RegRel.next {W w1 w2 : World} {n i : Nat} (h : i < n) (e1 : Ext W w1) (e2 : Ext w1 w2) : RegRel W n (num ((i : Int) + 1)) w2 := ⟨i + 1, by omega, by go_num, e1.trans e2⟩

set_option maxRecDepth 100000 in
set_option maxHeartbeats 4000000 in
theorem regions_law (rows row : Nat) {w : World} (h1 : rows ≤ 255) (h2 : row ≤ 255) (ht : Tab 0 w) (hg : 0 < w.heap.size) :
    Calls Tryd.prog 3 #[.int .u8 rows, .int .u8 row] w fun e w' => e = .returned (.bool true) ∧ Below w.heap.size w w' := by
  obtain ⟨n, hn⟩ : ∃ n : Nat, n = 1 + rows := ⟨_, rfl⟩
  obtain ⟨r, hr⟩ : ∃ r : Nat, r = row % n := ⟨_, rfl⟩
  have hrn : r < n := by rw [hr]; exact Nat.mod_lt row (by omega)
  have hn1 : 1 ≤ n := by omega
  have hn2 : n ≤ 256 := by omega
  have HN := Lib.hid (show 1 + (rows : Int) = (n : Int) by omega)
  have HR := Lib.hid (show (row : Int) % (n : Int) = (r : Int) by rw [hr, Int.natCast_emod])
  have HT := Lib.hid ht
  have HG := Lib.hid hg
  have HW := Lib.hid (new_walk n w hn1 hn2)
  have hN := HN.out
  clear ht hg hr hn
  go_enter Tryd.func3, Tryd.ntmps3
  go_wp2_with fail
  refine HW.out.mono ?_
  rintro e w1 ⟨m, bz, rfl, hm, l1, l2, e1⟩
  have HM := Lib.hid hm
  have E1 := Lib.hid e1
  have HL := Lib.hid (And.intro l1 l2)
  have HS := Lib.hid (shown_walk (HT.out.ext e1) (by have := e1.size; have := HG.out; omega))
  clear hm l1 l2 e1 HW
  go_wp2_with fail
  refine HS.out.mono ?_
  rintro e w2 ⟨rfl, e2⟩
  have HM2 := Lib.hid (HM.out.ext e2)
  have E2 := Lib.hid (E1.out.trans e2)
  have hR := HR.out
  obtain ⟨k, hk⟩ : ∃ k : Nat, k = r / 4 := ⟨_, rfl⟩
  have HQ := Lib.hid hk
  have hrk := region_walk r w2 (by omega)
  rw [← hk] at hrk
  have HK := Lib.hid hrk
  obtain ⟨q, hq⟩ : ∃ q : Nat, q = regs n := ⟨_, rfl⟩
  have HRG := regions_walk HM2.out
  rw [← hq] at HRG
  have HG2 := Lib.hid HRG
  have t1 : ¬ ((r : Int) < (k : Int) * 4) := by omega
  have t2 : ¬ (((k : Int) + 1) * 4 ≤ (r : Int)) := by omega
  have t3 : ¬ ((q : Int) ≤ (k : Int)) := by unfold regs at hq; omega
  have t4 : ¬ ((q : Int) * 4 < (n : Int)) := by unfold regs at hq; omega
  have t5 : ¬ ((n : Int) ≤ ((q : Int) - 1) * 4) := by unfold regs at hq; omega
  have hk64 : k < 64 := by omega
  have hq64 : q ≤ 64 := by unfold regs at hq; omega
  have HQR := Lib.hid hq
  clear e2 HS HM E1 HT hk hrk HRG hq
  go_wp2_with fail
  rw [hR]
  refine HK.out.mono ?_
  rintro e w3 ⟨rfl, rfl⟩
  clear hR
  go_wp2_with fail
  refine HG2.out.mono ?_
  rintro e w4 ⟨rfl, rfl⟩
  go_wp2_with fail
  refine HG2.out.mono ?_
  rintro e w5 ⟨rfl, rfl⟩
  go_wp2_with fail
  refine HG2.out.mono ?_
  rintro e w6 ⟨rfl, rfl⟩
  have HST := Lib.hid (start_walk HM2.out r hrn)
  go_wp2_with fail
  refine HST.out.mono ?_
  rintro e w7 ⟨rfl, hm7, k7⟩
  rw [← HQ.out, show (!Nat.testBit 0 k) = true by simp]
  have HM7 := Lib.hid (show MapV w7 m bz n (2 ^ k) (startBusy (List.replicate (regs n) 0) k) by
    have h := hm7
    rw [Nat.zero_or, ← HQ.out] at h
    exact h)
  have E7 := Lib.hid (E2.out.keeps k7 (fun i h => by have := HL.out; rcases h with h | h <;> omega))
  clear hm7 k7 HST HM2 E2 HK HG2
  have HSO := Lib.hid (start_out HM7.out n (Nat.le_refl _))
  go_wp2_with fail
  refine HSO.out.mono ?_
  rintro e w8 ⟨rfl, e8⟩
  have HM8 := Lib.hid (HM7.out.ext e8)
  have E8 := Lib.hid (E7.out.trans e8)
  clear HSO e8 HM7 E7
  go_wp2_with fail
  go_loopw [13] (fun j wr => RegRel w8 n j wr) (fun j _ => n - (intOf j).toNat)
  case atStart => exact ⟨0, Nat.zero_le _, rfl, Ext.refl _⟩
  case round =>
    obtain ⟨i, hi, rfl, he⟩ := hrel
    by_cases hlt : i < n
    · have HS := Lib.hid (stale_walk (HM8.out.ext he) i hlt)
      obtain ⟨p, hp⟩ : ∃ p : Nat, p = i / 4 := ⟨_, rfl⟩
      have HE := Lib.hid he
      rw [← hp, Nat.testBit_two_pow] at HS
      have HP := Lib.hid (fun (W : World) => region_walk i W (by omega))
      rw [← hp] at HP
      have b0 : ((p : Int) == (k : Int)) = decide (k = p) := by
        by_cases h : k = p
        · simp [h]
        · simp [h]; omega
      clear he hp HM8 E8
      generalize decide (k = p) = bb at HS b0
      have b1 : (bb != bb) = false := by simp
      go_wp2_with fail
      refine HS.out.mono ?_
      rintro e wa ⟨rfl, ea⟩
      have R := Lib.hid (RegRel.next hlt HE.out ea)
      go_wp2_with fail
      refine (HP.out wa).mono ?_
      rintro e wb ⟨rfl, rfl⟩
      clear HS HP HE ea
      go_wp2_with fail
      go_roundw
      case rel => exact R.out
      case measure => simp [intOf]; omega
    · obtain rfl : i = n := by omega
      have HM9 := HM8.out.ext he
      have E9 := Lib.hid (E8.out.trans he)
      have HRG := regions_walk HM9
      rw [← HQR.out] at HRG
      have HG3 := Lib.hid HRG
      have HMO := Lib.hid (mark_out HM9 (q : Int) (.inr (by rw [HQR.out]; exact Int.le_refl _)))
      have H9 := Lib.hid HM9
      clear he HM9 HRG HM8 E8
      go_wp2_with fail
      refine HG3.out.mono ?_
      rintro e wa ⟨rfl, rfl⟩
      clear HG3
      go_wp2_with fail
      refine HMO.out.mono ?_
      rintro e wb ⟨rfl, eb⟩
      have HCO := Lib.hid (clear_out (H9.out.ext eb) (-1) (.inl (by decide)))
      have E10 := Lib.hid (E9.out.trans eb)
      clear HMO eb H9 E9
      go_wp2_with fail
      refine HCO.out.mono ?_
      rintro e wc ⟨rfl, ec⟩
      have E11 := Lib.hid (E10.out.trans ec)
      have HN5 := Lib.hid (region_neg wc)
      clear HCO ec E10
      go_wp2_with fail
      refine HN5.out.mono ?_
      rintro e wd ⟨rfl, rfl⟩
      clear HN5
      go_wp2
      go_ret
      exact ⟨rfl, E11.out⟩

end Go.Proofs.YtabjknljcmcmfaaDoor
