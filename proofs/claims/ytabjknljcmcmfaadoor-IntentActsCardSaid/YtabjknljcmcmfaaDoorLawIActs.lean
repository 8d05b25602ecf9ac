/- IntentActs: the walk. -/
import Derived.Test.YtabjknljcmcmfaaDoorIntSame
namespace Go.Proofs.YtabjknljcmcmfaaDoor
open Go.RowKit

/-- The acts of an argument: three cells an act. -/
def ActArg (w : World) (A : Option Addr) (len : Nat) (K N : Nat → Int) (S : Nat → ByteArray) : Prop :=
  ∀ i, i < len → ∃ x, A = some x ∧ w.cell? (x.add (i * 3)) = some (num (K i)) ∧ w.cell? (x.add (i * 3 + 1)) = some (num (N i)) ∧ w.cell? (x.add (i * 3 + 2)) = some (.string (S i))
def BothRel (W0 : World) (m bz r g1 g2 rows len : Nat) (i : Value) (wr : World) : Prop := ∃ (j x : Nat) (busy : List Int), j ≤ len ∧ i = num j ∧ Both W0 m bz r g1 g2 rows x busy j wr

theorem add_two (a : Addr) (i j : Nat) (hj : j ≠ 0) : a.add (i + j) = ⟨(a.add i).block, (a.add i).off + j, none⟩ := by
  unfold Addr.add
  by_cases hi : i = 0
  · subst hi; simp [hj]
  · simp [hi, hj, Nat.add_assoc]
set_option maxRecDepth 100000 in
theorem iacts_long (n : Int) (A : Option Addr) (len cap : Nat) (w : World) (ht : Tab 0 w) (hg : 0 < w.heap.size) (hl : 200 < len) :
    Calls Tryd.prog 6 #[num n, .slice A len cap] w fun e w' => e = .returned (.bool true) ∧ Below w.heap.size w w' := by
  have S := Lib.hid (shown_walk ht hg)
  clear ht hg
  go_enter Tryd.func6, Tryd.ntmps6
  go_wp2_with fail
  refine S.out.mono ?_
  rintro e w' ⟨rfl, b⟩
  have B := Lib.hid b
  clear b S
  go_wp2_with fail
  go_ret
  exact ⟨rfl, B.out⟩
set_option maxRecDepth 100000 in
theorem iacts_nil (n : Int) (A : Option Addr) (len cap : Nat) (w : World) (ht : Tab 0 w) (hg : 0 < w.heap.size) (hl : len ≤ 200) (hn : n < 1 ∨ 256 < n) :
    Calls Tryd.prog 6 #[num n, .slice A len cap] w fun e w' => e = .returned (.bool true) ∧ Below w.heap.size w w' := by
  have S := Lib.hid (shown_walk ht hg)
  have N1 := Lib.hid (fun W : World => new_nil n W hn)
  have N2 := Lib.hid (fun W : World => refNew_nil n W hn)
  clear ht hg hn
  go_enter Tryd.func6, Tryd.ntmps6
  go_wp2_with fail
  refine S.out.mono ?_
  rintro e w' ⟨rfl, b⟩
  have B := Lib.hid b
  clear b S
  go_wp2_with fail
  refine (N1.out w').mono ?_
  rintro e w1 ⟨rfl, rfl⟩
  go_wp2_with fail
  refine (N2.out w1).mono ?_
  rintro e w2 ⟨rfl, rfl⟩
  go_wp2_with fail
  go_ret
  exact ⟨rfl, B.out⟩

set_option maxRecDepth 100000 in
set_option maxHeartbeats 4000000 in
theorem iacts_walk (n : Nat) (A : Option Addr) (len cap : Nat) (K N : Nat → Int) (S : Nat → ByteArray) {w : World} (ht : Tab 0 w) (hg : 0 < w.heap.size) (hl : len ≤ 200) (hn1 : 1 ≤ n) (hn2 : n ≤ 256) (hz : ActArg w A len K N S) :
    Calls Tryd.prog 6 #[num n, .slice A len cap] w fun e w' => e = .returned (.bool true) ∧ Below w.heap.size w w' := by
  have SH := Lib.hid (shown_walk ht hg)
  have HT := Lib.hid ht
  have HG := Lib.hid hg
  have HZ := Lib.hid hz
  have HW := Lib.hid (fun W : World => new_walk n W hn1 hn2)
  have HW2 := Lib.hid (fun W : World => refNew_walk n W hn1 hn2)
  clear ht hg hz
  go_enter Tryd.func6, Tryd.ntmps6
  go_wp2_with fail
  refine SH.out.mono ?_
  rintro e w1 ⟨rfl, e1⟩
  have E1 := Lib.hid e1
  clear SH e1
  go_wp2_with fail
  refine (HW.out w1).mono ?_
  rintro e w2 ⟨m, bz, rfl, hm, l1, l2, e2⟩
  have HM := Lib.hid hm
  have HL := Lib.hid (And.intro l1 l2)
  have E2 := Lib.hid e2
  clear hm l1 l2 e2 HW
  go_wp2_with fail
  refine (HW2.out w2).mono ?_
  rintro e w3 ⟨g1, g2, rfl, hr, l1, l2, e3⟩
  have hlt := HM.out.lt
  have s1 := E1.out.size
  have s2 := E2.out.size
  have hL := HL.out
  have D := Lib.hid (show Away w m bz w2.heap.size g1 g2 from ⟨by omega, by omega, by omega, by omega, by omega, by omega, by omega, by omega, by omega, by omega, by omega⟩)
  have B0 := Lib.hid (show Both w m bz w2.heap.size g1 g2 n 0 (List.replicate (regs n) 0) 0 w3 from ⟨HM.out.ext e3, hr, Nat.two_pow_pos _, fun i => by
    have : (List.replicate (regs n) (0 : Int)).getD i 0 = 0 := by
      rw [List.getD_eq_getElem?_getD, List.getElem?_replicate]
      split <;> rfl
    rw [this]
    exact ⟨by omega, by omega⟩, (E1.out.trans E2.out).trans e3⟩)
  clear hr l1 l2 e3 hlt s1 s2 hL HM HL E1 E2 HW2
  generalize w2.heap.size = r at D B0 ⊢
  go_wp2_with fail
  go_loopw [7] (fun i wr => BothRel w m bz r g1 g2 n len i wr) (fun i _ => len - (intOf i).toNat)
  case atStart => exact ⟨0, _, _, Nat.zero_le _, rfl, B0.out⟩
  case round =>
    clear B0
    obtain ⟨j, x, busy, hj, rfl, hb⟩ := hrel
    by_cases hlt : j < len
    · obtain ⟨a, rfl, hc0, hc1, hc2⟩ := HZ.out j hlt
      have d0 := hb.ext.cell hc0
      have d1 := hb.ext.cell hc1
      have d2 := hb.ext.cell hc2
      rw [add_two a _ 1 (by decide)] at d1
      rw [add_two a _ 2 (by decide)] at d2
      clear HZ hc0 hc1 hc2
      generalize K j = kd at d0
      generalize N j = nn at d1
      generalize S j = ss at d2
      have HB := Lib.hid hb
      clear hb
      by_cases hs : 100 < ss.size
      · have hs' : (100 : Int) < (ss.size : Int) := by omega
        have SH := Lib.hid (shown_walk (HB.out.tab HT.out) (by have := HB.out.a.lt; omega))
        go_wp2_with fail
        refine SH.out.mono ?_
        rintro e w4 ⟨rfl, e4⟩
        have E4 := Lib.hid (HB.out.ext.trans e4)
        clear SH e4
        go_wp2
        go_ret
        exact ⟨rfl, E4.out⟩
      · have hs' : ¬ (100 : Int) < (ss.size : Int) := by omega
        have HD := Lib.hid (does_walk HB.out D.out kd nn ss (by omega))
        go_wp2_with fail
        refine HD.out.mono ?_
        rintro e w4 ⟨rfl, x4, busy4, hb4⟩
        have HS := Lib.hid (same2_walk hb4 HT.out)
        clear HD HB d0 d1 d2 hb4
        go_wp2_with fail
        refine HS.out.mono ?_
        rintro e w5 ⟨rfl, hb5⟩
        have H5 := Lib.hid hb5
        clear HS hb5
        go_wp2_with fail
        go_roundw
        case rel => exact ⟨j + 1, x4, busy4, by omega, by go_num, H5.out⟩
        case measure => simp [intOf]; omega
    · have HS := Lib.hid (same2_walk hb HT.out)
      have HR1 := Lib.hid (fun W : World => region_walk n W (by omega))
      have HR2 := Lib.hid (fun W : World => refRegion_walk n W (by omega))
      obtain ⟨q, hq⟩ : ∃ q, n / 4 = q := ⟨_, rfl⟩
      rw [hq] at HR1 HR2
      clear hb HZ hq
      go_wp2_with fail
      refine HS.out.mono ?_
      rintro e w5 ⟨rfl, hb5⟩
      have H5 := Lib.hid hb5.ext
      clear HS hb5
      go_wp2_with fail
      refine (HR1.out w5).mono ?_
      rintro e w6 ⟨rfl, rfl⟩
      go_wp2_with fail
      refine (HR2.out w6).mono ?_
      rintro e w7 ⟨rfl, rfl⟩
      go_wp2
      go_ret
      exact ⟨by simp, H5.out⟩

end Go.Proofs.YtabjknljcmcmfaaDoor
