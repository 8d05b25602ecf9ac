/- PlanFull: the walk: where all data columns are written nothing is read; where nothing is lost the way that reads fewer is gone. -/
import Derived.Test.YtllomgkdplpecaaPlanShown
namespace Go.Proofs.Ytllomgkdplpecaa
open Go.RowKit

/-- The first k of n. -/
def upTo (k n : Nat) : List Bool := (List.range n).map fun i => decide (i < k)
theorem upTo_succ (k n : Nat) : upTo k (n + 1) = upTo k n ++ [decide (n < k)] := by simp [upTo, List.range_succ]
theorem upTo_len (k n : Nat) : (upTo k n).length = n := by simp [upTo]
def fullWant (n k : Nat) : Nat := if k = 0 then 0 else if k = n then 1 else if n - k < k + 2 then 3 else 2
def fullReads (n k : Nat) : Nat := if k = 0 then 0 else min (k + 2) (n - k)
theorem full_law : ∀ n, n < 9 → ∀ k, k < 9 → 2 ≤ n → k ≤ n → (planOf n (upTo k n) (lsOf n [])).1 = fullWant n k ∧ (planOf n (upTo k n) (lsOf n [])).2.1.length = fullReads n k := by decide +kernel

def FullRel (w : World) (n k : Nat) (v j : Value) (wr : World) : Prop := ∃ i : Nat, i ≤ n ∧ j = num i ∧ OwnB wr w.heap.size v (upTo k i) ∧ Ext w wr

set_option maxRecDepth 100000 in
set_option maxHeartbeats 800000 in
theorem full_walk' (many written : Nat) (w : World) (h1 : many ≤ 255) (h2 : written ≤ 255) :
    Calls Try.prog 4 #[.int .u8 many, .int .u8 written] w fun e w' => e = .returned (.bool true) ∧ Below w.heap.size w w' := by
  obtain ⟨n, hn⟩ : ∃ n : Nat, n = 2 + many % 7 := ⟨_, rfl⟩
  obtain ⟨k, hk⟩ : ∃ k : Nat, k = written % (n + 1) := ⟨_, rfl⟩
  have hn2 : 2 ≤ n := by omega
  have hn8 : n ≤ 8 := by omega
  have hkn : k ≤ n := by have := Nat.mod_lt written (show n + 1 > 0 by omega); omega
  have HN := Lib.hid (show 2 + (many : Int) % 7 = (n : Int) by omega)
  have HK := Lib.hid (show (written : Int) % ((n : Int) + 1) = (k : Int) by rw [hk, Int.natCast_emod]; rfl)
  have LAW := Lib.hid (full_law n (by omega) k (by omega) hn2 hkn)
  clear hk hn
  go_enter Try.func4, Try.ntmps4
  have hN := HN.out
  have hK := HK.out
  go_wp2_with fail
  rw [hK]
  have O := Lib.hid (OwnB.new w w.heap.size (Nat.le_refl _))
  have E := Lib.hid ((Ext.refl w).alloc (.cells #[] 4))
  generalize w.alloc (.cells #[] 4) = w1 at O E ⊢
  clear hN hK
  go_loopw [7, 8] (fun v j wr => FullRel w n k v j wr) (fun _ j _ => n - (intOf j).toNat)
  case atStart => exact ⟨0, Nat.zero_le _, rfl, O.out, E.out⟩
  case round =>
    obtain ⟨i, hi, rfl, hown, hext⟩ := hrel
    by_cases hlt : i < n
    · have ST := Lib.hid (fun (g cap : Nat) (w2 : World) (h1 : OwnB w2 w.heap.size (.slice (some ⟨g, 0, none⟩) ((upTo k i).length + 1) cap) (upTo k i ++ [decide (i < k)])) (h2 : Keeps (fun q => u7.ownBlock = some q) (wr.alloc (.cells #[.bool (decide (i < k))] 4)) w2) =>
        show FullRel w n k (.slice (some ⟨g, 0, none⟩) ((upTo k i).length + 1) cap) (num ((i : Int) + 1)) w2 from
          ⟨i + 1, by omega, by go_num, by rw [upTo_succ]; exact h1, (hext.alloc _).keeps h2 (fun q hq => (hown.lt hq).1)⟩)
      have hlen : (upTo k i).length ≤ 1048576 := by rw [upTo_len]; omega
      have hB : w.heap.size ≤ (wr.alloc (.cells #[.bool (decide (i < k))] 4)).heap.size := (hext.alloc _).size
      have HNW := Lib.hid (alloc_new wr (.cells #[.bool (decide (i < k))] 4))
      have HA := Lib.hid (hown.ext ((Ext.refl wr).alloc (.cells #[.bool (decide (i < k))] 4)))
      clear hown hext LAW O E
      go_wp2_with (at_builtin; refine wpList_append_bool rfl _ _ rfl w.heap.size u7 (upTo k i) rfl HA.out wr.heap.size (decide (i < k)) rfl HNW.out hlen hB ?_; intro g cap w2 h1 h2 h3; have R := Lib.hid (ST.out g cap w2 h1 h2); clear h1 h2 h3 ST HA HNW hlen hB)
      go_roundw
      case rel => exact R.out
      case measure => simp [intOf]; omega
    · obtain rfl : i = n := by omega
      have HC := Lib.hid (choose_walk hn2 hn8 hown.rd (upTo_len k i) (Rd.nil num 0 wr) (good_nil i) (by decide))
      obtain ⟨A, cap, rfl, -, -⟩ := hown.rd
      have EX := Lib.hid hext
      clear hown hext
      go_wp2_with fail
      refine HC.out.mono ?_
      rintro e w2 ⟨rv, pv, rfl, hrv, hpv, e2⟩
      obtain ⟨A1, cap1, rfl, hc1, -⟩ := hrv.shape
      obtain ⟨A2, cap2, rfl, hc2, -⟩ := hpv.shape
      have EX2 := Lib.hid (EX.out.trans e2)
      have E3 := Lib.hid (fun o => EX2.out.alloc o)
      have l1 := LAW.out.1
      have l2 := LAW.out.2
      have SH := Lib.hid (fun W => shown_walk W)
      generalize (planOf i (upTo k i) (lsOf i [])).1 = way at l1 ⊢
      generalize (planOf i (upTo k i) (lsOf i [])).2.1.length = M at l2 ⊢
      generalize (planOf i (upTo k i) (lsOf i [])).2.2.length = M2 at ⊢
      subst l1
      clear HC hrv hpv e2 hc1 hc2 EX HN HK LAW O E
      by_cases hk0 : k = 0
      · subst hk0
        have hM : M = 0 := l2
        subst hM
        have hz : ((0 : Nat) == i) = false := by simp; omega
        clear l2
        simp only [fullWant, if_true]
        go_wp2_with fail
        refine (SH.out _).mono ?_
        rintro e w3 ⟨rfl, e3⟩
        have E4 := Lib.hid ((E3.out _).trans e3)
        clear SH E3 e3
        go_wp2
        go_ret
        exact ⟨rfl, E4.out⟩
      · have k0 : ((k : Int) == 0) = false := by simpa using hk0
        by_cases hki : k = i
        · subst hki
          have hM : M = 0 := by simp [fullReads, hk0] at l2; omega
          subst hM
          have hmin : min ((k : Int) + 2) 0 = 0 := by omega
          rw [show fullWant k k = 1 by simp [fullWant, hk0]]
          clear l2 hk0
          go_wp2_with fail
          refine (SH.out _).mono ?_
          rintro e w3 ⟨rfl, e3⟩
          have E4 := Lib.hid ((E3.out _).trans e3)
          clear SH E3 e3
          go_wp2
          go_ret
          exact ⟨rfl, E4.out⟩
        · have k1 : ((k : Int) == (i : Int)) = false := by simp; omega
          by_cases hb : i - k < k + 2
          · have hM : M = i - k := by simp [fullReads, hk0] at l2; omega
            have hb' : (i : Int) - (k : Int) < (k : Int) + 2 := by omega
            have hmin : min ((k : Int) + 2) ((i : Int) - (k : Int)) = (M : Int) := by omega
            rw [show fullWant i k = 3 by simp [fullWant, hk0, hki, hb]]
            clear l2 hk0 hM hki
            go_wp2_with fail
            refine (SH.out _).mono ?_
            rintro e w3 ⟨rfl, e3⟩
            have E4 := Lib.hid ((E3.out _).trans e3)
            clear SH E3 e3
            go_wp2
            go_ret
            exact ⟨rfl, E4.out⟩
          · have hM : M = k + 2 := by simp [fullReads, hk0] at l2; omega
            have hb' : ¬ ((i : Int) - (k : Int) < (k : Int) + 2) := by omega
            have hmin : min ((k : Int) + 2) ((i : Int) - (k : Int)) = (M : Int) := by omega
            rw [show fullWant i k = 2 by simp [fullWant, hk0, hki, hb]]
            clear l2 hk0 hM hki
            go_wp2_with fail
            refine (SH.out _).mono ?_
            rintro e w3 ⟨rfl, e3⟩
            have E4 := Lib.hid ((E3.out _).trans e3)
            clear SH E3 e3
            go_wp2
            go_ret
            exact ⟨rfl, E4.out⟩

end Go.Proofs.Ytllomgkdplpecaa
