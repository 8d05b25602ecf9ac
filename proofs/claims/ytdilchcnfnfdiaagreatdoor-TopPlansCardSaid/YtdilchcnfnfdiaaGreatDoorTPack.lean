/- pack: Size, Fits, places. -/
import Derived.Test.YtdilchcnfnfdiaaGreatDoorTSeal
import Derived.RangeFuncNested
import Derived.RangeFuncBound
import Derived.RangeFuncCalls
import Derived.Shelf.RegionOpen
namespace Go.Proofs.YtdilchcnfnfdiaaGreatDoor
open Go.RowKit Go.Shelf

attribute [local go_sem] Oper.semAt_some

abbrev natv (n : Nat) : Value := num (n : Int)
abbrev RdN (w : World) (v : Value) (ws : List Nat) : Prop := Rd natv 0 w v ws
def sumN (ws : List Nat) (k : Nat) : Nat := (ws.take k).sum
theorem sumN_succ {ws : List Nat} {k : Nat} (h : k < ws.length) : sumN ws (k + 1) = sumN ws k + ws.getD k 0 := by
  unfold sumN
  rw [List.take_add_one, List.getElem?_eq_getElem h, List.sum_append]
  simp [h]
theorem sumN_le {ws : List Nat} (h : ∀ x ∈ ws, x ≤ 8) : ∀ k, sumN ws k ≤ 8 * k
  | 0 => by simp [sumN]
  | k + 1 => by
    by_cases hk : k < ws.length
    · rw [sumN_succ hk]
      have h1 := sumN_le h k
      have h2 := h (ws.getD k 0) (by rw [List.getD_eq_getElem?_getD, List.getElem?_eq_getElem hk]; exact List.getElem_mem hk)
      omega
    · have e : ws.take (k + 1) = ws.take k := by rw [List.take_of_length_le (by omega), List.take_of_length_le (by omega)]
      have h1 := sumN_le h k
      unfold sumN at h1 ⊢
      rw [e]; omega

def SizeRel (w : World) (ws : List Nat) (n i : Value) (wr : World) : Prop := ∃ k : Nat, k ≤ ws.length ∧ i = num k ∧ n = natv (sumN ws k) ∧ wr = w
set_option maxRecDepth 100000 in
theorem size_walk (w : World) (v : Value) (ws : List Nat) (hv : RdN w v ws) (h1 : ∀ x ∈ ws, 1 ≤ x ∧ x ≤ 8) (h2 : ws.length ≤ 64) :
    Calls Tryz.prog 32 #[v] w fun e w' => e = .returned (.tuple #[natv (sumN ws ws.length), num 0]) ∧ w' = w := by
  obtain ⟨A, cap, rfl, hcap, hc⟩ := hv
  have hl2 : (ws.length : Int) ≤ 64 := by omega
  have HC := Lib.hid hc
  have HB := Lib.hid h1
  clear hc h1 hcap
  go_enter Tryz.func32, Tryz.ntmps32
  go_wp2_with fail
  go_loopw [4, 9] (fun n i wr => SizeRel w ws n i wr) (fun _ i _ => ws.length - (intOf i).toNat)
  case atStart => exact ⟨0, Nat.zero_le _, rfl, rfl, rfl⟩
  case round =>
    obtain ⟨k, hk, rfl, rfl, rfl⟩ := hrel
    by_cases hlt : k < ws.length
    · obtain ⟨x, rfl, hcx⟩ := HC.out k hlt
      have hb := HB.out (ws.getD k 0) (by rw [List.getD_eq_getElem?_getD, List.getElem?_eq_getElem hlt]; exact List.getElem_mem hlt)
      have hs := sumN_succ hlt
      have hle := sumN_le (fun y hy => (HB.out y hy).2) k
      generalize ws.getD k 0 = y at hcx hb hs
      obtain ⟨z, hz⟩ : ∃ z, sumN ws k = z := ⟨_, rfl⟩
      rw [hz] at hs hle ⊢
      have q1 : (1 : Int) ≤ y := by omega
      have q2 : (y : Int) ≤ 8 := by omega
      have q3 : (z : Int) ≤ 512 := by omega
      have HS := Lib.hid hs
      clear hb hs hle hz
      go_wp2_with fail
      go_roundw
      case rel => exact ⟨k + 1, by omega, by go_num, by rw [HS.out]; go_num, rfl⟩
      case measure => simp [intOf]; omega
    · obtain rfl : k = ws.length := by omega
      obtain ⟨z, hz⟩ : ∃ z, sumN ws ws.length = z := ⟨_, rfl⟩
      have HZ := Lib.hid hz
      rw [hz]
      clear hz
      go_wp2_with fail
      exact bodyPost_ret (v := .tuple #[natv z, num 0]) (by simp [results, Tryz.results32, go_sem]) rfl ⟨by rw [HZ.out], rfl⟩

theorem fits_walk (x k : Nat) (w : World) (hx : x < 2 ^ (8 * k)) (h1 : 1 ≤ k) (h2 : k ≤ 8) : Calls Tryz.prog 33 #[.int .u64 x, num k] w fun e w' => e = .returned (.bool true) ∧ w' = w := by
  have q1 : (1 : Int) ≤ k := by omega
  have q2 : (k : Int) ≤ 8 := by omega
  by_cases h8 : k = 8
  · subst h8
    go_enter Tryz.func33, Tryz.ntmps33
    go_wp2_with fail
    go_ret
    exact ⟨rfl, rfl⟩
  · have hne : ¬ (k : Int) = 8 := by omega
    have hlt : (k : Int) < 8 := by omega
    have hpos : (0 : Int) < k := by omega
    have hd : (x : Int) / 2 ^ (8 * k) = 0 := by
      rw [show ((x : Int) / 2 ^ (8 * k)) = ((x / 2 ^ (8 * k) : Nat) : Int) by simp, Nat.div_eq_of_lt hx]
      rfl
    go_enter Tryz.func33, Tryz.ntmps33
    go_wp2_with fail
    go_ret
    exact ⟨rfl, rfl⟩

end Go.Proofs.YtdilchcnfnfdiaaGreatDoor
