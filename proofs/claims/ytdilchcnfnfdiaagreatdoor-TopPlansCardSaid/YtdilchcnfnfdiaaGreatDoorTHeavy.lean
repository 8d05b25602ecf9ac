/- TopPlans' small functions: heavy, Blank. -/
import Derived.Test.YtdilchcnfnfdiaaGreatDoorTRefill
namespace Go.Proofs.YtdilchcnfnfdiaaGreatDoor
open Go.RowKit Go.Shelf

/-- More than TopPlans looks at. -/
def heavyT (l : List ByteArray) : Prop := 40 < l.length ∨ ∃ j, j < l.length ∧ 100 < (l.getD j ByteArray.empty).size
def HeavyRel (w : World) (l : List ByteArray) (i : Value) (wr : World) : Prop := wr = w ∧ ∃ k : Nat, k ≤ l.length ∧ i = num k ∧ ∀ j, j < k → (l.getD j ByteArray.empty).size ≤ 100
set_option maxRecDepth 100000 in
theorem heavyT_walk (w : World) (v : Value) (l : List ByteArray) (hv : RdT w v l) :
    Calls Tryz.prog 24 #[v] w fun e w' => ∃ b : Bool, e = .returned (.bool b) ∧ (b = true ↔ heavyT l) ∧ w' = w := by
  obtain ⟨A, cap, rfl, hcap, hc⟩ := hv
  have HC := Lib.hid hc
  obtain ⟨n, hn⟩ : ∃ n, l.length = n := ⟨_, rfl⟩
  have HN := Lib.hid hn
  rw [hn] at hcap ⊢
  clear hc hn
  by_cases h40 : n ≤ 40
  · have h40i : (n : Int) ≤ 40 := by omega
    go_enter Tryz.func24, Tryz.ntmps24
    go_wp2_with fail
    go_loopw [3] (fun i wr => HeavyRel w l i wr) (fun i _ => n - (intOf i).toNat)
    case atStart => exact ⟨rfl, 0, Nat.zero_le _, rfl, fun j hj => absurd hj (Nat.not_lt_zero j)⟩
    case round =>
      obtain ⟨rfl, k, hk, rfl, hall⟩ := hrel
      rw [HN.out] at hk
      by_cases hlt : k < n
      · obtain ⟨x, rfl, hx⟩ := HC.out k (by rw [HN.out]; exact hlt)
        have hki : (k : Int) < n := by omega
        obtain ⟨y, hy⟩ : ∃ y, l.getD k ByteArray.empty = y := ⟨_, rfl⟩
        rw [hy] at hx
        by_cases hbig : 100 < y.size
        · have hbi : (100 : Int) < y.size := by omega
          have R : heavyT l := .inr ⟨k, by rw [HN.out]; exact hlt, by rw [hy]; exact hbig⟩
          have HR := Lib.hid R
          clear R hall hy
          go_wp2_with fail
          go_ret
          exact ⟨true, rfl, ⟨fun _ => HR.out, fun _ => rfl⟩, rfl⟩
        · have hbi : (y.size : Int) ≤ 100 := by omega
          have R : ∀ j, j < k + 1 → (l.getD j ByteArray.empty).size ≤ 100 := fun j hj => by
            by_cases hjk : j = k
            · subst hjk; rw [hy]; omega
            · exact hall j (by omega)
          have HR := Lib.hid R
          clear R hall hy
          go_wp2_with fail
          go_roundw
          case rel => exact ⟨rfl, k + 1, by rw [HN.out]; omega, by go_num, HR.out⟩
          case measure => simp [intOf]; omega
      · obtain rfl : k = n := by omega
        have HR := Lib.hid hall
        clear hall
        go_wp2_with fail
        go_ret
        refine ⟨false, rfl, ⟨fun h => Bool.noConfusion h, fun h => ?_⟩, rfl⟩
        rcases h with h | ⟨j, hj, h⟩
        · rw [HN.out] at h; omega
        · rw [HN.out] at hj
          have := HR.out j hj
          omega
  · have h40i : (40 : Int) < n := by omega
    have HR := Lib.hid (show heavyT l from .inl (by rw [HN.out]; omega))
    go_enter Tryz.func24, Tryz.ntmps24
    go_wp2_with fail
    go_ret
    exact ⟨true, rfl, ⟨fun _ => HR.out, fun _ => rfl⟩, rfl⟩

/-- So many zero bytes. -/
def blankT (k : Nat) : ByteArray := ⟨(List.replicate k (0 : UInt8)).toArray⟩
def BlankRel (w : World) (s i : Value) (wr : World) : Prop := wr = w ∧ ∃ k : Nat, k ≤ 64 ∧ i = num k ∧ s = strv (blankT k)
theorem blankT_succ (k : Nat) : blankT k ++ (⟨#[0]⟩ : ByteArray) = blankT (k + 1) := by
  apply ByteArray.ext
  rw [ByteArray.data_append]
  apply Array.ext'
  simp [blankT, List.replicate_succ']
theorem blankT_size (k : Nat) : (blankT k).size = k := by simp [blankT, ByteArray.size]
set_option maxRecDepth 100000 in
theorem blankT_walk (w : World) :
    Calls Tryz.prog 55 #[] w fun e w' => e = .returned (strv (blankT 64)) ∧ w' = w := by
  go_enter Tryz.func55, Tryz.ntmps55
  go_wp2_with fail
  go_loopw [1, 2] (fun s i wr => BlankRel w s i wr) (fun _ i _ => 64 - (intOf i).toNat)
  case atStart => exact ⟨rfl, 0, by decide, rfl, rfl⟩
  case round =>
    obtain ⟨rfl, k, hk, rfl, rfl⟩ := hrel
    have hs := Lib.hid (blankT_succ k)
    by_cases hlt : k < 64
    · have hki : (k : Int) < 64 := by omega
      obtain ⟨B, hB⟩ : ∃ B, blankT k = B := ⟨_, rfl⟩
      have hsz : B.size ≤ 64 := by rw [← hB, blankT_size]; omega
      have hszi : (B.size : Int) ≤ 64 := by omega
      have hsum : B.size + 1 < 9223372036854775808 := by omega
      rw [hB] at hs ⊢
      clear hB
      go_wp2_with fail
      go_roundw
      case rel => exact ⟨rfl, k + 1, by omega, by go_num, by rw [← hs.out]⟩
      case measure => simp [intOf]; omega
    · obtain rfl : k = 64 := by omega
      go_wp2_with fail
      go_ret
      exact ⟨rfl, rfl⟩
end Go.Proofs.YtdilchcnfnfdiaaGreatDoor
