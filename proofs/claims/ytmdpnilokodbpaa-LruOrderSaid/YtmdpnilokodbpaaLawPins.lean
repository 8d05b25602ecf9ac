/- LruPins: the walk: what is pinned so often has to be unpinned as often. -/
import Derived.Test.YtmdpnilokodbpaaLruShown
namespace Go.Proofs.Ytmdpnilokodbpaa
open Go.RowKit

theorem St.below_keep {w0 w w' : World} {L room : Nat} {st : List (Int × Int)} (s : St w0 w L room st) (h : Below w.heap.size w w') : St w0 w' L room st := s.keep (Keeps.of_below h)

section
variable (k p : Int)
theorem one_has : hasK k [(k, p)] = true := by simp [hasK]
theorem one_pins : pinsK k [(k, p)] = p := by simp [pinsK]
theorem one_set (v : Int) : setK k v [(k, p)] = [(k, v)] := by simp [setK]
theorem one_rm : rmK k [(k, p)] = [] := by simp [rmK]
theorem one_pinSt : pinSt k [(k, p)] = [(k, wrap64 (p + 1))] := by rw [pinSt, one_has, if_pos rfl, one_pins, one_set]
theorem one_unpinSt (h : p ≠ 0) : unpinSt k [(k, p)] = [(k, wrap64 (p - 1))] := by rw [unpinSt, one_has, one_pins, if_pos (by simpa using h), one_set]
theorem one_unpinE (h : p ≠ 0) : unpinE k [(k, p)] = 0 := by simp [unpinE, one_has, one_pins, h]
theorem one_dropE (h : 0 < p) : dropE k [(k, p)] = 5 := by
  have h' : ¬ p ≤ 0 := by omega
  simp [dropE, one_has, one_pins, h']
theorem one_dropSt (h : 0 < p) : dropSt k [(k, p)] = [(k, p)] := by
  have h' : ¬ p ≤ 0 := by omega
  simp [dropSt, one_has, one_pins, h']
end
theorem wrap_small {n : Int} (h1 : -1000000 ≤ n) (h2 : n ≤ 1000000) : wrap64 n = n := by unfold wrap64; omega

section
variable {w0 w : World} {L : Nat} {k p : Int}
theorem one_pin (s : St w0 w L 2 [(k, p)]) (h1 : 0 ≤ p) (h2 : p ≤ 1000) : Calls Try.prog 12 #[ptr L, num k] w fun e w' => e = .returned (num 0) ∧ St w0 w' L 2 [(k, p + 1)] := by
  have := s_pin s k
  rw [one_pinSt, one_has, if_pos rfl, wrap_small (by omega) (by omega)] at this
  exact this
theorem one_unpin (s : St w0 w L 2 [(k, p)]) (h1 : 1 ≤ p) (h2 : p ≤ 1000) : Calls Try.prog 13 #[ptr L, num k] w fun e w' => e = .returned (num 0) ∧ St w0 w' L 2 [(k, p - 1)] := by
  have := s_unpin s k
  rw [one_unpinSt k p (by omega), one_unpinE k p (by omega), wrap_small (by omega) (by omega)] at this
  exact this
theorem one_unpin0 (s : St w0 w L 2 [(k, 0)]) : Calls Try.prog 13 #[ptr L, num k] w fun e w' => e = .returned (num 5) ∧ St w0 w' L 2 [(k, 0)] := by
  have := s_unpin s k
  rw [show unpinSt k [(k, 0)] = [(k, 0)] by simp [unpinSt, one_pins], show unpinE k [(k, 0)] = 5 by simp [unpinE, one_has, one_pins]] at this
  exact this
theorem one_pinned (s : St w0 w L 2 [(k, p)]) : Calls Try.prog 15 #[ptr L, num k] w fun e w' => e = .returned (num p) ∧ St w0 w' L 2 [(k, p)] := by
  have := s_pinned s k
  rw [one_pins] at this
  exact this
theorem one_drop (s : St w0 w L 2 [(k, p)]) (h : 0 < p) : Calls Try.prog 16 #[ptr L, num k] w fun e w' => e = .returned (num 5) ∧ St w0 w' L 2 [(k, p)] := by
  have := s_drop s k
  rw [one_dropE k p h, one_dropSt k p h] at this
  exact this
theorem one_drop0 (s : St w0 w L 2 [(k, 0)]) : Calls Try.prog 16 #[ptr L, num k] w fun e w' => e = .returned (num 0) ∧ St w0 w' L 2 [] := by
  have := s_drop s k
  rw [show dropE k [(k, 0)] = 0 by simp [dropE, one_has, one_pins], show dropSt k [(k, 0)] = [] by simp [dropSt, one_has, one_pins, one_rm]] at this
  exact this
theorem no_pin (s : St w0 w L 2 []) : Calls Try.prog 12 #[ptr L, num k] w fun e w' => e = .returned (num 3) ∧ St w0 w' L 2 [] := s_pin s k
theorem no_unpin (s : St w0 w L 2 []) : Calls Try.prog 13 #[ptr L, num k] w fun e w' => e = .returned (num 3) ∧ St w0 w' L 2 [] := s_unpin s k
theorem no_drop (s : St w0 w L 2 []) : Calls Try.prog 16 #[ptr L, num k] w fun e w' => e = .returned (num 3) ∧ St w0 w' L 2 [] := s_drop s k
theorem no_pinned (s : St w0 w L 2 []) : Calls Try.prog 15 #[ptr L, num k] w fun e w' => e = .returned (num 0) ∧ St w0 w' L 2 [] := s_pinned s k
theorem no_put (s : St w0 w L 2 []) : Calls Try.prog 9 #[ptr L, num k] w fun e w' => e = .returned (.tuple #[num 0, .bool false, num 0]) ∧ St w0 w' L 2 [(k, 0)] := s_put s k
end

set_option maxRecDepth 100000 in
set_option maxHeartbeats 800000 in
theorem pins_walk (k : Int) (n : Nat) (w : World) (hn : n ≤ 255) :
    Calls Try.prog 6 #[num k, .int .u8 n] w fun e w' => e = .returned (.bool true) ∧ Below w.heap.size w w' := by
  have H1 := Lib.hid (s_new 2 w (by omega) (by omega))
  go_enter Try.func6, Try.ntmps6
  go_wp2_with fail
  refine H1.out.mono ?_
  rintro e w1 ⟨L, rfl, s1⟩
  clear H1
  go_wp2_with fail
  refine (shown_any w1).mono ?_
  rintro e w2 ⟨rfl, b2⟩
  have s2 := s1.below_keep b2
  clear s1 b2
  go_wp2_with fail
  refine (no_pin s2).mono ?_
  rintro e w3 ⟨rfl, s3⟩
  clear s2
  go_wp2_with fail
  refine (no_unpin s3).mono ?_
  rintro e w4 ⟨rfl, s4⟩
  clear s3
  go_wp2_with fail
  refine (no_drop s4).mono ?_
  rintro e w5 ⟨rfl, s5⟩
  clear s4
  go_wp2_with fail
  refine (no_pinned s5).mono ?_
  rintro e w6 ⟨rfl, s6⟩
  clear s5
  go_wp2_with fail
  refine (no_put s6).mono ?_
  rintro e w7 ⟨rfl, s7⟩
  clear s6
  go_wp2_with fail
  go_loopw [6] (fun i wr => ∃ j : Nat, j ≤ n ∧ i = num j ∧ St w wr L 2 [(k, (j : Int))]) (fun i _ => n - (intOf i).toNat)
  case atStart => exact ⟨0, Nat.zero_le _, rfl, s7⟩
  case round =>
    obtain ⟨j, hj, rfl, sr⟩ := hrel
    clear s7
    by_cases hlt : j < n
    · go_wp2_with fail
      refine (one_pin sr (by omega) (by omega)).mono ?_
      rintro e w8 ⟨rfl, s8⟩
      clear sr
      go_wp2_with fail
      refine (one_pinned s8).mono ?_
      rintro e w9 ⟨rfl, s9⟩
      clear s8
      go_wp2_with fail
      refine (one_drop s9 (by omega)).mono ?_
      rintro e w10 ⟨rfl, s10⟩
      clear s9
      go_wp2_with fail
      go_roundw
      case rel => exact ⟨j + 1, by omega, by go_num, s10⟩
      case measure => simp [intOf]; omega
    · obtain rfl : j = n := by omega
      go_wp2_with fail
      go_loopw [7] (fun i wr => ∃ m : Nat, m ≤ j ∧ i = num m ∧ St w wr L 2 [(k, (j : Int) - m)]) (fun i _ => j - (intOf i).toNat)
      case atStart => exact ⟨0, Nat.zero_le _, rfl, by simpa using sr⟩
      case round =>
        obtain ⟨m, hm, rfl, sm⟩ := hrel
        clear sr
        by_cases hlt : m < j
        · go_wp2_with fail
          refine (one_unpin sm (by omega) (by omega)).mono ?_
          rintro e w8 ⟨rfl, s8⟩
          clear sm
          go_wp2_with fail
          refine (one_pinned s8).mono ?_
          rintro e w9 ⟨rfl, s9⟩
          clear s8
          go_wp2_with fail
          go_roundw
          case rel => exact ⟨m + 1, by omega, by go_num, by rw [show (j : Int) - ((m + 1 : Nat) : Int) = (j : Int) - m - 1 by omega]; exact s9⟩
          case measure => simp [intOf]; omega
        · obtain rfl : m = j := by omega
          rw [Int.sub_self] at sm
          go_wp2_with fail
          refine (one_unpin0 sm).mono ?_
          rintro e w8 ⟨rfl, s8⟩
          clear sm
          go_wp2_with fail
          refine (one_drop0 s8).mono ?_
          rintro e w9 ⟨rfl, s9⟩
          clear s8
          go_wp2_with fail
          refine (s_keys s9 (by decide)).mono ?_
          rintro e w10 ⟨v, rfl, ho, s10⟩
          obtain ⟨A, cap, rfl, _, _⟩ := ho.shape
          have S10 := Lib.hid s10.below
          clear s9 s10 ho
          go_wp2_with fail
          go_ret
          exact ⟨rfl, S10.out⟩

end Go.Proofs.Ytmdpnilokodbpaa
