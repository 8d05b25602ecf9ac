/- Plain facts about the set bits of a number of 64 bits. No program in sight. -/
import Derived.Lib.TrailingZeros
import Derived.Laws.BitsAllLaws
namespace Go.Proofs.YtdilchcnfnfdiaaGreatDoor

abbrev two64 : Nat := 18446744073709551616
/-- The set bits of x, rising. -/
def bitsOf (x : Nat) : List Nat := (List.range 64).filter fun i => x.testBit i
theorem bitsOf_zero : bitsOf 0 = [] := by simp [bitsOf]
theorem filter_first {p q : Nat → Bool} {c : Nat} (h0 : ∀ j, j < c → p j = false) (hc : p c = true) (hq : ∀ j, q j = (p j && decide (j ≠ c))) : ∀ n, c < n → (List.range n).filter p = c :: (List.range n).filter q
  | 0, h => by omega
  | n + 1, h => by
    rw [List.range_succ, List.filter_append, List.filter_append]
    by_cases hcn : c = n
    · subst hcn
      have e1 : (List.range c).filter p = [] := by
        rw [List.filter_eq_nil_iff]
        intro j hj
        rw [h0 j (List.mem_range.1 hj)]
        simp
      have e2 : (List.range c).filter q = [] := by
        rw [List.filter_eq_nil_iff]
        intro j hj
        rw [hq, h0 j (List.mem_range.1 hj)]
        simp
      rw [e1, e2]
      simp [hc, hq]
    · rw [filter_first h0 hc hq n (by omega)]
      have e : q n = p n := by rw [hq]; simp; omega
      simp [List.filter_cons, e]
theorem lowest_split {x : Nat} (h0 : x ≠ 0) (h : x < two64) : ∃ m, x = 2 ^ Go.Lib.ctz 64 x * (2 * m + 1) ∧ Go.Lib.ctz 64 x < 64 := by
  obtain ⟨m, hm, hk⟩ := Go.Lib.ctzFrom_spec 64 x (by omega) h
  have e : Go.Lib.ctz 64 x = Go.Lib.ctzFrom 64 x := by simp [Go.Lib.ctz, h0]
  rw [e]
  exact ⟨m, hm, hk⟩
/-- The lowest bit, and what is left without it. -/
theorem bitsOf_next {x : Nat} (h0 : x ≠ 0) (h : x < two64) : bitsOf x = Go.Lib.ctz 64 x :: bitsOf (x &&& (x - 1)) ∧ Go.Lib.ctz 64 x < 64 := by
  obtain ⟨m, hm, hk⟩ := lowest_split h0 h
  refine ⟨?_, hk⟩
  generalize Go.Lib.ctz 64 x = c at hm hk ⊢
  have hp : 0 < 2 ^ c := Nat.two_pow_pos c
  have hx1 : x - 1 = 2 ^ c * (2 * m) + (2 ^ c - 1) := by rw [hm, Nat.mul_add]; omega
  have bx : ∀ j, x.testBit j = if j < c then false else (2 * m + 1).testBit (j - c) := fun j => by
    have := Nat.testBit_two_pow_mul_add (2 * m + 1) (b := 0) hp j
    rw [Nat.add_zero, ← hm] at this
    rw [this]
    simp
  have by1 : ∀ j, (x - 1).testBit j = if j < c then (2 ^ c - 1).testBit j else (2 * m).testBit (j - c) := fun j => by
    rw [hx1]
    exact Nat.testBit_two_pow_mul_add (2 * m) (b := 2 ^ c - 1) (by omega) j
  refine filter_first (fun j hj => by rw [bx, if_pos hj]) (by rw [bx, if_neg (by omega)]; simp) (fun j => ?_) 64 hk
  rw [Nat.testBit_and, bx, by1]
  by_cases hj : j < c
  · rw [if_pos hj]; simp
  · rw [if_neg hj, if_neg hj]
    by_cases hjc : j = c
    · subst hjc; simp
    · obtain ⟨d, rfl⟩ : ∃ d, j = c + (d + 1) := ⟨j - c - 1, by omega⟩
      have e : c + (d + 1) - c = d + 1 := by omega
      rw [e, Nat.testBit_succ, Nat.testBit_succ]
      have e1 : (2 * m + 1) / 2 = m := by omega
      have e2 : 2 * m / 2 = m := by omega
      rw [e1, e2]
      simp
theorem next_lt (x : Nat) (h : x < two64) : (x &&& (x - 1)) < two64 := Nat.lt_of_le_of_lt Nat.and_le_left h
/-- It grows less. -/
theorem next_less {x : Nat} (h0 : x ≠ 0) : (x &&& (x - 1)) < x := Nat.lt_of_le_of_lt Nat.and_le_right (by omega)

theorem mem_bitsOf {x i : Nat} (hi : i < 64) : i ∈ bitsOf x ↔ x.testBit i = true := by simp [bitsOf, hi]
theorem bitsOf_one (i : Nat) (hi : i < 64) : bitsOf (2 ^ i) = [i] := by
  have h2 : 2 ^ i < two64 := Nat.pow_lt_pow_right (by decide) hi
  obtain ⟨h, -⟩ := bitsOf_next (Nat.pos_iff_ne_zero.1 (Nat.two_pow_pos i)) h2
  have hm : i ∈ bitsOf (2 ^ i) := (mem_bitsOf hi).2 (by simp)
  have e : 2 ^ i &&& (2 ^ i - 1) = 0 := by
    apply Nat.eq_of_testBit_eq
    intro j
    rw [Nat.testBit_and, Nat.testBit_two_pow, Nat.testBit_two_pow_sub_one]
    simp
    omega
  rw [h, e, bitsOf_zero] at hm
  rw [h, e, bitsOf_zero]
  simp at hm
  rw [← hm]

end Go.Proofs.YtdilchcnfnfdiaaGreatDoor
