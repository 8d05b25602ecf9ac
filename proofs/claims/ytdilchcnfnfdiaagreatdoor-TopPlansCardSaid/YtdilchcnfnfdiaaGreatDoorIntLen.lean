/- Layer 10: plain facts about bytes of a number. -/
import Derived.Test.YtdilchcnfnfdiaaGreatDoorBits
namespace Go.Proofs.YtdilchcnfnfdiaaGreatDoor

/-! ### Eight bytes of a number -/
/-- Byte j of x. -/
def byteAt (x j : Nat) : Nat := x / 2 ^ (8 * j) % 256
theorem byteAt_lt (x j : Nat) : byteAt x j < 256 := Nat.mod_lt _ (by decide)
theorem byteAt_bit (x j i : Nat) (hi : i < 8) : (byteAt x j).testBit i = x.testBit (8 * j + i) := by
  unfold byteAt
  rw [show (256 : Nat) = 2 ^ 8 from rfl, Nat.testBit_mod_two_pow, Nat.testBit_div_two_pow]
  simp [hi, Nat.add_comm]
/-- The number that the first k bytes are. -/
def leNum (b : Nat → Nat) : Nat → Nat
  | 0 => 0
  | k + 1 => leNum b k ||| (b k * 2 ^ (8 * k))
theorem leNum_bit (b : Nat → Nat) (hb : ∀ j, b j < 256) : ∀ k i, (leNum b k).testBit i = (decide (i < 8 * k) && (b (i / 8)).testBit (i % 8))
  | 0, i => by simp [leNum]
  | k + 1, i => by
    rw [leNum, Nat.testBit_or, leNum_bit b hb k i, Nat.testBit_mul_two_pow]
    rcases Nat.lt_or_ge i (8 * k) with h | h
    · simp [h, show ¬ 8 * k ≤ i by omega, show i < 8 * (k + 1) by omega]
    · rcases Nat.lt_or_ge i (8 * (k + 1)) with h2 | h2
      · have e1 : i / 8 = k := by omega
        have e2 : i % 8 = i - 8 * k := by omega
        simp [h, show ¬ i < 8 * k by omega, h2, e1, e2]
      · have hz : (b k).testBit (i - 8 * k) = false := by
          refine Nat.testBit_lt_two_pow (Nat.lt_of_lt_of_le (hb k) ?_)
          exact Nat.pow_le_pow_right (n := 2) (show 0 < 2 by decide) (show 8 ≤ i - 8 * k by omega)
        simp [h, show ¬ i < 8 * k by omega, show ¬ i < 8 * (k + 1) by omega, hz]
theorem leNum_lt (b : Nat → Nat) (hb : ∀ j, b j < 256) (k : Nat) : leNum b k < 2 ^ (8 * k) := by
  refine Nat.lt_pow_two_of_testBit _ fun i hi => ?_
  rw [leNum_bit b hb]
  simp [show ¬ i < 8 * k by omega]
theorem leNum_byteAt (x : Nat) (hx : x < two64) : leNum (byteAt x) 8 = x := by
  apply Nat.eq_of_testBit_eq
  intro i
  rw [leNum_bit _ (byteAt_lt x)]
  rcases Nat.lt_or_ge i 64 with h | h
  · rw [byteAt_bit x _ _ (Nat.mod_lt _ (by decide)), show 8 * (i / 8) + i % 8 = i by omega]
    simp [h]
  · rw [Nat.testBit_lt_two_pow (Nat.lt_of_lt_of_le hx (Nat.pow_le_pow_right (n := 2) (i := 64) (show 0 < 2 by decide) h))]
    simp [show ¬ i < 64 by omega]
/-- The string that Bytes tells. -/
def str8 (x : Nat) : ByteArray := ⟨((List.range 8).map fun j => UInt8.ofNat (byteAt x j)).toArray⟩
theorem str8_size (x : Nat) : (str8 x).size = 8 := by simp [str8, ByteArray.size]
/-- The byte j of a string, as a number. -/
def byteOf (s : ByteArray) (j : Nat) : Nat := (s.data[j]?.getD 0).toNat
theorem byteOf_lt (s : ByteArray) (j : Nat) : byteOf s j < 256 := UInt8.toNat_lt _
theorem byteOf_str8 (x j : Nat) (hj : j < 8) : byteOf (str8 x) j = byteAt x j := by
  have := byteAt_lt x j
  simp [byteOf, str8, hj]
  omega

end Go.Proofs.YtdilchcnfnfdiaaGreatDoor
