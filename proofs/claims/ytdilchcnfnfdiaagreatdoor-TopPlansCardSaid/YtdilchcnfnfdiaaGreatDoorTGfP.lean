/- gf in plain numbers: powers, logarithms, products; a product by a power of two goes bit by bit. -/
namespace Go.Proofs.YtdilchcnfnfdiaaGreatDoor

/-- Twice, in the field. -/
def stp (x : Nat) : Nat := if 255 < 2 * x then (2 * x) ^^^ 285 else 2 * x
def expL : Nat → Nat
  | 0 => 1
  | n + 1 => stp (expL n)
theorem stp_in : ∀ x, x < 256 → 1 ≤ x → 1 ≤ stp x ∧ stp x < 256 := by decide +kernel
theorem expL_in : ∀ i, 1 ≤ expL i ∧ expL i < 256
  | 0 => ⟨Nat.le_refl 1, by decide⟩
  | n + 1 => stp_in _ (expL_in n).2 (expL_in n).1
/-- Logarithms. -/
def logA : List Nat := [0, 0, 1, 25, 2, 50, 26, 198, 3, 223, 51, 238, 27, 104, 199, 75, 4, 100, 224, 14, 52, 141, 239, 129, 28, 193, 105, 248, 200, 8, 76, 113, 5, 138, 101, 47, 225, 36, 15, 33, 53, 147, 142, 218, 240, 18, 130, 69, 29, 181, 194, 125, 106, 39, 249, 185, 201, 154, 9, 120, 77, 228, 114, 166, 6, 191, 139, 98, 102, 221, 48, 253, 226, 152, 37, 179, 16, 145, 34, 136, 54, 208, 148, 206, 143, 150, 219, 189, 241, 210, 19, 92, 131, 56, 70, 64, 30, 66, 182, 163, 195, 72, 126, 110, 107, 58, 40, 84, 250, 133, 186, 61, 202, 94, 155, 159, 10, 21, 121, 43, 78, 212, 229, 172, 115, 243, 167, 87, 7, 112, 192, 247, 140, 128, 99, 13, 103, 74, 222, 237, 49, 197, 254, 24, 227, 165, 153, 119, 38, 184, 180, 124, 17, 68, 146, 217, 35, 32, 137, 46, 55, 63, 209, 91, 149, 188, 207, 205, 144, 135, 151, 178, 220, 252, 190, 97, 242, 86, 211, 171, 20, 42, 93, 158, 132, 60, 57, 83, 71, 109, 65, 162, 31, 45, 67, 216, 183, 123, 164, 118, 196, 23, 73, 236, 127, 12, 111, 246, 108, 161, 59, 82, 41, 157, 85, 170, 251, 96, 134, 177, 187, 204, 62, 90, 203, 89, 95, 176, 156, 169, 160, 81, 11, 245, 22, 235, 122, 117, 44, 215, 79, 174, 213, 233, 230, 231, 173, 232, 116, 214, 244, 234, 168, 80, 88, 175]
def logN (x : Nat) : Nat := logA.getD x 0
theorem logN_expL : ∀ i, i < 255 → logN (expL i) = i := by decide +kernel
theorem expL_logN : ∀ x, x < 256 → x ≠ 0 → expL (logN x) = x := by decide +kernel
theorem logN_lt : ∀ x, x < 256 → logN x < 255 := by decide +kernel
theorem expL_inj {i j : Nat} (hi : i < 255) (hj : j < 255) (h : expL i = expL j) : i = j := by rw [← logN_expL i hi, ← logN_expL j hj, h]
/-- Where a power stands in the table of 510. -/
def expT (j : Nat) : Nat := expL (if j < 255 then j else j - 255)
def mulT (a b : Nat) : Nat := if a = 0 ∨ b = 0 then 0 else expT (logN a + logN b)
theorem mulT_lt (a b : Nat) : mulT a b < 256 := by
  unfold mulT
  split
  · decide
  · exact (expL_in _).2
/-- The same, bit by bit. -/
def bitT (a c k : Nat) : Nat := if a.testBit k then mulT (2 ^ k) c else 0
def mulX (a c : Nat) : Nat := bitT a c 0 ^^^ bitT a c 1 ^^^ bitT a c 2 ^^^ bitT a c 3 ^^^ bitT a c 4 ^^^ bitT a c 5 ^^^ bitT a c 6 ^^^ bitT a c 7
theorem mulT_bits : ∀ k, k < 8 → ∀ a, a < 256 → mulT a (expL k) = mulX a (expL k) := by decide +kernel
theorem bitT_xor (a b c k : Nat) : bitT (a ^^^ b) c k = bitT a c k ^^^ bitT b c k := by
  unfold bitT
  rw [Nat.testBit_xor]
  cases a.testBit k <;> cases b.testBit k <;> simp
theorem mulX_xor (a b c : Nat) : mulX (a ^^^ b) c = mulX a c ^^^ mulX b c := by
  unfold mulX
  simp only [bitT_xor]
  ac_rfl
theorem mulT_xor {k : Nat} (hk : k < 8) {a b : Nat} (ha : a < 256) (hb : b < 256) : mulT (a ^^^ b) (expL k) = mulT a (expL k) ^^^ mulT b (expL k) := by
  have hab : a ^^^ b < 256 := Nat.xor_lt_two_pow (n := 8) ha hb
  rw [mulT_bits k hk _ hab, mulT_bits k hk _ ha, mulT_bits k hk _ hb, mulX_xor]

/-! ### Texts -/
def xorL : List Nat → List Nat → List Nat
  | [], b => b
  | a, [] => a
  | x :: a, y :: b => (x ^^^ y) :: xorL a b
theorem xorL_nil (a : List Nat) : xorL a [] = a := by cases a <;> rfl
theorem xorL_comm : ∀ a b, xorL a b = xorL b a
  | [], b => by rw [xorL_nil]; cases b <;> rfl
  | x :: a, [] => rfl
  | x :: a, y :: b => by rw [xorL, xorL, xorL_comm a b, Nat.xor_comm]
theorem xorL_len : ∀ a b, (xorL a b).length = max a.length b.length
  | [], b => by simp [xorL]
  | x :: a, [] => by simp [xorL]
  | x :: a, y :: b => by rw [xorL, List.length_cons, xorL_len a b, List.length_cons, List.length_cons]; omega
theorem xorL_at : ∀ a b j, (xorL a b).getD j 0 = a.getD j 0 ^^^ b.getD j 0
  | [], b, j => by simp [xorL]
  | x :: a, [], j => by simp [xorL]
  | x :: a, y :: b, 0 => by simp [xorL]
  | x :: a, y :: b, j + 1 => by
    have h := xorL_at a b j
    rw [xorL, List.getD_cons_succ, List.getD_cons_succ, List.getD_cons_succ]
    exact h
theorem xorL_lt {a b : List Nat} (ha : ∀ x ∈ a, x < 256) (hb : ∀ x ∈ b, x < 256) : ∀ x ∈ xorL a b, x < 256 := by
  induction a generalizing b with
  | nil => exact hb
  | cons y a ih =>
    cases b with
    | nil => exact ha
    | cons z b =>
      intro x hx
      rcases List.mem_cons.1 hx with rfl | hx
      · exact Nat.xor_lt_two_pow (n := 8) (ha _ List.mem_cons_self) (hb _ List.mem_cons_self)
      · exact ih (fun x h => ha x (List.mem_cons_of_mem _ h)) (fun x h => hb x (List.mem_cons_of_mem _ h)) x hx
def timesL (a : List Nat) (c : Nat) : List Nat := a.map (mulT · c)
theorem timesL_len (a : List Nat) (c : Nat) : (timesL a c).length = a.length := by simp [timesL]
theorem timesL_lt (a : List Nat) (c : Nat) : ∀ x ∈ timesL a c, x < 256 := by
  intro x hx
  obtain ⟨y, _, rfl⟩ := List.mem_map.1 hx
  exact mulT_lt y c
theorem mulT_zero (c : Nat) : mulT 0 c = 0 := by simp [mulT]
theorem timesL_at (a : List Nat) (c j : Nat) : (timesL a c).getD j 0 = mulT (a.getD j 0) c := by
  unfold timesL
  rw [List.getD_eq_getElem?_getD, List.getElem?_map, List.getD_eq_getElem?_getD]
  cases a[j]? with
  | none => exact (mulT_zero c).symm
  | some x => rfl

end Go.Proofs.YtdilchcnfnfdiaaGreatDoor
