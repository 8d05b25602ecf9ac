/- pack: what Decode gathers, in plain numbers. -/
import Derived.Test.YtdilchcnfnfdiaaGreatDoorTEncode
namespace Go.Proofs.YtdilchcnfnfdiaaGreatDoor

/-- A number's part below 2^(8k). -/
def lowN (x k : Nat) : Nat := x % 2 ^ (8 * k)
theorem low_or (x k : Nat) : lowN x k ||| (x / 2 ^ (8 * k) % 256 * 2 ^ (8 * k)) = lowN x (k + 1) := by
  unfold lowN
  have h1 : x % 2 ^ (8 * k) < 2 ^ (8 * k) := Nat.mod_lt _ (Nat.two_pow_pos _)
  rw [Nat.or_comm, Nat.mul_comm, ← Nat.two_pow_add_eq_or_of_lt h1, show 8 * (k + 1) = 8 * k + 8 by omega, Nat.pow_add, Nat.mod_mul, show (2 : Nat) ^ 8 = 256 from rfl, Nat.add_comm]
/-- What has been gathered behind t places. -/
def decL (xs ws : List Nat) (t : Nat) : List Nat := (List.range ws.length).map fun i => lowN (xs.getD i 0) (min (ws.getD i 0) (t - sumN ws i))
theorem decL_len (xs ws : List Nat) (t : Nat) : (decL xs ws t).length = ws.length := by simp [decL]
theorem decL_at (xs ws : List Nat) (t : Nat) {i : Nat} (hi : i < ws.length) : (decL xs ws t).getD i 0 = lowN (xs.getD i 0) (min (ws.getD i 0) (t - sumN ws i)) := by
  simp [decL, hi]
theorem decL_zero (xs ws : List Nat) : decL xs ws 0 = List.replicate ws.length 0 := by
  apply List.ext_getElem?
  intro i
  by_cases hi : i < ws.length
  · simp [decL, hi, lowN, Nat.mod_one]
  · simp [decL, hi]
theorem sumN_mono (ws : List Nat) : ∀ {a b : Nat}, a ≤ b → b ≤ ws.length → sumN ws a ≤ sumN ws b
  | a, 0, h, _ => by obtain rfl : a = 0 := by omega
                     exact Nat.le_refl _
  | a, b + 1, h, hb => by
    rcases Nat.lt_or_ge a (b + 1) with h' | h'
    · have := sumN_mono ws (a := a) (b := b) (by omega) (by omega)
      rw [sumN_succ (by omega)]
      omega
    · obtain rfl : a = b + 1 := by omega
      exact Nat.le_refl _
/-- The place of number t. -/
theorem plc_of (ws : List Nat) {i k : Nat} (hi : i < ws.length) (hk : k < ws.getD i 0) : plc ws (sumN ws i + k) = (i, 8 * k) := by
  obtain ⟨r, hr⟩ := placesTo_step ws hi hk
  unfold plc
  have hl : (placesTo ws i ++ placesAt i k).length = sumN ws i + k := by rw [List.length_append, placesTo_len ws i (by omega)]; simp [placesAt]
  rw [← hr, List.getD_eq_getElem?_getD, List.getElem?_append_left (by rw [List.length_append, hl]; simp), List.getElem?_append_right (by omega), hl]
  simp
theorem plc_ex (ws : List Nat) : ∀ n, n ≤ ws.length → ∀ t, t < sumN ws n → ∃ i k, i < n ∧ k < ws.getD i 0 ∧ t = sumN ws i + k
  | 0, _, t, h => by simp [sumN] at h
  | n + 1, hn, t, h => by
    rcases Nat.lt_or_ge t (sumN ws n) with h' | h'
    · obtain ⟨i, k, h1, h2, h3⟩ := plc_ex ws n (by omega) t h'
      exact ⟨i, k, by omega, h2, h3⟩
    · rw [sumN_succ (by omega)] at h
      exact ⟨n, t - sumN ws n, by omega, by omega, by omega⟩
/-- One place more. -/
theorem decL_step (xs ws : List Nat) {i k : Nat} (hi : i < ws.length) (hk : k < ws.getD i 0) :
    (decL xs ws (sumN ws i + k)).getD i 0 = lowN (xs.getD i 0) k ∧ (decL xs ws (sumN ws i + k)).set i (lowN (xs.getD i 0) (k + 1)) = decL xs ws (sumN ws i + k + 1) := by
  refine ⟨by rw [decL_at xs ws _ hi]; congr 1; omega, ?_⟩
  apply List.ext_getElem?
  intro j
  by_cases hj : j < ws.length
  · have h1 : (decL xs ws (sumN ws i + k + 1))[j]? = some (lowN (xs.getD j 0) (min (ws.getD j 0) (sumN ws i + k + 1 - sumN ws j))) := by simp [decL, hj]
    have h2 : (decL xs ws (sumN ws i + k))[j]? = some (lowN (xs.getD j 0) (min (ws.getD j 0) (sumN ws i + k - sumN ws j))) := by simp [decL, hj]
    by_cases e : j = i
    · subst e
      rw [List.getElem?_set_self (by rw [decL_len]; exact hj), h1]
      congr 2
      omega
    · rw [List.getElem?_set_ne (fun h => e h.symm), h1, h2]
      congr 2
      rcases Nat.lt_or_ge j i with h | h
      · have h3 := sumN_mono ws (a := j + 1) (b := i) (by omega) (by omega)
        rw [sumN_succ hj] at h3
        omega
      · have h3 := sumN_mono ws (a := i + 1) (b := j) (by omega) (by omega)
        rw [sumN_succ hi] at h3
        omega
  · rw [List.getElem?_eq_none (by rw [List.length_set, decL_len]; omega), List.getElem?_eq_none (by rw [decL_len]; omega)]
theorem decL_all (xs ws : List Nat) (hfit : ∀ i, i < ws.length → xs.getD i 0 < 2 ^ (8 * ws.getD i 0)) (hl : xs.length = ws.length) : decL xs ws (sumN ws ws.length) = xs := by
  apply List.ext_getElem?
  intro j
  by_cases hj : j < ws.length
  · have h1 : (decL xs ws (sumN ws ws.length))[j]? = some (lowN (xs.getD j 0) (min (ws.getD j 0) (sumN ws ws.length - sumN ws j))) := by simp [decL, hj]
    have h3 := sumN_mono ws (a := j + 1) (b := ws.length) (by omega) (by omega)
    rw [sumN_succ hj] at h3
    rw [h1, show min (ws.getD j 0) (sumN ws ws.length - sumN ws j) = ws.getD j 0 by omega]
    unfold lowN
    rw [Nat.mod_eq_of_lt (hfit j hj)]
    have hj' : j < xs.length := by omega
    simp [hj']
  · rw [List.getElem?_eq_none (by rw [decL_len]; omega), List.getElem?_eq_none (by omega)]

/-! ### Whatever the places are -/
/-- One byte more, at a place. -/
def gatS (bs ws l : List Nat) (k x : Nat) : List Nat := l.set (plc ws x).1 (l.getD (plc ws x).1 0 ||| bs.getD k 0 * 2 ^ (plc ws x).2)
def gat (bs ws pre : List Nat) : List Nat := (pre.foldl (fun (s : List Nat × Nat) x => (gatS bs ws s.1 s.2 x, s.2 + 1)) (List.replicate ws.length 0, 0)).1
theorem gat_cnt (bs ws : List Nat) : ∀ (pre : List Nat) (s : List Nat × Nat), (pre.foldl (fun (s : List Nat × Nat) x => (gatS bs ws s.1 s.2 x, s.2 + 1)) s).2 = s.2 + pre.length
  | [], s => rfl
  | x :: r, s => by
    rw [List.foldl_cons, gat_cnt bs ws r]
    simp
    omega
theorem gat_snoc (bs ws pre : List Nat) (x : Nat) : gat bs ws (pre ++ [x]) = gatS bs ws (gat bs ws pre) pre.length x := by
  have h := gat_cnt bs ws pre (List.replicate ws.length 0, 0)
  rw [Nat.zero_add] at h
  unfold gat
  rw [List.foldl_append, List.foldl_cons, List.foldl_nil, h]
theorem gat_ind {bs ws : List Nat} {p : List Nat → Prop} (h0 : p (List.replicate ws.length 0)) (h1 : ∀ l k x, p l → p (gatS bs ws l k x)) : ∀ pre, p (gat bs ws pre) := fun pre => by
  have : ∀ (pre : List Nat) (s : List Nat × Nat), p s.1 → p (pre.foldl (fun (s : List Nat × Nat) x => (gatS bs ws s.1 s.2 x, s.2 + 1)) s).1 := by
    intro pre
    induction pre with
    | nil => exact fun s h => h
    | cons x r ih => exact fun s h => ih _ (h1 _ _ _ h)
  exact this pre _ h0
theorem gat_len (bs ws pre : List Nat) : (gat bs ws pre).length = ws.length := gat_ind (p := fun l => l.length = ws.length) (by simp) (fun l k x h => by unfold gatS; rw [List.length_set]; exact h) pre
theorem gat_lt {bs ws : List Nat} (hb : ∀ b ∈ bs, b < 256) (hw : ∀ x, (plc ws x).2 ≤ 56) (pre : List Nat) : ∀ y ∈ gat bs ws pre, y < 2 ^ 64 := by
  refine gat_ind (p := fun l => ∀ y ∈ l, y < 2 ^ 64) (fun y hy => by rw [List.eq_of_mem_replicate hy]; decide) (fun l k x h y hy => ?_) pre
  rcases List.mem_or_eq_of_mem_set hy with h' | rfl
  · exact h y h'
  · refine Nat.or_lt_two_pow ?_ ?_
    · rw [List.getD_eq_getElem?_getD]
      cases e : l[(plc ws x).1]? with
      | none => exact Nat.two_pow_pos _
      | some z => exact h z (List.mem_of_getElem? e)
    · have h1 : bs.getD k 0 < 256 := by
        rw [List.getD_eq_getElem?_getD]
        cases e : bs[k]? with
        | none => show 0 < 256; decide
        | some z => exact hb z (List.mem_of_getElem? e)
      have h2 := hw x
      have h3 : 2 ^ (plc ws x).2 ≤ 2 ^ 56 := Nat.pow_le_pow_right (by decide) h2
      calc bs.getD k 0 * 2 ^ (plc ws x).2 ≤ 255 * 2 ^ 56 := Nat.mul_le_mul (by omega) h3
        _ < 2 ^ 64 := by decide
theorem gat_range (xs ws : List Nat) : ∀ t, t ≤ sumN ws ws.length → gat (encL xs ws) ws (List.range t) = decL xs ws t
  | 0, _ => (decL_zero xs ws).symm
  | t + 1, h => by
    rw [List.range_succ, gat_snoc, gat_range xs ws t (by omega), List.length_range]
    obtain ⟨i, k, h1, h2, rfl⟩ := plc_ex ws ws.length (Nat.le_refl _) t (by omega)
    obtain ⟨d1, d2⟩ := decL_step xs ws h1 h2
    have hp := plc_of ws h1 h2
    unfold gatS
    rw [hp]
    show (decL xs ws (sumN ws i + k)).set i ((decL xs ws (sumN ws i + k)).getD i 0 ||| (encL xs ws).getD (sumN ws i + k) 0 * 2 ^ (8 * k)) = _
    have hb : (encL xs ws).getD (sumN ws i + k) 0 = xs.getD i 0 / 2 ^ (8 * k) % 256 := by
      have hl : sumN ws i + k < (placesTo ws ws.length).length := by rw [placesTo_len ws _ (Nat.le_refl _)]; omega
      have hpp : (placesTo ws ws.length).getD (sumN ws i + k) (0, 0) = (i, 8 * k) := hp
      unfold encL
      rw [List.getD_eq_getElem?_getD, List.getElem?_map, List.getElem?_eq_getElem hl]
      rw [List.getD_eq_getElem?_getD, List.getElem?_eq_getElem hl] at hpp
      simp only [Option.getD_some, Option.map_some] at hpp ⊢
      rw [hpp]
      rfl
    rw [d1, hb, low_or, d2]

end Go.Proofs.YtdilchcnfnfdiaaGreatDoor
