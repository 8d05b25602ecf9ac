/- The sum in plain numbers: another text has another sum; a sealed sector opens, and none that is one byte off does. -/
import Derived.Test.YtdilchcnfnfdiaaGreatDoorTOpen
namespace Go.Proofs.YtdilchcnfnfdiaaGreatDoor

theorem crcT_top : ∀ i, i < 16 → ∀ j, j < 16 → crcT i / 268435456 = crcT j / 268435456 → i = j := by decide
theorem xor_cancel {a b c : Nat} (h : a ^^^ c = b ^^^ c) : a = b := by
  have := congrArg (· ^^^ c) h
  simpa [Nat.xor_assoc] using this
theorem xor_cancel_l {a b c : Nat} (h : c ^^^ a = c ^^^ b) : a = b := xor_cancel (c := c) (by rw [Nat.xor_comm a c, Nat.xor_comm b c]; exact h)
theorem crcHalf_top {x : Nat} (hx : x < 4294967296) : crcHalf x / 268435456 = crcT (x % 16) / 268435456 := by
  unfold crcHalf
  rw [show (268435456 : Nat) = 2 ^ 28 from rfl, ← Nat.shiftRight_eq_div_pow, Nat.shiftRight_xor_distrib, Nat.shiftRight_eq_div_pow, Nat.shiftRight_eq_div_pow, Nat.div_eq_of_lt (by show x / 16 < 268435456; omega), Nat.zero_xor]
theorem crcHalf_inj {x y : Nat} (hx : x < 4294967296) (hy : y < 4294967296) (h : crcHalf x = crcHalf y) : x = y := by
  have h1 := crcHalf_top hx
  have h2 := crcHalf_top hy
  rw [h] at h1
  have h3 : x % 16 = y % 16 := crcT_top _ (Nat.mod_lt _ (by decide)) _ (Nat.mod_lt _ (by decide)) (h1.symm.trans h2)
  unfold crcHalf at h
  rw [h3] at h
  have h4 := xor_cancel h
  omega
theorem crcByte_inj {x y b c : Nat} (hx : x < 4294967296) (hy : y < 4294967296) (hb : b < 256) (hc : c < 256) (h : crcByte x b = crcByte y c) : x ^^^ b = y ^^^ c := by
  have h1 : x ^^^ b < 4294967296 := xor_byte_lt hx hb
  have h2 : y ^^^ c < 4294967296 := xor_byte_lt hy hc
  unfold crcByte at h
  exact crcHalf_inj h1 h2 (crcHalf_inj (crcHalf_lt h1) (crcHalf_lt h2) h)
theorem crcRun_inj : ∀ (bs : List Nat) {x y : Nat}, x < 4294967296 → y < 4294967296 → (∀ b ∈ bs, b < 256) → crcRun x bs = crcRun y bs → x = y
  | [], _, _, _, _, _, h => h
  | b :: r, x, y, hx, hy, hb, h => by
    have hb0 := hb b List.mem_cons_self
    have h1 := crcRun_inj r (x := crcByte x b) (y := crcByte y b) (crcByte_lt hx hb0) (crcByte_lt hy hb0) (fun c hc => hb c (List.mem_cons_of_mem _ hc)) h
    exact xor_cancel (crcByte_inj hx hy hb0 hb0 h1)
theorem crcRun_append (x : Nat) (a b : List Nat) : crcRun x (a ++ b) = crcRun (crcRun x a) b := by simp [crcRun]
/-- One byte of a text is another one. -/
theorem crcRun_ne {x b c : Nat} {l r : List Nat} (hx : x < 4294967296) (hl : ∀ y ∈ l, y < 256) (hr : ∀ y ∈ r, y < 256) (hb : b < 256) (hc : c < 256) (h : crcRun x (l ++ b :: r) = crcRun x (l ++ c :: r)) : b = c := by
  rw [crcRun_append, crcRun_append] at h
  have hz : crcRun x l < 4294967296 := crcRun_lt l x hx hl
  have h1 := crcRun_inj r (x := crcByte (crcRun x l) b) (y := crcByte (crcRun x l) c) (crcByte_lt hz hb) (crcByte_lt hz hc) hr h
  exact xor_cancel_l (crcByte_inj hz hz hb hc h1)
theorem crcSum_inj {a b : List Nat} (ha : ∀ y ∈ a, y < 256) (hb : ∀ y ∈ b, y < 256) (h : crcSum a = crcSum b) : crcRun 4294967295 a = crcRun 4294967295 b := by
  have h1 : crcRun 4294967295 a < 4294967296 := crcRun_lt a _ (by decide) ha
  have h2 : crcRun 4294967295 b < 4294967296 := crcRun_lt b _ (by decide) hb
  unfold crcSum at h
  omega
theorem bytes4_inj {n m : Nat} (hn : n < 4294967296) (hm : m < 4294967296) (h : bytes4 n = bytes4 m) : n = m := by
  unfold bytes4 at h
  simp only [List.cons.injEq, and_true] at h
  omega

theorem open_seal {bs : List Nat} (h : bs.length ≤ 60) : openB (sealL bs) = true := by
  unfold openB sealL
  have hl := padL_len h
  rw [List.take_append_of_le_length (by omega), List.take_of_length_le (by omega), List.drop_append_of_le_length (by omega), List.drop_of_length_le (by omega), List.nil_append]
  simp
theorem take_seal {bs : List Nat} (h : bs.length ≤ 60) : (sealL bs).take 60 = padL bs := by
  unfold sealL
  have hl := padL_len h
  rw [List.take_append_of_le_length (by omega), List.take_of_length_le (by omega)]
/-- A list, parted at a place. -/
theorem split_at {l : List Nat} {k b : Nat} (h : l[k]? = some b) : l = l.take k ++ b :: l.drop (k + 1) ∧ ∀ c, l.set k c = l.take k ++ c :: l.drop (k + 1) := by
  obtain ⟨hk, e⟩ := List.getElem?_eq_some_iff.1 h
  refine ⟨?_, fun c => List.set_eq_take_append_cons_drop.trans (if_pos hk)⟩
  rw [← e, List.getElem_cons_drop, List.take_append_drop]
/-- A sealed sector of which one byte is another one does not open. -/
theorem open_off {l : List Nat} (hl : l.length = 64) (hlt : ∀ y ∈ l, y < 256) (ho : openB l = true) {k b c : Nat} (hk : l[k]? = some b) (hc : c < 256) (hne : c ≠ b) : openB (l.set k c) = false := by
  have hb : b < 256 := hlt b (List.mem_of_getElem? hk)
  have hk64 : k < 64 := by have := (List.getElem?_eq_some_iff.1 hk).1; omega
  unfold openB at ho ⊢
  rw [decide_eq_true_eq] at ho
  rw [decide_eq_false_iff_not]
  intro h
  by_cases h60 : k < 60
  · rw [List.take_set, List.drop_set, if_pos h60, ← ho] at h
    have hkt : (l.take 60)[k]? = some b := by rw [List.getElem?_take, if_pos h60]; exact hk
    obtain ⟨s1, s2⟩ := split_at hkt
    have hlt' : ∀ y ∈ l.take 60, y < 256 := fun y hy => hlt y (List.mem_of_mem_take hy)
    have hlt2 : ∀ y ∈ (l.take 60).set k c, y < 256 := fun y hy => by
      rcases List.mem_or_eq_of_mem_set hy with h | rfl
      · exact hlt' y h
      · exact hc
    have h1 := bytes4_inj (crcSum_lt _) (crcSum_lt _) h
    have h2 := crcSum_inj hlt2 hlt' h1
    rw [s2 c] at h2
    have h3 := h2.trans (congrArg (crcRun 4294967295) s1)
    exact hne (crcRun_ne (by decide) (fun y hy => hlt' y (List.mem_of_mem_take hy)) (fun y hy => hlt' y (List.mem_of_mem_drop hy)) hc hb h3)
  · rw [List.take_set, List.set_eq_of_length_le (by rw [List.length_take]; omega), List.drop_set, if_neg h60, ho] at h
    have h1 : (l.drop 60)[k - 60]? = some b := by rw [List.getElem?_drop, show 60 + (k - 60) = k by omega]; exact hk
    rw [h, List.getElem?_set_self (by rw [List.length_drop]; omega)] at h1
    injection h1 with h1
    exact hne h1

end Go.Proofs.YtdilchcnfnfdiaaGreatDoor
