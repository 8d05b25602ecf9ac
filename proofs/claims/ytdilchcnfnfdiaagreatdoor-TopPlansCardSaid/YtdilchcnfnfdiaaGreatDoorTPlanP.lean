/- TopPlans' plain law: P and Q of a row's new data, moved by what one column changes; what the chosen plan reads. -/
import Derived.Test.YtdilchcnfnfdiaaGreatDoorTSquare
import Derived.Test.YtdilchcnfnfdiaaGreatDoorTPChoose
namespace Go.Proofs.YtdilchcnfnfdiaaGreatDoor
open Go.RowKit

/-- A text's byte at a place, zero behind it. -/
def ptT (s : ByteArray) (j : Nat) : Nat := (secOf s).getD j 0
theorem pt_lt (s : ByteArray) (j : Nat) : ptT s j < 256 := by
  unfold ptT
  rw [List.getD_eq_getElem?_getD]
  by_cases h : j < (secOf s).length
  · rw [List.getElem?_eq_getElem h]
    exact secOf_lt s _ (List.getElem_mem h)
  · rw [List.getElem?_eq_none (by omega)]
    decide
theorem pt_xor (a b : ByteArray) (j : Nat) : ptT (xorT a b) j = ptT a j ^^^ ptT b j := by unfold ptT; rw [secOf_xorT, xorL_at]
theorem pt_times (s : ByteArray) (c j : Nat) : ptT (timesT s c) j = mulT (ptT s j) c := by unfold ptT; rw [secOf_timesT, timesL_at]
theorem pt_empty (j : Nat) : ptT ByteArray.empty j = 0 := by simp [ptT, show secOf ByteArray.empty = [] from rfl]
theorem eq_of_pt {a b : ByteArray} (h : a.size = b.size) (hp : ∀ j, ptT a j = ptT b j) : a = b := by
  refine secOf_inj (List.ext_getElem (by rw [secOf_len, secOf_len, h]) fun j h1 h2 => ?_)
  have := hp j
  unfold ptT at this
  simpa [List.getD_eq_getElem?_getD, List.getElem?_eq_getElem h1, List.getElem?_eq_getElem h2] using this

/-! ### Sums of numbers -/
def pN (f : Nat → Nat) : Nat → Nat
  | 0 => 0
  | m + 1 => pN f m ^^^ f m
def qN (f : Nat → Nat) : Nat → Nat
  | 0 => 0
  | m + 1 => qN f m ^^^ mulT (f m) (expL m)
theorem pN_same {f g : Nat → Nat} : ∀ m, (∀ i, i < m → g i = f i) → pN g m = pN f m
  | 0, _ => rfl
  | m + 1, h => by rw [pN, pN, pN_same m (fun i hi => h i (by omega)), h m (by omega)]
theorem qN_same {f g : Nat → Nat} : ∀ m, (∀ i, i < m → g i = f i) → qN g m = qN f m
  | 0, _ => rfl
  | m + 1, h => by rw [qN, qN, qN_same m (fun i hi => h i (by omega)), h m (by omega)]
theorem xor_take (a f g : Nat) : a ^^^ f ^^^ (f ^^^ g) = a ^^^ g := by
  rw [Nat.xor_assoc, ← Nat.xor_assoc f, Nat.xor_self, Nat.zero_xor]
theorem pN_set {f g : Nat → Nat} {k : Nat} : ∀ m, k < m → (∀ i, i < m → i ≠ k → g i = f i) → pN g m = pN f m ^^^ (f k ^^^ g k)
  | 0, h, _ => absurd h (Nat.not_lt_zero k)
  | m + 1, hk, h => by
    by_cases e : k = m
    · subst e
      rw [pN, pN, pN_same k (fun i hi => h i (by omega) (by omega)), xor_take]
    · rw [pN, pN, pN_set m (by omega) (fun i hi hne => h i (by omega) hne), h m (by omega) (fun x => e x.symm)]
      ac_rfl
theorem qN_set {f g : Nat → Nat} {k : Nat} (k8 : k < 8) (hf : f k < 256) (hg : g k < 256) : ∀ m, k < m → (∀ i, i < m → i ≠ k → g i = f i) → qN g m = qN f m ^^^ mulT (f k ^^^ g k) (expL k)
  | 0, h, _ => absurd h (Nat.not_lt_zero k)
  | m + 1, hk, h => by
    by_cases e : k = m
    · subst e
      rw [qN, qN, qN_same k (fun i hi => h i (by omega) (by omega)), mulT_xor k8 hf hg, xor_take]
    · rw [qN, qN, qN_set k8 hf hg m (by omega) (fun i hi hne => h i (by omega) hne), h m (by omega) (fun x => e x.symm)]
      ac_rfl
theorem pt_add (l : List ByteArray) (j : Nat) : ∀ k, k ≤ l.length → ptT (addT (l.take k)) j = pN (fun i => ptT (l.getD i ByteArray.empty) j) k
  | 0, _ => by rw [List.take_zero]; exact pt_empty j
  | k + 1, h => by
    have hk : k < l.length := by omega
    rw [List.take_succ_eq_append_getElem hk, addT_snoc, pt_xor, pt_add l j k (by omega), pN]
    simp [hk]
theorem pt_addT (l : List ByteArray) (j : Nat) : ptT (addT l) j = pN (fun i => ptT (l.getD i ByteArray.empty) j) l.length := by
  have h := pt_add l j l.length (Nat.le_refl _)
  rwa [List.take_length] at h
theorem pt_q (l : List ByteArray) (j : Nat) : ∀ k, ptT (qT l k) j = qN (fun i => ptT (l.getD i ByteArray.empty) j) k
  | 0 => pt_empty j
  | k + 1 => by rw [qT, pt_xor, pt_times, pt_q l j k, qN]

/-! ### A row and what it becomes -/
/-- Column i as it will be. -/
def nowAt (old fr : List ByteArray) (ws : List Bool) (i : Nat) : ByteArray := if ws.getD i false = true then fr.getD i ByteArray.empty else old.getD i ByteArray.empty
def nowL (old fr : List ByteArray) (ws : List Bool) (k : Nat) : List ByteArray := (List.range k).map (nowAt old fr ws)
theorem nowL_len (old fr : List ByteArray) (ws : List Bool) (k : Nat) : (nowL old fr ws k).length = k := by simp [nowL]
theorem nowL_succ (old fr : List ByteArray) (ws : List Bool) (k : Nat) : nowL old fr ws (k + 1) = nowL old fr ws k ++ [nowAt old fr ws k] := by simp [nowL, List.range_succ]
theorem nowL_at {old fr : List ByteArray} {ws : List Bool} {k i : Nat} (h : i < k) : (nowL old fr ws k).getD i ByteArray.empty = nowAt old fr ws i := by simp [nowL, List.getD_eq_getElem?_getD, h]
/-- The first k columns as they will be, the others as they are. -/
def mixL (old fr : List ByteArray) (ws : List Bool) (n k : Nat) : List ByteArray := (List.range n).map fun i => if i < k then nowAt old fr ws i else old.getD i ByteArray.empty
theorem mixL_len (old fr : List ByteArray) (ws : List Bool) (n k : Nat) : (mixL old fr ws n k).length = n := by simp [mixL]
theorem mixL_at {old fr : List ByteArray} {ws : List Bool} {n k i : Nat} (h : i < n) : (mixL old fr ws n k).getD i ByteArray.empty = if i < k then nowAt old fr ws i else old.getD i ByteArray.empty := by simp [mixL, List.getD_eq_getElem?_getD, h]
theorem mixL_zero {old fr : List ByteArray} {ws : List Bool} {n : Nat} (h : old.length = n) : mixL old fr ws n 0 = old := by
  subst h
  refine List.ext_getElem (mixL_len _ _ _ _ _) fun i h1 h2 => ?_
  simp [mixL, List.getD_eq_getElem?_getD, h2]
theorem mixL_all (old fr : List ByteArray) (ws : List Bool) (n : Nat) : mixL old fr ws n n = nowL old fr ws n := by
  refine List.map_congr_left fun i hi => ?_
  rw [if_pos (List.mem_range.1 hi)]
theorem mixL_no {old fr : List ByteArray} {ws : List Bool} {n k : Nat} (h : ws.getD k false = false) : mixL old fr ws n (k + 1) = mixL old fr ws n k := by
  refine List.map_congr_left fun i _ => ?_
  by_cases e : i = k
  · subst e
    rw [if_pos (by omega), if_neg (by omega), nowAt, if_neg (by rw [h]; simp)]
  · by_cases hi : i < k
    · rw [if_pos (by omega), if_pos hi]
    · rw [if_neg (by omega), if_neg hi]
theorem nowL_same {old fr : List ByteArray} {ws : List Bool} {n : Nat} (h : ∀ i, i < n → ws.getD i false = false) (hl : old.length = n) : nowL old fr ws n = old := by
  rw [← mixL_all]
  refine Eq.trans ?_ (mixL_zero (fr := fr) (ws := ws) hl)
  refine List.map_congr_left fun i hi => ?_
  have hi := List.mem_range.1 hi
  rw [if_pos hi, if_neg (by omega), nowAt, if_neg (by rw [h i hi]; simp)]
/-- All columns are of five bytes. -/
def All5 (l : List ByteArray) : Prop := ∀ x ∈ l, x.size = 5
theorem All5.at {l : List ByteArray} (h : All5 l) {i : Nat} (hi : i < l.length) : (l.getD i ByteArray.empty).size = 5 := h _ (by rw [List.getD_eq_getElem?_getD, List.getElem?_eq_getElem hi]; exact List.getElem_mem hi)
section
variable {old fr : List ByteArray} {ws : List Bool} {n : Nat} (ho : All5 old) (hf : All5 fr) (lo : old.length = n) (lf : fr.length = n)
include ho hf lo lf
theorem nowAt_size {i : Nat} (hi : i < n) : (nowAt old fr ws i).size = 5 := by
  unfold nowAt
  split
  · exact hf.at (by omega)
  · exact ho.at (by omega)
theorem nowL_all {k : Nat} (hk : k ≤ n) : All5 (nowL old fr ws k) := by
  intro x hx
  obtain ⟨i, hi, rfl⟩ := List.mem_map.1 hx
  exact nowAt_size ho hf lo lf (by have := List.mem_range.1 hi; omega)
theorem mixL_5 (k : Nat) : All5 (mixL old fr ws n k) := by
  intro x hx
  obtain ⟨i, hi, rfl⟩ := List.mem_map.1 hx
  have hi := List.mem_range.1 hi
  split
  · exact nowAt_size ho hf lo lf hi
  · exact ho.at (by omega)
theorem mix_p (h2 : 0 < n) (k : Nat) : (addT (mixL old fr ws n k)).size = 5 :=
  addT_all 5 _ _ (Nat.zero_le _) (fun h => by have := mixL_len old fr ws n k; rw [h] at this; simp at this; omega) (mixL_5 ho hf lo lf k)
theorem mix_q (h2 : 0 < n) (k : Nat) : (qT (mixL old fr ws n k) n).size = 5 :=
  qT_all _ 5 (mixL_5 ho hf lo lf k) n (by rw [mixL_len]; exact Nat.le_refl _) h2
omit ho hf lo lf in
theorem mix_pt {k : Nat} (hk : k < n) (hw : ws.getD k false = true) (j : Nat) :
    (∀ i, i < n → i ≠ k → ptT ((mixL old fr ws n (k + 1)).getD i ByteArray.empty) j = ptT ((mixL old fr ws n k).getD i ByteArray.empty) j) ∧
    ptT ((mixL old fr ws n k).getD k ByteArray.empty) j = ptT (old.getD k ByteArray.empty) j ∧ ptT ((mixL old fr ws n (k + 1)).getD k ByteArray.empty) j = ptT (fr.getD k ByteArray.empty) j := by
  refine ⟨fun i hi hne => ?_, ?_, ?_⟩
  · rw [mixL_at hi, mixL_at hi]
    by_cases h : i < k
    · rw [if_pos (by omega), if_pos h]
    · rw [if_neg (by omega), if_neg h]
  · rw [mixL_at hk, if_neg (by omega)]
  · rw [mixL_at hk, if_pos (by omega), nowAt, if_pos hw]
theorem mix_stepP {k : Nat} (hk : k < n) (hw : ws.getD k false = true) :
    addT (mixL old fr ws n (k + 1)) = xorT (addT (mixL old fr ws n k)) (xorT (old.getD k ByteArray.empty) (fr.getD k ByteArray.empty)) := by
  have h0 : 0 < n := by omega
  refine eq_of_pt ?_ fun j => ?_
  · rw [xorT_size, xorT_size, mix_p ho hf lo lf h0, mix_p ho hf lo lf h0, ho.at (by omega), hf.at (by omega)]
    rfl
  · obtain ⟨h1, h2, h3⟩ := mix_pt (old := old) (fr := fr) hk hw j
    rw [pt_xor, pt_xor, pt_addT, pt_addT, mixL_len, mixL_len, pN_set n hk h1, h2, h3]
theorem mix_stepQ {k : Nat} (h8 : n ≤ 8) (hk : k < n) (hw : ws.getD k false = true) :
    qT (mixL old fr ws n (k + 1)) n = xorT (qT (mixL old fr ws n k) n) (timesT (xorT (old.getD k ByteArray.empty) (fr.getD k ByteArray.empty)) (expL k)) := by
  have h0 : 0 < n := by omega
  refine eq_of_pt ?_ fun j => ?_
  · rw [xorT_size, timesT_size, xorT_size, mix_q ho hf lo lf h0, mix_q ho hf lo lf h0, ho.at (by omega), hf.at (by omega)]
    rfl
  · obtain ⟨h1, h2, h3⟩ := mix_pt (old := old) (fr := fr) hk hw j
    rw [pt_xor, pt_times, pt_xor, pt_q, pt_q, qN_set (f := fun i => ptT ((mixL old fr ws n k).getD i ByteArray.empty) j) (g := fun i => ptT ((mixL old fr ws n (k + 1)).getD i ByteArray.empty) j) (by omega) (pt_lt _ _) (pt_lt _ _) n hk h1, h2, h3]
end

/-! ### What a plan reads where nothing is lost -/
theorem noLost (n i : Nat) : (lsOf n []).getD i false = false := by
  unfold lsOf
  rw [List.getD_eq_getElem?_getD, List.getElem?_map]
  cases (List.range (n + 2))[i]? <;> rfl
/-- The plan's way, and which roles it reads. -/
def PlanFit (n : Nat) (ws : List Bool) (way : Nat) (p : Nat → Bool) : Prop :=
  (way = 0 ∧ ∀ i, i < n → ws.getD i false = false) ∨ (way = 1 ∧ ∀ i, i < n → ws.getD i false = true) ∨
  (way = 2 ∧ p n = true ∧ p (n + 1) = true ∧ ∀ i, i < n → ws.getD i false = true → p i = true) ∨ (way = 3 ∧ ∀ i, i < n → ws.getD i false = false → p i = true)
theorem sel_none (m : Nat) : sel m (fun _ => false) = [] := by simp [sel]
theorem way2_fit (n : Nat) (ws : List Bool) : ∃ p, wayL n ws (lsOf n []) 2 = sel (n + 2) p ∧ PlanFit n ws 2 p := by
  refine ⟨fun i => keepP ws (lsOf n []) (decide (i < n)) i, ?_, .inr (.inr (.inl ⟨rfl, ?_, ?_, fun i hi hw => ?_⟩))⟩
  · rw [wayL, if_neg (by simp [-List.getD_eq_getElem?_getD, isBlind, noLost])]
    rfl
  · simp [-List.getD_eq_getElem?_getD, keepP, noLost]
  · simp [-List.getD_eq_getElem?_getD, keepP, noLost]
  · simp [-List.getD_eq_getElem?_getD, keepP, noLost, hw]
theorem way3_fit (n : Nat) (ws : List Bool) : ∃ p, wayL n ws (lsOf n []) 3 = sel (n + 2) p ∧ PlanFit n ws 3 p := by
  refine ⟨fun i => restP ws (decide (i < n)) i, rfl, .inr (.inr (.inr ⟨rfl, fun i hi hw => ?_⟩))⟩
  simp [-List.getD_eq_getElem?_getD, restP, hi, hw]
theorem way1_fit {n : Nat} {ws : List Bool} (hn : ws.length = n) (h : wayB n ws (lsOf n []) 1 = true) : ∃ p, wayL n ws (lsOf n []) 1 = sel (n + 2) p ∧ PlanFit n ws 1 p := by
  refine ⟨fun _ => false, (sel_none _).symm, .inr (.inl ⟨rfl, fun i hi => ?_⟩)⟩
  have h' : (!(List.range ws.length).any fun i => false == ws.getD i false) = true := h
  cases e : ws.getD i false with
  | true => rfl
  | false =>
    rw [any_yes (p := fun i => false == ws.getD i false) (k := i) (by omega) (by rw [e]; rfl)] at h'
    cases h'
theorem wants_none (n : Nat) (ws : List Bool) : (wants n (goneP ws (lsOf n []))).length = 0 := by
  unfold wants sel
  simp [-List.getD_eq_getElem?_getD, goneP, noLost]
theorem wayB2 (n : Nat) (ws : List Bool) : wayB n ws (lsOf n []) 2 = true := by
  show (isBlind n (lsOf n []) || decide ((wants n (goneP ws (lsOf n []))).length = 0)) = true
  rw [wants_none]
  simp
theorem wayL4 (n : Nat) (ws : List Bool) : (wayL n ws (lsOf n []) 4).length = n + 2 := by
  show (wants n (fun _ i => !(lsOf n []).getD i false)).length = n + 2
  unfold wants sel
  simp only [noLost, Bool.not_false]
  rw [List.length_map, List.filter_eq_self.2 (fun _ _ => rfl), List.length_range]
theorem best_fit {n : Nat} {ws : List Bool} (hn : ws.length = n) : ∀ k, k ≤ 5 → ((best n ws (lsOf n []) k).1 = 0 ∧ (best n ws (lsOf n []) k).2 = [] ∧ k ≤ 2) ∨ ∃ p, (best n ws (lsOf n []) k).2 = sel (n + 2) p ∧ PlanFit n ws (best n ws (lsOf n []) k).1 p ∧ (best n ws (lsOf n []) k).1 ≠ 0
  | 0, _ => .inl ⟨rfl, rfl, by decide⟩
  | 1, _ => .inl ⟨rfl, rfl, by decide⟩
  | 2, _ => by
    cases h : (wayB n ws (lsOf n []) 1 && ((best n ws (lsOf n []) 1).1 == 0 || decide ((wayL n ws (lsOf n []) 1).length < (best n ws (lsOf n []) 1).2.length))) with
    | true =>
      rw [best_yes (by decide) h]
      obtain ⟨p, h1, h2⟩ := way1_fit hn (by simp only [Bool.and_eq_true] at h; exact h.1)
      exact .inr ⟨p, h1, h2, show 1 ≠ 0 by decide⟩
    | false =>
      rw [best_no (by decide) h]
      exact .inl ⟨rfl, rfl, by decide⟩
  | 3, _ => by
    right
    cases h : (wayB n ws (lsOf n []) 2 && ((best n ws (lsOf n []) 2).1 == 0 || decide ((wayL n ws (lsOf n []) 2).length < (best n ws (lsOf n []) 2).2.length))) with
    | true =>
      rw [best_yes (by decide) h]
      obtain ⟨p, h1, h2⟩ := way2_fit n ws
      exact ⟨p, h1, h2, show 2 ≠ 0 by decide⟩
    | false =>
      rw [best_no (by decide) h]
      rcases best_fit hn 2 (by decide) with ⟨h0, _, _⟩ | h2
      · rw [wayB2, h0] at h
        cases h
      · exact h2
  | 4, _ => by
    right
    cases h : (wayB n ws (lsOf n []) 3 && ((best n ws (lsOf n []) 3).1 == 0 || decide ((wayL n ws (lsOf n []) 3).length < (best n ws (lsOf n []) 3).2.length))) with
    | true =>
      rw [best_yes (by decide) h]
      obtain ⟨p, h1, h2⟩ := way3_fit n ws
      exact ⟨p, h1, h2, show 3 ≠ 0 by decide⟩
    | false =>
      rw [best_no (by decide) h]
      rcases best_fit hn 3 (by decide) with ⟨_, _, h3⟩ | h3
      · exact absurd h3 (by decide)
      · exact h3
  | 5, _ => by
    right
    cases h : (wayB n ws (lsOf n []) 4 && ((best n ws (lsOf n []) 4).1 == 0 || decide ((wayL n ws (lsOf n []) 4).length < (best n ws (lsOf n []) 4).2.length))) with
    | true =>
      exfalso
      rcases best_fit hn 4 (by decide) with ⟨_, _, h3⟩ | ⟨p, h1, _, h3⟩
      · exact absurd h3 (by decide)
      · have h4 := sel_len (n + 2) p
        rw [wayL4, h1, show ((best n ws (lsOf n []) 4).1 == 0) = false by simpa using h3, decide_eq_false (by omega)] at h
        simp at h
    | false =>
      rw [best_no (by decide) h]
      rcases best_fit hn 4 (by decide) with ⟨_, _, h3⟩ | h3
      · exact absurd h3 (by decide)
      · exact h3
  | k + 6, h => absurd h (by omega)
theorem plan_fit {n : Nat} {ws : List Bool} (hn : ws.length = n) : ∃ p, (planOf n ws (lsOf n [])).2.1 = sel (n + 2) p ∧ PlanFit n ws (planOf n ws (lsOf n [])).1 p := by
  unfold planOf
  split
  · rcases best_fit hn 5 (by decide) with ⟨_, _, h3⟩ | ⟨p, h1, h2, _⟩
    · exact absurd h3 (by decide)
    · exact ⟨p, h1, h2⟩
  · rename_i h
    refine ⟨fun _ => false, (sel_none _).symm, .inl ⟨rfl, fun i hi => ?_⟩⟩
    cases e : ws.getD i false with
    | false => rfl
    | true => exact absurd (any_yes (p := fun i => true == ws.getD i false) (k := i) (by omega) (by rw [e]; rfl)) h
theorem sel_nodup (m : Nat) (p : Nat → Bool) : (sel m p).Nodup := by
  unfold sel
  refine List.Pairwise.map _ (fun a b h e => h ?_) (List.nodup_range.filter p)
  exact Int.ofNat.inj e
theorem mem_sel {m : Nat} {p : Nat → Bool} {i : Nat} (h : i < m) (hp : p i = true) : (i : Int) ∈ sel m p :=
  List.mem_map.2 ⟨i, List.mem_filter.2 ⟨List.mem_range.2 h, hp⟩, rfl⟩
theorem sel_get {m : Nat} {p : Nat → Bool} {k : Nat} (hk : k < (sel m p).length) : ∃ i : Nat, (sel m p).getD k 0 = (i : Int) ∧ i < m := by
  have h : (sel m p).getD k 0 ∈ sel m p := by rw [List.getD_eq_getElem?_getD, List.getElem?_eq_getElem hk]; exact List.getElem_mem hk
  obtain ⟨i, hi, e⟩ := List.mem_map.1 h
  exact ⟨i, e.symm, List.mem_range.1 (List.mem_filter.1 hi).1⟩

end Go.Proofs.YtdilchcnfnfdiaaGreatDoor
