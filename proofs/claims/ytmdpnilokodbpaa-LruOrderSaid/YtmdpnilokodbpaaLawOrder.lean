/- LruOrder: in plain Lean: the order in which keys were wanted, without pins. -/
import Derived.Test.YtmdpnilokodbpaaLawHolds
namespace Go.Proofs.Ytmdpnilokodbpaa
open Go.RowKit

/-- No key is pinned; each key is a byte. -/
structure Ord (n : Nat) (st : List (Int × Int)) : Prop where
  nd : (st.map (·.1)).Nodup
  len : st.length ≤ n
  pins : ∀ x ∈ st, x.2 = 0
  keys : ∀ x ∈ st, 0 ≤ x.1 ∧ x.1 ≤ 255

/-- The law's own next list. -/
def nextL (z : Int) (l : List Int) : List Int := z :: l.filter fun x => x != z
theorem nextL_snoc_eq (z : Int) (l : List Int) : nextL z (l ++ [z]) = nextL z l := by simp [nextL]
theorem nextL_snoc_ne {z x : Int} (l : List Int) (h : x ≠ z) : nextL z (l ++ [x]) = nextL z l ++ [x] := by simp [nextL, h]
theorem nextL_len (z : Int) (l : List Int) : (nextL z l).length ≤ l.length + 1 := by
  unfold nextL
  have := List.length_filter_le (fun x => x != z) l
  simp only [List.length_cons]
  omega
theorem keys_rm (z : Int) (st : List (Int × Int)) : keysOf (rmK z st) = (keysOf st).filter fun x => x != z := by
  unfold keysOf rmK
  rw [List.filter_map]
  rfl
theorem getSt_keys {z : Int} {st : List (Int × Int)} (h : hasK z st = true) : keysOf (getSt z st) = nextL z (keysOf st) := by
  rw [getSt, if_pos h]
  show z :: keysOf (rmK z st) = _
  rw [keys_rm]
  rfl
theorem nextL_new {z : Int} {st : List (Int × Int)} (h : hasK z st = false) : nextL z (keysOf st) = z :: keysOf st := by
  unfold nextL
  congr 1
  refine List.filter_eq_self.2 fun x hx => ?_
  obtain ⟨y, hy, rfl⟩ := List.mem_map.1 hx
  unfold hasK at h
  rw [List.any_eq_false] at h
  simpa using h y hy

theorem Ord.getSt {n : Nat} {z : Int} {st : List (Int × Int)} (h : Ord n st) (hk : hasK z st = true) : Ord n (getSt z st) := by
  obtain ⟨s1, q, s2, e, h1, h2⟩ := split_of_has h.nd hk
  have hl := rmK_len (p := q) h1 h2
  rw [← e] at hl
  have hp := pinsK_split (k := z) (p := q) (s2 := s2) h1
  rw [← e] at hp
  have hq := h.pins (z, q) (by rw [e]; simp)
  have hz := h.keys (z, q) (by rw [e]; simp)
  rw [Go.Proofs.Ytmdpnilokodbpaa.getSt, if_pos hk]
  refine ⟨cons_rm_nodup h.nd, by rw [List.length_cons]; have := h.len; omega, fun x hx => ?_, fun x hx => ?_⟩
  · rcases List.mem_cons.1 hx with rfl | hx
    · rw [hp]; exact hq
    · exact h.pins x (rmK_mem hx).1
  · rcases List.mem_cons.1 hx with rfl | hx
    · exact hz
    · exact h.keys x (rmK_mem hx).1

theorem Ord.cons {n : Nat} {z : Int} {st : List (Int × Int)} (h : Ord n st) (hz : 0 ≤ z ∧ z ≤ 255) (hk : hasK z st = false) (hl : st.length < n) : Ord n ((z, 0) :: st) := by
  refine ⟨?_, by rw [List.length_cons]; omega, fun x hx => ?_, fun x hx => ?_⟩
  · rw [List.map_cons, List.nodup_cons]
    refine ⟨fun hh => ?_, h.nd⟩
    obtain ⟨x, hx, e⟩ := List.mem_map.1 hh
    unfold hasK at hk
    rw [List.any_eq_false] at hk
    have := hk x hx
    simp only [beq_iff_eq] at this
    exact this e
  · rcases List.mem_cons.1 hx with rfl | hx
    · rfl
    · exact h.pins x hx
  · rcases List.mem_cons.1 hx with rfl | hx
    · exact hz
    · exact h.keys x hx

theorem ord_put {n : Nat} {z : Int} {st : List (Int × Int)} (h : Ord n st) (hn : 1 ≤ n) (hz : 0 ≤ z ∧ z ≤ 255) :
    (∃ st', putR n z st = (st', 0, false, 0) ∧ nextL z (keysOf st) = keysOf st' ∧ (nextL z (keysOf st)).length ≤ n ∧ Ord n st') ∨
    (∃ st' g, putR n z st = (st', g, true, 0) ∧ (nextL z (keysOf st)).length = n + 1 ∧ (nextL z (keysOf st)).getD n 0 = g ∧ 0 ≤ g ∧ (nextL z (keysOf st)).take n = keysOf st' ∧ hasK z st = false ∧ Ord n st') := by
  cases hk : hasK z st with
  | true =>
    left
    have ho := h.getSt hk
    refine ⟨getSt z st, by rw [putR, if_pos hk], (getSt_keys hk).symm, ?_, ho⟩
    rw [← getSt_keys hk]
    have := ho.len
    simpa [keysOf] using this
  | false =>
    have hne : ¬ hasK z st = true := by rw [hk]; decide
    by_cases hl : st.length < n
    · left
      refine ⟨(z, 0) :: st, by rw [putR, if_neg hne, if_pos hl], nextL_new hk, ?_, h.cons hz hk hl⟩
      rw [nextL_new hk]
      simp [keysOf]
      omega
    · right
      have hlen : st.length = n := by have := h.len; omega
      obtain ⟨st1, g, rfl⟩ : ∃ st1 g, st = st1 ++ [g] := by
        cases hst : st.reverse with
        | nil =>
          have : st = [] := by simpa using hst
          subst this
          simp at hlen
          omega
        | cons g r => exact ⟨r.reverse, g, by have := congrArg List.reverse hst; simpa using this⟩
      have hg0 : g.2 = 0 := h.pins g (by simp)
      have hgo : goesK (st1 ++ [g]) = some g := by
        unfold goesK
        simp [hg0]
      have hno : ∀ x ∈ st1, x.1 ≠ g.1 := by
        intro x hx e
        have := h.nd
        rw [List.map_append, List.nodup_append] at this
        exact this.2.2 x.1 (List.mem_map_of_mem (f := (·.1)) hx) g.1 (by simp) e
      have hrm : rmK g.1 (st1 ++ [g]) = st1 := by
        obtain ⟨gk, gp⟩ := g
        have := rmK_split (k := gk) (p := gp) (s1 := st1) (s2 := []) hno (by simp)
        simpa using this
      have hl1 : st1.length + 1 = n := by simpa using hlen
      have hk1 : hasK z st1 = false := by
        unfold hasK at hk ⊢
        rw [List.any_eq_false] at hk ⊢
        exact fun x hx => hk x (by simp [hx])
      have ho1 : Ord n st1 := ⟨by have := h.nd; rw [List.map_append, List.nodup_append] at this; exact this.1, by omega, fun x hx => h.pins x (by simp [hx]), fun x hx => h.keys x (by simp [hx])⟩
      have e := nextL_new hk
      refine ⟨(z, 0) :: st1, g.1, ?_, ?_, ?_, (h.keys g (by simp)).1, ?_, rfl, ho1.cons hz hk1 (by omega)⟩
      · rw [putR, if_neg hne, if_neg hl, hgo]
        simp only []
        rw [hrm]
      · rw [e]
        simp [keysOf]
        omega
      · rw [e]
        simp only [keysOf, List.map_append, List.map_cons, List.map_nil]
        rw [← hl1]
        simp [List.getD_eq_getElem?_getD]
      · rw [e]
        simp only [keysOf, List.map_append, List.map_cons, List.map_nil]
        rw [← hl1, List.take_succ_cons, List.take_append_of_le_length (by simp), List.take_of_length_le (by simp)]

theorem ord_nil (n : Nat) : Ord n [] := ⟨by simp, by simp, by simp, by simp⟩
theorem has_keys (z : Int) (st : List (Int × Int)) : (keysOf st).any (fun x => x == z) = hasK z st := by
  unfold keysOf hasK
  rw [List.any_map]
  rfl

end Go.Proofs.Ytmdpnilokodbpaa
