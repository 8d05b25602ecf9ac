/- Layer 15: the law's own helpers: has, two, shown; Read. -/
import Derived.Test.YtllomgkdplpecaaPlanChoose
namespace Go.Proofs.Ytllomgkdplpecaa
open Go.RowKit

/-! ### has -/
def HasRel (w : World) (xs : List Int) (x : Int) (i : Value) (wr : World) : Prop := ∃ k : Nat, k ≤ xs.length ∧ i = num k ∧ (∀ j < k, (xs.getD j 0 == x) = false) ∧ wr = w
theorem has_none {xs : List Int} {x : Int} (h : ∀ j < xs.length, (xs.getD j 0 == x) = false) : xs.contains x = false := by
  apply Bool.eq_false_iff.2
  intro hc
  have hm : x ∈ xs := by simpa using hc
  obtain ⟨j, hj, e⟩ := List.getElem_of_mem hm
  have := h j hj
  rw [List.getD_eq_getElem?_getD, List.getElem?_eq_getElem hj, Option.getD_some, e] at this
  simp at this
theorem has_some {xs : List Int} {x : Int} {k : Nat} (hk : k < xs.length) (h : (xs.getD k 0 == x) = true) : xs.contains x = true := by
  rw [List.getD_eq_getElem?_getD, List.getElem?_eq_getElem hk, Option.getD_some] at h
  have : xs[k] = x := by simpa using h
  simp [← this]

set_option maxRecDepth 100000 in
theorem has_walk {w : World} {v : Value} {xs : List Int} (h : RdI w v xs) (hl : xs.length ≤ 1048576) (x : Int) :
    Calls Try.prog 10 #[v, num x] w fun e w' => e = .returned (.bool (xs.contains x)) ∧ w' = w := by
  obtain ⟨A, cap, rfl, hc, hA⟩ := h
  have HA := Lib.hid hA
  clear hA
  go_enter Try.func10, Try.ntmps10
  go_wp2
  go_loopw [5] (fun i wr => HasRel w xs x i wr) (fun i _ => xs.length - (intOf i).toNat)
  case atStart => exact ⟨0, Nat.zero_le _, rfl, by simp, rfl⟩
  case round =>
    obtain ⟨k, hk, rfl, ht, rfl⟩ := hrel
    have HT := Lib.hid ht
    clear ht
    by_cases hlt : k < xs.length
    · obtain ⟨g, rfl, hcell⟩ := HA.out k hlt
      clear HA
      cases e : (xs.getD k 0 == x) with
      | false =>
        have HS := Lib.hid (show ∀ j < k + 1, (xs.getD j 0 == x) = false from fun j hj => by
          rcases Nat.lt_or_eq_of_le (Nat.le_of_lt_succ hj) with h | rfl
          · exact HT.out j h
          · exact e)
        generalize xs.getD k 0 = z at hcell e
        clear HT
        go_wp2
        go_roundw
        case rel => exact ⟨k + 1, by omega, by go_num, HS.out, rfl⟩
        case measure => simp [intOf]; omega
      | true =>
        have HS := Lib.hid (has_some hlt e)
        generalize xs.getD k 0 = z at hcell e
        clear HT
        go_wp2
        go_ret
        exact ⟨by rw [HS.out]; rfl, rfl⟩
    · obtain rfl : k = xs.length := by omega
      have HS := Lib.hid (has_none HT.out)
      clear HT HA
      go_wp2
      go_ret
      exact ⟨by rw [HS.out]; rfl, rfl⟩

/-! ### two -/
def twoL (n i k : Nat) : List Int := (if i < n + 2 then [(i : Int)] else []) ++ (if k < n + 2 ∧ k ≠ i then [(k : Int)] else [])
theorem twoL_good (n i k : Nat) : GoodLost n (twoL n i k) ∧ (twoL n i k).length ≤ 2 := by
  unfold twoL
  by_cases h1 : i < n + 2 <;> by_cases h2 : k < n + 2 ∧ k ≠ i
  · rw [if_pos h1, if_pos h2]
    refine ⟨⟨fun x hx => ?_, ?_, by simp⟩, by simp⟩
    · simp at hx
      rcases hx with rfl | rfl
      · exact ⟨i, h1, rfl⟩
      · exact ⟨k, h2.1, rfl⟩
    · simp; omega
  · rw [if_pos h1, if_neg h2]
    refine ⟨⟨fun x hx => ?_, by simp, by simp⟩, by simp⟩
    simp at hx
    exact ⟨i, h1, hx⟩
  · rw [if_neg h1, if_pos h2]
    refine ⟨⟨fun x hx => ?_, by simp, by simp⟩, by simp⟩
    simp at hx
    exact ⟨k, h2.1, hx⟩
  · rw [if_neg h1, if_neg h2]
    exact ⟨⟨fun x hx => by simp at hx, by simp, by simp⟩, by simp⟩
theorem Own.new (w : World) (B : Nat) (hB : B ≤ w.heap.size) : Own (w.alloc (.cells #[] 3)) B (.slice (some ⟨w.heap.size, 0, none⟩) 0 0) [] := w.ownsRow_made #[] 0 hB (by decide) rfl
theorem OwnB.new (w : World) (B : Nat) (hB : B ≤ w.heap.size) : OwnB (w.alloc (.cells #[] 4)) B (.slice (some ⟨w.heap.size, 0, none⟩) 0 0) [] := w.ownsRow_made #[] 0 hB (by decide) rfl

theorem first_app (w : World) (x : Nat) : Own ((w.alloc (.cells #[] 3)).alloc (.cells #[num x] 3)) w.heap.size (.slice (some ⟨w.heap.size, 0, none⟩) 0 0) [] ∧ ((w.alloc (.cells #[] 3)).alloc (.cells #[num x] 3)).heap[w.heap.size + 1]? = some (.cells #[num x] 3) ∧ Ext w ((w.alloc (.cells #[] 3)).alloc (.cells #[num x] 3)) := by
  refine ⟨(Own.new w w.heap.size (Nat.le_refl _)).ext ((Ext.refl _).alloc _), ?_, ((Ext.refl w).alloc _).alloc _⟩
  have h := alloc_new (w.alloc (.cells #[] 3)) (.cells #[num x] 3)
  rw [size_alloc] at h
  exact h

set_option maxRecDepth 100000 in
set_option maxHeartbeats 800000 in
theorem two_walk (n a b : Nat) (w : World) (hn : n ≤ 8) (ha : a < 256) (hb : b < 256) :
    Calls Try.prog 7 #[num n, .int .u8 a, .int .u8 b] w fun e w' => ∃ v, e = .returned v ∧ Own w' w.heap.size v (twoL n (a % (n + 3)) (b % (n + 3))) ∧ Ext w w' := by
  have H1 := (show (a : Int) % ((n : Int) + 3) = ((a % (n + 3) : Nat) : Int) from by rw [Int.natCast_emod]; rfl)
  have H2 := (show (b : Int) % ((n : Int) + 3) = ((b % (n + 3) : Nat) : Int) from by rw [Int.natCast_emod]; rfl)
  have L1 : a % (n + 3) < 11 := by have := Nat.mod_lt a (show n + 3 > 0 by omega); omega
  have L2 : b % (n + 3) < 11 := by have := Nat.mod_lt b (show n + 3 > 0 by omega); omega
  generalize a % (n + 3) = i at H1 L1 ⊢
  generalize b % (n + 3) = k at H2 L2 ⊢
  have O := Lib.hid (Own.new w w.heap.size (Nat.le_refl _))
  have E := Lib.hid ((Ext.refl w).alloc (.cells #[] 3))
  have AI := Lib.hid (first_app w)
  by_cases h1 : i < n + 2
  · by_cases h2 : k < n + 2 ∧ k ≠ i
    · obtain ⟨h2, h3⟩ := h2
      have q3 : ((k : Int) != (i : Int)) = true := by simp; omega
      have HT := Lib.hid (show twoL n i k = [] ++ [(i : Int)] ++ [(k : Int)] by simp [twoL, h1, h2, h3])
      clear h3
      go_enter Try.func7, Try.ntmps7
      go_wp2_with (first
        | (at_builtin; refine wpList_append_num rfl _ _ rfl w.heap.size (.slice (some ⟨w.heap.size, 0, none⟩) 0 0) [] rfl (AI.out i).1 (w.heap.size + 1) i rfl (AI.out i).2.1 (by decide) (AI.out i).2.2.size ?_; intro g cap w2 g1 g2 g3; have E2 := Lib.hid ((AI.out i).2.2.keeps g2 (fun q hq => by cases hq; exact Nat.le_refl _)); have A2 := Lib.hid (And.intro (Own.ext g1 ((Ext.refl w2).alloc (.cells #[num k] 3))) (And.intro (alloc_new w2 (.cells #[num k] 3)) (E2.out.alloc (.cells #[num k] 3)))); clear g1 g2 g3 AI O E)
        | (at_builtin; refine wpList_append_num rfl _ _ rfl w.heap.size (.slice (some ⟨g, 0, none⟩) 1 cap) ([] ++ [(i : Int)]) rfl A2.out.1 w2.heap.size k rfl A2.out.2.1 (by simp) A2.out.2.2.size ?_; intro g' cap' w3 g1 g2 g3; have R := Lib.hid (And.intro g1 (A2.out.2.2.keeps g2 (fun q hq => (A2.out.1.lt hq).1))); clear g1 g2 g3 A2 E2))
      go_ret
      exact ⟨_, rfl, by rw [HT.out]; exact R.out.1, R.out.2⟩
    · have HT := Lib.hid (show twoL n i k = [] ++ [(i : Int)] by simp [twoL, h1, h2])
      by_cases h3 : k < n + 2
      · have q3 : ((k : Int) != (i : Int)) = false := by simp; omega
        clear h2
        go_enter Try.func7, Try.ntmps7
        go_wp2_with (at_builtin; refine wpList_append_num rfl _ _ rfl w.heap.size (.slice (some ⟨w.heap.size, 0, none⟩) 0 0) [] rfl (AI.out i).1 (w.heap.size + 1) i rfl (AI.out i).2.1 (by decide) (AI.out i).2.2.size ?_; intro g cap w2 g1 g2 g3; have R := Lib.hid (And.intro g1 ((AI.out i).2.2.keeps g2 (fun q hq => by cases hq; exact Nat.le_refl _))); clear g1 g2 g3 AI O E)
        go_ret
        exact ⟨_, rfl, by rw [HT.out]; exact R.out.1, R.out.2⟩
      · clear h2
        go_enter Try.func7, Try.ntmps7
        go_wp2_with (at_builtin; refine wpList_append_num rfl _ _ rfl w.heap.size (.slice (some ⟨w.heap.size, 0, none⟩) 0 0) [] rfl (AI.out i).1 (w.heap.size + 1) i rfl (AI.out i).2.1 (by decide) (AI.out i).2.2.size ?_; intro g cap w2 g1 g2 g3; have R := Lib.hid (And.intro g1 ((AI.out i).2.2.keeps g2 (fun q hq => by cases hq; exact Nat.le_refl _))); clear g1 g2 g3 AI O E)
        go_ret
        exact ⟨_, rfl, by rw [HT.out]; exact R.out.1, R.out.2⟩
  · by_cases h2 : k < n + 2 ∧ k ≠ i
    · have HT := Lib.hid (show twoL n i k = [] ++ [(k : Int)] by simp [twoL, h1, h2])
      obtain ⟨h2, h3⟩ := h2
      have q3 : ((k : Int) != (i : Int)) = true := by simp; omega
      clear h3
      go_enter Try.func7, Try.ntmps7
      go_wp2_with (at_builtin; refine wpList_append_num rfl _ _ rfl w.heap.size (.slice (some ⟨w.heap.size, 0, none⟩) 0 0) [] rfl (AI.out k).1 (w.heap.size + 1) k rfl (AI.out k).2.1 (by decide) (AI.out k).2.2.size ?_; intro g cap w2 g1 g2 g3; have R := Lib.hid (And.intro g1 ((AI.out k).2.2.keeps g2 (fun q hq => by cases hq; exact Nat.le_refl _))); clear g1 g2 g3 AI O E)
      go_ret
      exact ⟨_, rfl, by rw [HT.out]; exact R.out.1, R.out.2⟩
    · have HT := Lib.hid (show twoL n i k = [] by simp [twoL, h1, h2])
      have h3 : ¬ k < n + 2 := by omega
      clear h2 AI
      go_enter Try.func7, Try.ntmps7
      go_wp2
      go_ret
      exact ⟨_, rfl, by rw [HT.out]; exact O.out, E.out⟩

end Go.Proofs.Ytllomgkdplpecaa
