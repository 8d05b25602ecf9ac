/- LruBusy: the walk: where all keys are pinned nothing goes; one that is let go goes. -/
import Derived.Test.YtmdpnilokodbpaaLawPins
namespace Go.Proofs.Ytmdpnilokodbpaa
open Go.RowKit

/-- Every key of a list once, and one of them at hand. -/
theorem split_of_has {k : Int} {st : List (Int × Int)} (nd : (st.map (·.1)).Nodup) (h : hasK k st = true) : ∃ s1 p s2, st = s1 ++ (k, p) :: s2 ∧ (∀ x ∈ s1, x.1 ≠ k) ∧ (∀ x ∈ s2, x.1 ≠ k) := by
  unfold hasK at h
  rw [List.any_eq_true] at h
  obtain ⟨x, hx, e⟩ := h
  obtain ⟨s1, s2, rfl⟩ := List.append_of_mem hx
  obtain ⟨k', p⟩ := x
  simp only [beq_iff_eq] at e
  subst e
  rw [List.map_append, List.map_cons, List.nodup_append] at nd
  obtain ⟨_, n2, n3⟩ := nd
  refine ⟨s1, p, s2, rfl, fun y hy e => n3 y.1 (List.mem_map_of_mem (f := (·.1)) hy) k' (by simp) e, fun y hy e => ?_⟩
  exact (List.nodup_cons.1 n2).1 (e ▸ List.mem_map_of_mem (f := (·.1)) hy)

def busyL (i : Nat) : List (Int × Int) := (List.range i).reverse.map fun (j : Nat) => ((j : Int), (1 : Int))
theorem busy_succ (i : Nat) : busyL (i + 1) = ((i : Int), 1) :: busyL i := by simp [busyL, List.range_succ]
theorem busy_len (i : Nat) : (busyL i).length = i := by simp [busyL]
theorem busy_mem {i : Nat} {x : Int × Int} (h : x ∈ busyL i) : ∃ j : Nat, j < i ∧ x = ((j : Int), 1) := by
  unfold busyL at h
  obtain ⟨j, hj, rfl⟩ := List.mem_map.1 h
  exact ⟨j, by simpa using hj, rfl⟩
theorem busy_no {i : Nat} {k : Int} (hk : (i : Int) ≤ k) : hasK k (busyL i) = false := by
  unfold hasK
  rw [List.any_eq_false]
  intro x hx
  obtain ⟨j, hj, rfl⟩ := busy_mem hx
  simp
  omega
theorem busy_has {i j : Nat} (h : j < i) : hasK (j : Int) (busyL i) = true := by
  unfold hasK
  rw [List.any_eq_true]
  exact ⟨((j : Int), 1), List.mem_map.2 ⟨j, by simpa using h, rfl⟩, by simp⟩
theorem busy_nodup (i : Nat) : ((busyL i).map (·.1)).Nodup := by
  induction i with
  | zero => simp [busyL]
  | succ i ih =>
    rw [busy_succ, List.map_cons, List.nodup_cons]
    refine ⟨fun h => ?_, ih⟩
    obtain ⟨x, hx, e⟩ := List.mem_map.1 h
    obtain ⟨j, hj, rfl⟩ := busy_mem hx
    simp only at e
    omega
theorem busy_goes (i : Nat) : goesK (busyL i) = none := by
  unfold goesK
  rw [List.find?_eq_none]
  intro x hx
  obtain ⟨j, hj, rfl⟩ := busy_mem (List.mem_reverse.1 hx)
  simp

theorem busy_put {n i : Nat} (h : i < n) : putR n (i : Int) (busyL i) = (((i : Int), 0) :: busyL i, 0, false, 0) := by
  have h1 := busy_no (i := i) (k := (i : Int)) (Int.le_refl _)
  unfold putR
  rw [h1, if_neg (by decide), if_pos (by rw [busy_len]; exact h)]
theorem busy_pin (i : Nat) : hasK (i : Int) (((i : Int), 0) :: busyL i) = true ∧ pinSt (i : Int) (((i : Int), 0) :: busyL i) = busyL (i + 1) := by
  have h1 : hasK (i : Int) (((i : Int), 0) :: busyL i) = true := by simp [hasK]
  refine ⟨h1, ?_⟩
  have h2 : ∀ x ∈ busyL i, x.1 ≠ (i : Int) := by
    intro x hx
    obtain ⟨j, hj, rfl⟩ := busy_mem hx
    simp only
    omega
  have e := setK_split (k := (i : Int)) (p := 0) (v := 1) (s1 := []) (s2 := busyL i) (by simp) h2
  have p := pinsK_split (k := (i : Int)) (p := 0) (s1 := []) (s2 := busyL i) (by simp)
  rw [List.nil_append] at e p
  rw [pinSt, h1, if_pos rfl, p, show wrap64 (0 + 1) = 1 from by unfold wrap64; omega, e, busy_succ]
  rfl
theorem busy_full {n : Nat} (h : n ≤ 64) : putR n 1000 (busyL n) = (busyL n, 0, false, 130) := by
  unfold putR
  rw [busy_no (by omega), if_neg (by decide), if_neg (by rw [busy_len]; omega), busy_goes]

/-- One key is let go. -/
theorem busy_free {n i : Nat} (hn : n ≤ 64) (h : i < n) : unpinE (i : Int) (busyL n) = 0 ∧ ∃ st, (putR n 1000 (unpinSt (i : Int) (busyL n))) = (st, (i : Int), true, 0) ∧ hasK 1000 st = true ∧ hasK (i : Int) (getSt 1000 st) = false := by
  obtain ⟨s1, p, s2, e, h1, h2⟩ := split_of_has (busy_nodup n) (busy_has h)
  have hp : p = 1 := by
    obtain ⟨j, _, ej⟩ := busy_mem (i := n) (x := ((i : Int), p)) (by rw [e]; simp)
    injection ej
  subst hp
  have hh := busy_has h
  have hpin : pinsK (i : Int) (busyL n) = 1 := by rw [e, pinsK_split h1]
  have pos : ∀ x ∈ s2, 0 < x.2 := by
    intro x hx
    obtain ⟨j, _, rfl⟩ := busy_mem (i := n) (x := x) (by rw [e]; simp [hx])
    simp only
    omega
  have small : ∀ x ∈ s1 ++ s2, x.1 < 64 := by
    intro x hx
    obtain ⟨j, hj, rfl⟩ := busy_mem (i := n) (x := x) (by rw [e]; rcases List.mem_append.1 hx with hx | hx <;> simp [hx])
    simp only
    omega
  have eu : unpinSt (i : Int) (busyL n) = s1 ++ ((i : Int), 0) :: s2 := by
    rw [unpinSt, hh, hpin, if_pos (by decide), show wrap64 (1 - 1) = 0 from by unfold wrap64; omega, e, setK_split h1 h2]
  have hlen : (s1 ++ ((i : Int), 0) :: s2).length = n := by
    have := congrArg List.length e
    rw [busy_len] at this
    simp at this ⊢
    omega
  have hno : hasK 1000 (s1 ++ ((i : Int), 0) :: s2) = false := by
    unfold hasK
    rw [List.any_eq_false]
    intro x hx
    have : x.1 < 64 := by
      rcases List.mem_append.1 hx with hx | hx
      · exact small x (by simp [hx])
      · rcases List.mem_cons.1 hx with rfl | hx
        · simp only; omega
        · exact small x (by simp [hx])
    simp
    omega
  have hg : goesK (s1 ++ ((i : Int), 0) :: s2) = some ((i : Int), 0) := by
    unfold goesK
    rw [List.reverse_append, List.reverse_cons, List.append_assoc, List.find?_append]
    have : s2.reverse.find? (fun x => decide (x.2 ≤ 0)) = none := by
      rw [List.find?_eq_none]
      intro x hx
      have := pos x (List.mem_reverse.1 hx)
      simp
      omega
    rw [this]
    simp
  refine ⟨by rw [unpinE, hh, hpin]; rfl, (1000, 0) :: (s1 ++ s2), ?_, by simp [hasK], ?_⟩
  · unfold putR
    rw [eu, hno, if_neg (by decide), if_neg (by rw [hlen]; omega), hg]
    simp only []
    rw [rmK_split h1 h2]
  · have hs : ∀ x ∈ s1 ++ s2, x.1 ≠ 1000 := fun x hx => by have := small x hx; omega
    have hr : rmK 1000 ((1000, 0) :: (s1 ++ s2)) = s1 ++ s2 := by
      have := rmK_split (k := 1000) (p := 0) (s1 := []) (s2 := s1 ++ s2) (by simp) hs
      simpa using this
    rw [getSt, if_pos (by simp [hasK]), hr]
    unfold hasK
    rw [List.any_eq_false]
    intro x hx
    rcases List.mem_cons.1 hx with rfl | hx
    · simp only [beq_iff_eq]; omega
    · rcases List.mem_append.1 hx with hx | hx
      · simpa using h1 x hx
      · simpa using h2 x hx

set_option maxRecDepth 100000 in
set_option maxHeartbeats 800000 in
theorem busy_walk (r k : Nat) (w : World) (hr : r ≤ 255) (hk : k ≤ 255) :
    Calls Try.prog 4 #[.int .u8 r, .int .u8 k] w fun e w' => e = .returned (.bool true) ∧ Below w.heap.size w w' := by
  obtain ⟨n, hn⟩ : ∃ n : Nat, n = 1 + r % 64 := ⟨_, rfl⟩
  have hn1 : 1 ≤ n := by omega
  have hn64 : n ≤ 64 := by omega
  have H1 := Lib.hid (s_new n w hn1 hn64)
  have HN := Lib.hid (show 1 + (r : Int) % 64 = (n : Int) by omega)
  have H0 := Lib.hid (show busyL 0 = [] from rfl)
  have HK := Lib.hid (show (k : Int) % (n : Int) = ((k % n : Nat) : Int) from (Int.natCast_emod k n).symm)
  have HF := Lib.hid (busy_free hn64 (Nat.mod_lt k hn1))
  clear hn
  go_enter Try.func4, Try.ntmps4
  go_wp2_with fail
  rw [HN.out]
  clear HN
  refine H1.out.mono ?_
  rintro e w1 ⟨L, rfl, s1⟩
  clear H1
  go_wp2_with fail
  refine (shown_any w1).mono ?_
  rintro e w2 ⟨rfl, b2⟩
  have s2 := s1.below_keep b2
  clear s1 b2
  go_wp2_with fail
  go_loopw [7] (fun i wr => ∃ j : Nat, j ≤ n ∧ i = num j ∧ St w wr L n (busyL j)) (fun i _ => n - (intOf i).toNat)
  case atStart => exact ⟨0, Nat.zero_le _, rfl, by rw [H0.out]; exact s2⟩
  case round =>
    obtain ⟨j, hj, rfl, sr⟩ := hrel
    clear s2
    by_cases hlt : j < n
    · have P1 := s_put sr j
      rw [busy_put hlt] at P1
      have P := Lib.hid P1
      clear P1 sr
      go_wp2_with fail
      refine P.out.mono ?_
      rintro e w3 ⟨rfl, s3⟩
      have P1 := s_pin s3 j
      rw [(busy_pin j).1, (busy_pin j).2, if_pos rfl] at P1
      have P' := Lib.hid P1
      clear P1 s3 P
      go_wp2_with fail
      refine P'.out.mono ?_
      rintro e w4 ⟨rfl, s4⟩
      go_wp2_with fail
      go_roundw
      case rel => exact ⟨j + 1, by omega, by go_num, s4⟩
      case measure => simp [intOf]; omega
    · obtain rfl : j = n := by omega
      have P1 := s_put sr 1000
      rw [busy_full hn64] at P1
      have P := Lib.hid P1
      clear P1 sr
      go_wp2_with fail
      refine P.out.mono ?_
      rintro e w3 ⟨rfl, s3⟩
      clear P
      have K := Lib.hid (s_keys s3 (by rw [busy_len]; omega))
      clear s3
      go_wp2_with fail
      refine K.out.mono ?_
      rintro e w4 ⟨v, rfl, ho, s4⟩
      obtain ⟨A, cap, rfl, _, _⟩ := ho.shape
      have hlen : (keysOf (busyL j)).length = j := by simp [keysOf, busy_len]
      rw [hlen]
      clear ho K hlen
      go_wp2_with fail
      rw [HK.out]
      obtain ⟨f1, st, f2, f3, f4⟩ := HF.out
      clear HF HK H0
      have U1 := s_unpin s4 ((k % j : Nat) : Int)
      rw [f1] at U1
      have U := Lib.hid U1
      have F2 := Lib.hid f2
      have F3 := Lib.hid f3
      have F4 := Lib.hid f4
      clear U1 f1 f2 f3 f4 s4
      refine U.out.mono ?_
      rintro e w5 ⟨rfl, s5⟩
      have P1 := s_put s5 1000
      rw [F2.out] at P1
      have P := Lib.hid P1
      clear P1 s5 U
      go_wp2_with fail
      refine P.out.mono ?_
      rintro e w6 ⟨rfl, s6⟩
      have G1 := s_get s6 1000
      rw [F3.out] at G1
      have G := Lib.hid G1
      clear G1 s6 P F2 F3
      go_wp2_with fail
      refine G.out.mono ?_
      rintro e w7 ⟨rfl, s7⟩
      have G1 := s_get s7 ((k % j : Nat) : Int)
      rw [F4.out] at G1
      have G' := Lib.hid G1
      clear G1 s7 G F4
      go_wp2_with fail
      refine G'.out.mono ?_
      rintro e w8 ⟨rfl, s8⟩
      have B := Lib.hid s8.below
      clear s8 G'
      go_wp2_with fail
      go_ret
      exact ⟨rfl, B.out⟩

end Go.Proofs.Ytmdpnilokodbpaa
