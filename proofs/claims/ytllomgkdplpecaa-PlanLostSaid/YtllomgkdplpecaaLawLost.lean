/- PlanLost: the walk: nothing that is lost is read, or written; of what can be gone nothing reads fewer. -/
import Derived.Test.YtllomgkdplpecaaLawEnough
import Derived.Test.YtllomgkdplpecaaPlanCost
namespace Go.Proofs.Ytllomgkdplpecaa
open Go.RowKit

/-! ### The law -/
theorem sel_sorted (m : Nat) (p : Nat → Bool) : (sel m p).Pairwise (· < ·) := by
  unfold sel
  rw [List.pairwise_map]
  refine List.Pairwise.filter _ ?_
  exact List.pairwise_lt_range.imp (fun h => by omega)
theorem sel_get {m : Nat} {p : Nat → Bool} {i : Nat} (hi : i < (sel m p).length) : ∃ j : Nat, j < m ∧ (sel m p).getD i 0 = (j : Int) ∧ p j = true := by
  have hm : (sel m p).getD i 0 ∈ sel m p := by
    rw [List.getD_eq_getElem?_getD, List.getElem?_eq_getElem hi]
    exact List.getElem_mem hi
  generalize (sel m p).getD i 0 = z at hm
  simp only [sel, List.mem_map, List.mem_filter, List.mem_range] at hm
  obtain ⟨j, ⟨hj, hp⟩, rfl⟩ := hm
  exact ⟨j, hj, rfl, hp⟩
theorem sorted_get {R : List Int} (h : R.Pairwise (· < ·)) {i : Nat} (h0 : 0 < i) (hi : i < R.length) : R.getD (i - 1) 0 < R.getD i 0 := by
  have hi' : i - 1 < R.length := by omega
  rw [List.getD_eq_getElem?_getD, List.getD_eq_getElem?_getD, List.getElem?_eq_getElem hi, List.getElem?_eq_getElem hi']
  exact List.pairwise_iff_getElem.1 h (i - 1) i hi' hi (by omega)
def LostFree (lo R : List Int) : Prop := (∀ i, i < R.length → lo.contains (R.getD i 0) = false) ∧ R.Pairwise (· < ·)
theorem wants_free {n : Nat} {f : Bool → Nat → Bool} {lo : List Int} (h : ∀ j, j < n + 2 → f (decide (j < n)) j = true → lo.contains (j : Int) = false) : LostFree lo (wants n f) := by
  refine ⟨fun i hi => ?_, sel_sorted _ _⟩
  obtain ⟨j, hj, he, hp⟩ := sel_get hi
  have : (wants n f).getD i 0 = (j : Int) := he
  rw [this]
  exact h j hj hp
theorem way_free {n : Nat} {ws : List Bool} {lo : List Int} (way : Nat) (hb : wayB n ws (lsOf n lo) way = true) : LostFree lo (wayL n ws (lsOf n lo) way) := by
  unfold wayL
  split
  · split
    · exact ⟨fun i hi => by simp at hi, List.Pairwise.nil⟩
    · refine wants_free fun j hj hp => ?_
      simp only [keepP, lsOf_get lo hj, Bool.and_eq_true, Bool.not_eq_true'] at hp
      exact hp.1
  · refine ⟨fun i hi => ?_, sel_sorted _ _⟩
    simp only [wayB, Bool.not_eq_true', List.any_eq_false, List.mem_range] at hb
    have h1 := hb i hi
    obtain ⟨j, hj, he, -⟩ := sel_get hi
    have he' : (wants n (restP ws)).getD i 0 = (j : Int) := he
    rw [he'] at h1 ⊢
    rw [Int.toNat_natCast, lsOf_get lo hj] at h1
    simpa using h1
  · refine wants_free fun j hj hp => ?_
    rw [lsOf_get lo hj] at hp
    simpa using hp
  · exact ⟨fun i hi => by simp at hi, List.Pairwise.nil⟩
theorem best_min {n : Nat} {ws ls : List Bool} : ∀ K k, 1 ≤ k → k < K → wayB n ws ls k = true → (best n ws ls K).1 ≠ 0 ∧ (best n ws ls K).2.length ≤ (wayL n ws ls k).length ∧ ((best n ws ls K).2.length = (wayL n ws ls k).length → (best n ws ls K).1 ≤ k)
  | 0, k, _, h, _ => by omega
  | K + 1, k, h1, h2, hk => by
    have hK : K ≠ 0 := by omega
    cases h : (wayB n ws ls K && ((best n ws ls K).1 == 0 || decide ((wayL n ws ls K).length < (best n ws ls K).2.length))) with
    | true =>
      rw [best_yes hK h]
      simp only [Bool.and_eq_true, Bool.or_eq_true, beq_iff_eq, decide_eq_true_eq] at h
      rcases Nat.lt_or_eq_of_le (Nat.le_of_lt_succ h2) with hlt | rfl
      · obtain ⟨a, b, c⟩ := best_min K k h1 hlt hk
        refine ⟨hK, ?_, fun e => ?_⟩ <;> rcases h.2 with h3 | h3 <;> simp only at * <;> omega
      · exact ⟨hK, Nat.le_refl _, fun _ => Nat.le_refl _⟩
    | false =>
      rw [best_no hK h]
      rcases Nat.lt_or_eq_of_le (Nat.le_of_lt_succ h2) with hlt | rfl
      · exact best_min K k h1 hlt hk
      · rw [hk] at h
        simp only [Bool.true_and, Bool.or_eq_false_iff, beq_eq_false_iff_ne, decide_eq_false_iff_not] at h
        rcases best_is (n := n) (ws := ws) (ls := ls) k with ⟨h3, _⟩ | ⟨_, h3, _⟩
        · exact absurd h3 h.1
        · exact ⟨h.1, by omega, fun _ => by omega⟩
/-- All that the law asks of a plan. -/
structure LostLaw (n : Nat) (ws : List Bool) (lo : List Int) (way : Nat) (R W : List Int) : Prop where
  reads : LostFree lo R
  writes : ∀ i, i < W.length → ∃ m : Nat, m < n + 2 ∧ W.getD i 0 = (m : Int) ∧ lo.contains (m : Int) = false ∧ (m < n → ws.getD m false = true)
  costs : ∀ k, 1 ≤ k → k ≤ 4 → wayB n ws (lsOf n lo) k = true → way ≠ 0 → R.length ≤ (wayL n ws (lsOf n lo) k).length ∧ (R.length = (wayL n ws (lsOf n lo) k).length → way ≤ k)
  rlen : R.length ≤ 1048576
  wlen : W.length ≤ 1048576
theorem lost_law {n : Nat} (h8 : n ≤ 8) (ws : List Bool) (lo : List Int) : LostLaw n ws lo (planOf n ws (lsOf n lo)).1 (planOf n ws (lsOf n lo)).2.1 (planOf n ws (lsOf n lo)).2.2 := by
  unfold planOf
  split
  · refine ⟨?_, fun i hi => ?_, fun k h1 h4 hk _ => (best_min 5 k h1 (by omega) hk).2, best_len h8 _ _ _, ?_⟩
    · rcases best_is (n := n) (ws := ws) (ls := lsOf n lo) 5 with ⟨_, h⟩ | ⟨_, _, hb, h⟩
      · simp only [h]; exact ⟨fun i hi => by simp at hi, List.Pairwise.nil⟩
      · simp only [h]; exact way_free _ hb
    · obtain ⟨j, hj, he, hp⟩ := sel_get hi
      simp only [keepP, lsOf_get lo hj, Bool.and_eq_true, Bool.not_eq_true', Bool.or_eq_true] at hp
      refine ⟨j, hj, he, hp.1, fun hjn => ?_⟩
      rcases hp.2 with h | h
      · simp [hjn] at h
      · exact h
    · have := sel_len (n + 2) (fun i => keepP ws (lsOf n lo) (decide (i < n)) i)
      show (wants n (keepP ws (lsOf n lo))).length ≤ _
      unfold wants
      omega
  · exact ⟨⟨fun i hi => by simp at hi, List.Pairwise.nil⟩, fun i hi => by simp at hi, fun k _ _ _ h => absurd rfl h, by simp, by simp⟩

theorem cost_yes {n k : Nat} {ws ls : List Bool} (h : wayB n ws ls k = true) : costOf n ws ls k = (wayL n ws ls k).length := by rw [costOf, if_pos h]
theorem cost_no {n k : Nat} {ws ls : List Bool} (h : wayB n ws ls k = false) : costOf n ws ls k = 0 := by rw [costOf, if_neg (by rw [h]; simp)]

/-! ### The walk -/
def TRel (w : World) (n : Nat) (xs : List Bool) (v j : Value) (wr : World) : Prop := ∃ f, ToldRel w n xs v f j wr
def UpRel (m : Nat) (W : World) (j : Value) (wr : World) : Prop := ∃ i d : Nat, i ≤ m ∧ j = num i ∧ wr = W.drewN d
def WrRel (m : Nat) (W : World) (j : Value) (wr : World) : Prop := ∃ i : Nat, i ≤ m ∧ j = num i ∧ wr = W
def WayRel (W : World) (j : Value) (wr : World) : Prop := ∃ i : Nat, 1 ≤ i ∧ i ≤ 5 ∧ j = num i ∧ Ext W wr
theorem WayRel.next {W w1 w2 : World} {i : Nat} (h1 : 1 ≤ i) (h5 : i < 5) (e1 : Ext W w1) (e2 : Ext w1 w2) : WayRel W (num ((i : Int) + 1)) w2 := ⟨i + 1, by omega, by omega, by go_num, e1.trans e2⟩

set_option maxRecDepth 100000 in
set_option maxHeartbeats 20000000 in
theorem lost_walk' (many a b : Nat) (A0 : Option Addr) (cap0 : Nat) (xs : List Bool) (w : World) (h1 : many ≤ 255) (h3 : a ≤ 255) (h4 : b ≤ 255) (hx : RdB w (.slice A0 xs.length cap0) xs) :
    Calls Try.prog 5 #[.int .u8 many, .slice A0 xs.length cap0, .int .u8 a, .int .u8 b] w fun e w' => e = .returned (.bool true) ∧ Below w.heap.size w w' := by
  obtain ⟨n, hn⟩ : ∃ n : Nat, n = 2 + many % 7 := ⟨_, rfl⟩
  have hn2 : 2 ≤ n := by omega
  have hn8 : n ≤ 8 := by omega
  have HN := Lib.hid (show 2 + (many : Int) % 7 = (n : Int) by omega)
  have HX := Lib.hid hx
  have hN := HN.out
  clear hn hx
  go_enter Try.func5, Try.ntmps5
  go_wp2_with fail
  have O := Lib.hid (OwnB.new w w.heap.size (Nat.le_refl _))
  have E := Lib.hid ((Ext.refl w).alloc (.cells #[] 4))
  generalize w.alloc (.cells #[] 4) = w1 at O E ⊢
  clear hN
  go_loopw [10, 11] (fun v j wr => TRel w n xs v j wr) (fun _ j _ => n - (intOf j).toNat)
  case atStart => exact ⟨_, [], rfl, Nat.zero_le _, rfl, rfl, O.out, E.out⟩
  case round =>
    obtain ⟨f, ys, hy, hyn, rfl, rfl, ho, he⟩ := hrel
    by_cases hlt : ys.length < n
    · obtain ⟨y, hb⟩ : ∃ y, xs.getD ys.length false = y := ⟨_, rfl⟩
      have ST := Lib.hid (fun (g cap : Nat) (w2 : World) (h1 : OwnB w2 w.heap.size (.slice (some ⟨g, 0, none⟩) (ys.length + 1) cap) (ys ++ [y])) (h2 : Keeps (fun q => u10.ownBlock = some q) (wr.alloc (.cells #[.bool y] 4)) w2) =>
        show TRel w n xs (.slice (some ⟨g, 0, none⟩) (ys.length + 1) cap) (num ((ys.length : Int) + 1)) w2 from ⟨_, ToldRel.next hy hlt hb ho he _ h1 h2⟩)
      have hlen : ys.length ≤ 1048576 := by omega
      have hB : w.heap.size ≤ (wr.alloc (.cells #[.bool y] 4)).heap.size := (he.alloc _).size
      have HNW := Lib.hid (alloc_new wr (.cells #[.bool y] 4))
      have HA := Lib.hid (ho.ext ((Ext.refl wr).alloc (.cells #[.bool y] 4)))
      by_cases hL : ys.length < xs.length
      · obtain ⟨x0, rfl, hc0⟩ : ∃ x0, A0 = some x0 ∧ wr.cell? (x0.add ys.length) = some (.bool y) := by
          obtain ⟨A9, cap9, hv9, _, h9⟩ := HX.out.ext he
          obtain ⟨x9, hx9, hc9⟩ := h9 ys.length hL
          injection hv9 with h10 h11 h12
          exact ⟨x9, by rw [h10, hx9], by rw [hc9, hb]⟩
        have hcap : xs.length ≤ cap0 := by
          obtain ⟨A9, cap9, hv9, hc9, _⟩ := HX.out
          injection hv9 with h10 h11 h12
          omega
        clear hy ho he hb HX O E
        cases y <;> as_aux_lemma => (
          go_wp2_with (at_builtin; refine wpList_append_bool rfl _ _ rfl w.heap.size u10 ys rfl HA.out wr.heap.size _ rfl HNW.out hlen hB ?_; intro g cap w2 h1 h2 h3; have R := Lib.hid (ST.out g cap w2 h1 h2); clear h1 h2 h3 ST HA HNW hlen hB)
          go_roundw
          case rel => exact R.out
          case measure => simp [intOf]; omega)
      · obtain rfl : y = false := by rw [← hb, List.getD_eq_getElem?_getD, List.getElem?_eq_none (by omega)]; rfl
        clear hy ho he hb HX O E
        go_wp2_with (at_builtin; refine wpList_append_bool rfl _ _ rfl w.heap.size u10 ys rfl HA.out wr.heap.size _ rfl HNW.out hlen hB ?_; intro g cap w2 h1 h2 h3; have R := Lib.hid (ST.out g cap w2 h1 h2); clear h1 h2 h3 ST HA HNW hlen hB)
        go_roundw
        case rel => exact R.out
        case measure => simp [intOf]; omega
    · obtain ⟨A, cap, rfl, hcap, -⟩ := ho.rd
      have HO := Lib.hid ho
      have HE := Lib.hid he
      have HYN := Lib.hid (show ys.length = n by omega)
      have HT2 := Lib.hid (two_walk n a b wr hn8 (by omega) (by omega))
      have HTG := Lib.hid (twoL_good n (a % (n + 3)) (b % (n + 3)))
      have hge : ¬ ((ys.length : Int) < (n : Int)) := by omega
      clear ho he hy hyn hlt O E HX
      go_wp2_with fail
      refine HT2.out.mono ?_
      rintro e w2 ⟨v, rfl, hv, e2⟩
      generalize twoL n (a % (n + 3)) (b % (n + 3)) = lo at hv HTG
      obtain ⟨A2, cap2, rfl, hc2, -⟩ := hv.shape
      have E2 := Lib.hid (HE.out.trans e2)
      have HO2 := Lib.hid (HO.out.ext e2)
      have HC := Lib.hid (choose_walk hn2 hn8 HO2.out.rd HYN.out hv.rd HTG.out.1 HTG.out.2)
      have HV := Lib.hid hv
      clear hv e2 HT2 HE HO
      go_wp2_with fail
      refine HC.out.mono ?_
      rintro e w3 ⟨rv, pv, rfl, hrv, hpv, e3⟩
      obtain ⟨A3, cap3, rfl, hc3, -⟩ := hrv.shape
      obtain ⟨A4, cap4, rfl, hc4, -⟩ := hpv.shape
      have E3 := Lib.hid (E2.out.trans e3)
      have HO3 := Lib.hid (HO2.out.ext e3)
      have HV3 := Lib.hid (HV.out.ext e3)
      have HR := Lib.hid hrv
      have HP := Lib.hid hpv
      have LAW := Lib.hid (lost_law hn8 ys lo)
      clear hrv hpv e3 HC E2 HO2 HV
      have hl3 := LAW.out.rlen
      have hl4 := LAW.out.wlen
      generalize (planOf n ys (lsOf n lo)).1 = way at LAW ⊢
      generalize (planOf n ys (lsOf n lo)).2.1 = R at HR hc3 LAW hl3 ⊢
      generalize (planOf n ys (lsOf n lo)).2.2 = Wt at HP hc4 LAW hl4 ⊢
      have S3 := Lib.hid (fun o => shown_walk (w3.alloc o))
      have E4 := Lib.hid (fun o => E3.out.alloc o)
      go_wp2_with fail
      refine (S3.out _).mono ?_
      rintro e w4 ⟨rfl, e4⟩
      have E5 := Lib.hid ((E4.out _).trans e4)
      have d0 := e4.cell (show (w3.alloc (.cells #[.int .i64 way, .slice A3 R.length cap3, .slice A4 Wt.length cap4] 26)).cell? ⟨w3.heap.size, 0, none⟩ = some (.int .i64 way) by rw [cell_blk (alloc_new w3 _)]; rfl)
      have d1 := e4.cell (show (w3.alloc (.cells #[.int .i64 way, .slice A3 R.length cap3, .slice A4 Wt.length cap4] 26)).cell? ⟨w3.heap.size, 1, none⟩ = some (.slice A3 R.length cap3) by rw [cell_blk (alloc_new w3 _)]; rfl)
      have d2 := e4.cell (show (w3.alloc (.cells #[.int .i64 way, .slice A3 R.length cap3, .slice A4 Wt.length cap4] 26)).cell? ⟨w3.heap.size, 2, none⟩ = some (.slice A4 Wt.length cap4) by rw [cell_blk (alloc_new w3 _)]; rfl)
      have e34 := ((Ext.refl w3).alloc (.cells #[.int .i64 way, .slice A3 R.length cap3, .slice A4 Wt.length cap4] 26)).trans e4
      have RR := Lib.hid (HR.out.ext e34).rd
      have RW := Lib.hid (HP.out.ext e34).rd
      have RL := Lib.hid (HV3.out.ext e34).rd
      have RY := Lib.hid (HO3.out.ext e34).rd
      have hl2 : lo.length ≤ 1048576 := by have := HTG.out.2; omega
      clear S3 E4 e4 e34 HR HP HV3 HO3 E3
      go_wp2_with fail
      -- what is read
      have HasL := Lib.hid (fun (d m : Nat) x => has_walk (RL.out.ext (((Ext.refl w4).drewN d).drewN m)) hl2 x)
      go_loopw [15] (fun j wr => UpRel R.length w4 j wr) (fun j _ => R.length - (intOf j).toNat)
      case atStart => exact ⟨0, 0, Nat.zero_le _, rfl, rfl⟩
      case round =>
        obtain ⟨i, d, hi, rfl, rfl⟩ := hrel
        by_cases hit : i < R.length
        · have fr := LAW.out.reads.1 i hit
          obtain ⟨A9, cap9, hv9, _, h9⟩ := RR.out
          obtain ⟨g, hg9, hcell⟩ := h9 i hit
          injection hv9 with h10 h11 h12
          obtain rfl : A3 = some g := by rw [h10, hg9]
          have HH := Lib.hid (fun (m : Nat) => HasL.out d m (R.getD i 0))
          rw [fr] at HH
          by_cases h0 : 0 < i
          · obtain ⟨m, hm⟩ : ∃ m, m = i - 1 := ⟨_, rfl⟩
            obtain ⟨g', hg9', hcell'⟩ := h9 m (by omega)
            obtain rfl : g = g' := by rw [hg9] at hg9'; injection hg9'
            have hz := sorted_get LAW.out.reads.2 h0 hit
            rw [← hm] at hz
            have hm1 : (i : Int) - 1 = (m : Int) := by omega
            have hm2 : m < R.length := by omega
            have c1 : (w4.drewN d).cell? ⟨w3.heap.size, 1, none⟩ = some (.slice (some g) R.length cap3) := d1
            have c2 : (w4.drewN d).cell? (g.add i) = some (num (R.getD i 0)) := hcell
            have c3 : (w4.drewN d).cell? (g.add m) = some (num (R.getD m 0)) := hcell'
            clear h9 h10 h11 h12 hg9 hg9' fr HasL LAW RR RW RL RY HTG HYN hge E5 hm d0 d1 d2 hcell hcell'
            generalize hW : w4.drewN d = W at c1 c2 c3 HH ⊢
            have HWW := Lib.hid hW
            clear hW
            generalize R.getD i 0 = z at c2 HH hz
            generalize R.getD m 0 = z' at c3 hz
            have hd : decide (z ≤ z') = false := by simp; omega
            have hd0 : decide ((0 : Int) < (i : Int)) = true := by simp; omega
            have hd9 : decide (0 < i) = true := by simp; omega
            clear h0
            go_wp2_with fail
            go_quiet ((go_at_call 10; refine Calls.quiet_of_same (HH.out _)))
            go_wp2
            go_roundw
            case rel => exact ⟨i + 1, d + nq, by omega, by go_num, by rw [← HWW.out]; exact World.drewN_drewN _ _ _⟩
            case measure => simp [intOf]; omega
          · have c1 : (w4.drewN d).cell? ⟨w3.heap.size, 1, none⟩ = some (.slice (some g) R.length cap3) := d1
            have c2 : (w4.drewN d).cell? (g.add i) = some (num (R.getD i 0)) := hcell
            clear h9 h10 h11 h12 hg9 fr HasL LAW RR RW RL RY HTG HYN hge E5 d0 d1 d2 hcell
            generalize hW : w4.drewN d = W at c1 c2 HH ⊢
            have HWW := Lib.hid hW
            clear hW
            generalize R.getD i 0 = z at c2 HH
            have hd0 : decide ((0 : Int) < (i : Int)) = false := by simp; omega
            have hd9 : decide (0 < i) = false := by simp; omega
            clear h0
            go_wp2_with fail
            go_quiet ((go_at_call 10; refine Calls.quiet_of_same (HH.out _)))
            go_wp2
            go_roundw
            case rel => exact ⟨i + 1, d + nq, by omega, by go_num, by rw [← HWW.out]; exact World.drewN_drewN _ _ _⟩
            case measure => simp [intOf]; omega
        · obtain rfl : i = R.length := by omega
          have c0 : (w4.drewN d).cell? ⟨w3.heap.size, 0, none⟩ = some (.int .i64 way) := d0
          have c1 : (w4.drewN d).cell? ⟨w3.heap.size, 1, none⟩ = some (.slice A3 R.length cap3) := d1
          have c2 : (w4.drewN d).cell? ⟨w3.heap.size, 2, none⟩ = some (.slice A4 Wt.length cap4) := d2
          have QW := Lib.hid (RW.out.ext ((Ext.refl w4).drewN d))
          have QL := Lib.hid (RL.out.ext ((Ext.refl w4).drewN d))
          have QY := Lib.hid (RY.out.ext ((Ext.refl w4).drewN d))
          have E6 := Lib.hid (E5.out.drewN d)
          clear d0 d1 d2 RR RW RL RY E5 HasL hge
          generalize w4.drewN d = w5 at c0 c1 c2 QW QL QY E6 ⊢
          go_wp2_with fail
          -- what is written
          go_loopw [16] (fun j wr => WrRel Wt.length w5 j wr) (fun j _ => Wt.length - (intOf j).toNat)
          case atStart => exact ⟨0, Nat.zero_le _, rfl, rfl⟩
          case round =>
            obtain ⟨k, hk, rfl, rfl⟩ := hrel
            by_cases hkt : k < Wt.length
            · obtain ⟨m, hm, hwm, hfree, hy⟩ := LAW.out.writes k hkt
              obtain ⟨A9, cap9, hv9, _, h9⟩ := QW.out
              obtain ⟨g, hg9, hcell⟩ := h9 k hkt
              injection hv9 with h10 h11 h12
              obtain rfl : A4 = some g := by rw [h10, hg9]
              rw [hwm] at hcell
              have HH := Lib.hid (has_walk QL.out hl2 (m : Int))
              rw [hfree] at HH
              by_cases hmn : m < n
              · obtain ⟨B9, bap9, bv9, _, b9⟩ := QY.out
                obtain ⟨gy, gy9, ycell⟩ := b9 m (by have := HYN.out; omega)
                injection bv9 with b10 b11 b12
                obtain rfl : A = some gy := by rw [b10, gy9]
                rw [hy hmn] at ycell
                have hml : m < ys.length := by have := HYN.out; omega
                clear h9 h10 h11 h12 hg9 b9 b10 b11 b12 gy9 hwm hfree hy LAW QW QL QY HTG HYN E6
                go_wp2_with fail
                refine HH.out.mono ?_
                rintro e w6 ⟨rfl, rfl⟩
                clear HH
                go_wp2_with fail
                go_roundw
                case rel => exact ⟨k + 1, by omega, by go_num, rfl⟩
                case measure => simp [intOf]; omega
              · clear h9 h10 h11 h12 hg9 hwm hfree hy LAW QW QL QY HTG HYN E6
                go_wp2_with fail
                refine HH.out.mono ?_
                rintro e w6 ⟨rfl, rfl⟩
                clear HH
                go_wp2_with fail
                go_roundw
                case rel => exact ⟨k + 1, by omega, by go_num, rfl⟩
                case measure => simp [intOf]; omega
            · obtain rfl : k = Wt.length := by omega
              clear QW
              go_wp2_with fail
              -- what each way costs
              go_loopw [17] (fun j W => WayRel wr j W) (fun j _ => 5 - (intOf j).toNat)
              case atStart => exact ⟨1, by omega, by omega, rfl, Ext.refl _⟩
              case round =>
                obtain ⟨k, hk1, hk5, rfl, hext⟩ := hrel
                have f0 := hext.cell c0
                have f1 := hext.cell c1
                by_cases hkt : k < 5
                · have HCO := Lib.hid (cost_walk hn2 hn8 (QY.out.ext hext) HYN.out (QL.out.ext hext) HTG.out.1 HTG.out.2 hk1 (by omega))
                  have LC := LAW.out.costs k hk1 (by omega)
                  have CY := cost_yes (n := n) (k := k) (ws := ys) (ls := lsOf n lo)
                  have CN := cost_no (n := n) (k := k) (ws := ys) (ls := lsOf n lo)
                  generalize costOf n ys (lsOf n lo) k = co at HCO CY CN
                  generalize wayB n ys (lsOf n lo) k = bb at HCO CY CN LC
                  generalize (wayL n ys (lsOf n lo) k).length = L at CY LC
                  have HX := Lib.hid hext
                  have HLC := Lib.hid LC
                  have HCY := Lib.hid CY
                  have HCN := Lib.hid CN
                  clear LC CY CN hext QY QL LAW E6 c0 c1 c2 hk5 HTG HYN
                  go_wp2_with fail
                  refine HCO.out.mono ?_
                  rintro e wz ⟨rfl, ez⟩
                  have R' := Lib.hid (WayRel.next hk1 hkt HX.out ez)
                  have g0 := ez.cell f0
                  have g1 := ez.cell f1
                  clear HCO HX ez f0 f1
                  cases bb with
                  | false =>
                    clear HCY HCN HLC
                    go_wp2_with fail
                    go_roundw
                    case rel => exact R'.out
                    case measure => simp [intOf]; omega
                  | true =>
                    obtain rfl := HCY.out rfl
                    by_cases h0 : way = 0
                    · have hq0 : ((way : Int) != 0) = false := by simpa using h0
                      clear HCY HCN HLC h0
                      go_wp2_with fail
                      go_roundw
                      case rel => exact R'.out
                      case measure => simp [intOf]; omega
                    · have hq0 : ((way : Int) != 0) = true := by simpa using h0
                      obtain ⟨hle, himp⟩ := HLC.out rfl h0
                      have hn1 : ¬ ((co : Int) < (R.length : Int)) := by omega
                      by_cases hEq : R.length = co
                      · have hkw := himp hEq
                        have hn2 : ¬ ((k : Int) < (way : Int)) := by omega
                        have hq1 : ((co : Int) == (R.length : Int)) = true := by simp; omega
                        clear HCY HCN HLC h0 himp hEq
                        go_wp2_with fail
                        go_roundw
                        case rel => exact R'.out
                        case measure => simp [intOf]; omega
                      · have hq1 : ((co : Int) == (R.length : Int)) = false := by simp; omega
                        clear HCY HCN HLC h0 himp hEq
                        go_wp2_with fail
                        go_roundw
                        case rel => exact R'.out
                        case measure => simp [intOf]; omega
                · obtain rfl : k = 5 := by omega
                  have HCO := Lib.hid (cost_whole hn2 hn8 (QY.out.ext hext) HYN.out (QL.out.ext hext) HTG.out.1 HTG.out.2)
                  have E7 := Lib.hid (E6.out.trans hext)
                  clear hext QY QL LAW E6 c0 c1 c2 hk5 HTG HYN
                  go_wp2_with fail
                  refine HCO.out.mono ?_
                  rintro e wz ⟨rfl, ez⟩
                  have E8 := Lib.hid (E7.out.trans ez)
                  clear HCO ez E7
                  go_wp2
                  go_ret
                  exact ⟨rfl, E8.out⟩

end Go.Proofs.Ytllomgkdplpecaa
