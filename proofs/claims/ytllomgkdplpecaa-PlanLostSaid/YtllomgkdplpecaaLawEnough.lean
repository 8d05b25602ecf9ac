/- PlanEnough: the walk: what is read is enough. -/
import Derived.Test.YtllomgkdplpecaaPlanRead
import Derived.Deep.CutRange
namespace Go.Proofs.Ytllomgkdplpecaa
open Go.RowKit

/-- The first n of what was told, false behind its end. -/
def told (xs : List Bool) (n : Nat) : List Bool := (List.range n).map fun i => xs.getD i false
theorem told_succ (xs : List Bool) (n : Nat) : told xs (n + 1) = told xs n ++ [xs.getD n false] := by simp [told, List.range_succ]
theorem told_len (xs : List Bool) (n : Nat) : (told xs n).length = n := by simp [told]
def ToldRel (w : World) (n : Nat) (xs : List Bool) (v f j : Value) (wr : World) : Prop :=
  ∃ ys : List Bool, ys = told xs ys.length ∧ ys.length ≤ n ∧ j = num ys.length ∧ f = .bool (ys.any id) ∧ OwnB wr w.heap.size v ys ∧ Ext w wr
/-- One more. -/
theorem ToldRel.next {w wr w2 : World} {n : Nat} {xs ys : List Bool} {v v2 : Value} {y : Bool} (hy : ys = told xs ys.length) (hlt : ys.length < n) (hb : xs.getD ys.length false = y) (ho : OwnB wr w.heap.size v ys) (he : Ext w wr) (o : Obj)
    (h1 : OwnB w2 w.heap.size v2 (ys ++ [y])) (h2 : Keeps (fun q => v.ownBlock = some q) (wr.alloc o) w2) :
    ToldRel w n xs v2 (.bool (ys.any id || y)) (num ((ys.length : Int) + 1)) w2 :=
  ⟨ys ++ [y], by rw [List.length_append, List.length_singleton, told_succ, ← hy, hb], by simp; omega, by simp, by simp, h1, (he.alloc _).keeps h2 (fun q hq => (ho.lt hq).1)⟩

/-! ### The law -/
theorem mem_wants {n : Nat} {f : Bool → Nat → Bool} {i : Nat} (hi : i < n + 2) : (wants n f).contains (i : Int) = f (decide (i < n)) i := by
  rw [Bool.eq_iff_iff]
  simp only [List.contains_iff_mem, wants, sel, List.mem_map, List.mem_filter, List.mem_range]
  constructor
  · rintro ⟨m, ⟨hm, hp⟩, he⟩
    have : m = i := by omega
    subst this
    exact hp
  · intro h
    exact ⟨i, ⟨hi, h⟩, rfl⟩
/-- What the flags of the law's loop are, below i. -/
def flagO (n : Nat) (ws : List Bool) (R : List Int) (i : Nat) : Bool := (List.range i).all fun j => decide (n ≤ j) || ws.getD j false || R.contains (j : Int)
def flagM (n : Nat) (ws : List Bool) (R lo : List Int) (i : Nat) : Bool := (List.range i).all fun j => (decide (n ≤ j) && lo.contains (j : Int)) || (decide (j < n) && !ws.getD j false) || R.contains (j : Int)
def flagA (R lo : List Int) (i : Nat) : Bool := (List.range i).all fun j => lo.contains (j : Int) || R.contains (j : Int)
theorem all_succ (p : Nat → Bool) (i : Nat) : (List.range (i + 1)).all p = ((List.range i).all p && p i) := by simp [List.range_succ]

def anyOf (ws : List Bool) : Bool := (List.range ws.length).any fun i => true == ws.getD i false
theorem anyOf_eq (ws : List Bool) : anyOf ws = ws.any id := by
  unfold anyOf
  rw [Bool.eq_iff_iff]
  simp only [List.any_eq_true, List.mem_range, id_eq]
  constructor
  · rintro ⟨i, hi, h⟩
    refine ⟨ws.getD i false, ?_, by simpa using h⟩
    rw [List.getD_eq_getElem?_getD, List.getElem?_eq_getElem hi]
    exact List.getElem_mem hi
  · rintro ⟨b, hb, rfl⟩
    obtain ⟨i, hi, h⟩ := List.getElem_of_mem hb
    exact ⟨i, hi, by simp [List.getD_eq_getElem?_getD, hi, h]⟩

/-- The way that is chosen is one of the four, it can be gone, and what is read is what it reads. -/
theorem best_is {n : Nat} {ws ls : List Bool} : ∀ k, (best n ws ls k).1 = 0 ∧ (best n ws ls k).2 = [] ∨ (1 ≤ (best n ws ls k).1 ∧ (best n ws ls k).1 < k ∧ wayB n ws ls (best n ws ls k).1 = true ∧ (best n ws ls k).2 = wayL n ws ls (best n ws ls k).1)
  | 0 => .inl ⟨rfl, rfl⟩
  | k + 1 => by
    by_cases hk : k = 0
    · subst hk; exact .inl ⟨rfl, rfl⟩
    · cases h : (wayB n ws ls k && ((best n ws ls k).1 == 0 || decide ((wayL n ws ls k).length < (best n ws ls k).2.length))) with
      | true =>
        rw [best_yes hk h]
        exact .inr ⟨by omega, by omega, by simp at h; exact h.1, rfl⟩
      | false =>
        rw [best_no hk h]
        rcases best_is k with h | ⟨h1, h2, h3, h4⟩
        · exact .inl h
        · exact .inr ⟨h1, by omega, h3, h4⟩
theorem best_whole {n : Nat} {ws ls : List Bool} : (best n ws ls 5).1 ≠ 0 := by
  intro h0
  cases h : (wayB n ws ls 4 && ((best n ws ls 4).1 == 0 || decide ((wayL n ws ls 4).length < (best n ws ls 4).2.length))) with
  | true => rw [best_yes (by decide) h] at h0; simp at h0
  | false =>
    rw [best_no (by decide) h] at h0
    rw [h0] at h
    simp [wayB] at h
theorem wantsLen_zero {n : Nat} {f : Bool → Nat → Bool} (h : (wants n f).length = 0) {i : Nat} (hi : i < n + 2) : f (decide (i < n)) i = false := by
  refine (mem_wants (f := f) hi).symm.trans ?_
  rw [List.length_eq_zero_iff.1 h]
  rfl
/-- What is read is enough. -/
theorem enough_law {n : Nat} {ws : List Bool} {lo : List Int} (hw : ws.length = n) :
    (flagO n ws (best n ws (lsOf n lo) 5).2 (n + 2) || flagM n ws (best n ws (lsOf n lo) 5).2 lo (n + 2) || flagA (best n ws (lsOf n lo) 5).2 lo (n + 2) || (lo.contains (n : Int) && lo.contains ((n : Int) + 1))) = true := by
  rcases best_is (n := n) (ws := ws) (ls := lsOf n lo) 5 with ⟨h, _⟩ | ⟨h1, h5, hb, hL⟩
  · exact absurd h best_whole
  generalize (best n ws (lsOf n lo) 5).2 = R at hL ⊢
  generalize (best n ws (lsOf n lo) 5).1 = way at *
  subst hL
  rcases (by omega : way = 1 ∨ way = 2 ∨ way = 3 ∨ way = 4) with rfl | rfl | rfl | rfl
  · -- full
    have : flagO n ws (wayL n ws (lsOf n lo) 1) (n + 2) = true := by
      simp only [flagO, List.all_eq_true, List.mem_range]
      intro j hj
      by_cases hjn : j < n
      · simp only [wayB, Bool.not_eq_true', List.any_eq_false, List.mem_range] at hb
        have := hb j (by omega)
        simp at this
        simp [this]
      · have : n ≤ j := by omega
        simp [this]
    simp [this]
  · -- modify
    simp only [wayB, Bool.or_eq_true, decide_eq_true_eq] at hb
    cases hbl : isBlind n (lsOf n lo) with
    | true =>
      simp only [isBlind, Bool.and_eq_true] at hbl
      rw [lsOf_get lo (by omega), lsOf_get lo (by omega)] at hbl
      have h2 := hbl.2
      simp only [Int.natCast_add, Int.cast_ofNat_Int] at h2
      rw [hbl.1, h2]
      simp
    | false =>
      rw [hbl] at hb
      have hz : (wants n (goneP ws (lsOf n lo))).length = 0 := by simpa using hb
      have hf : flagM n ws (wayL n ws (lsOf n lo) 2) lo (n + 2) = true := by
        simp only [flagM, List.all_eq_true, List.mem_range]
        intro j hj
        have hg := wantsLen_zero hz hj
        simp only [wayL, hbl]
        rw [if_neg (by simp), mem_wants hj]
        simp only [keepP, goneP, lsOf_get lo hj] at hg ⊢
        by_cases hjn : j < n
        · have : ¬ n ≤ j := by omega
          simp only [hjn, this, decide_true, decide_false] at hg ⊢
          cases h1 : ws.getD j false <;> cases h2 : lo.contains (j : Int) <;> simp_all
        · have : n ≤ j := by omega
          simp only [hjn, this, decide_true, decide_false]
          cases h2 : lo.contains (j : Int) <;> simp
      simp [hf]
  · -- rebuild
    have : flagO n ws (wayL n ws (lsOf n lo) 3) (n + 2) = true := by
      simp only [flagO, List.all_eq_true, List.mem_range]
      intro j hj
      simp only [wayL]
      rw [mem_wants hj]
      simp only [restP]
      by_cases hjn : j < n
      · have : ¬ n ≤ j := by omega
        simp only [hjn, this, decide_true, decide_false]
        cases ws.getD j false <;> simp
      · have : n ≤ j := by omega
        simp [this]
    simp [this]
  · -- whole
    have : flagA (wayL n ws (lsOf n lo) 4) lo (n + 2) = true := by
      simp only [flagA, List.all_eq_true, List.mem_range]
      intro j hj
      simp only [wayL]
      rw [mem_wants hj, lsOf_get lo hj]
      cases lo.contains (j : Int) <;> simp
    simp [this]

/-! ### The walk -/
def EnRel (W : World) (n : Nat) (ws : List Bool) (R lo : List Int) (o m a j : Value) (wr : World) : Prop :=
  ∃ i : Nat, i ≤ n + 2 ∧ j = num i ∧ o = .bool (flagO n ws R i) ∧ m = .bool (flagM n ws R lo i) ∧ a = .bool (flagA R lo i) ∧ wr = W

set_option maxRecDepth 100000 in
set_option maxHeartbeats 20000000 in
theorem enough_walk (many a b : Nat) (A0 : Option Addr) (cap0 : Nat) (xs : List Bool) (w : World) (h1 : many ≤ 255) (h3 : a ≤ 255) (h4 : b ≤ 255) (hx : RdB w (.slice A0 xs.length cap0) xs) :
    Calls Try.prog 3 #[.int .u8 many, .slice A0 xs.length cap0, .int .u8 a, .int .u8 b] w fun e w' => e = .returned (.bool true) ∧ Below w.heap.size w w' := by
  obtain ⟨n, hn⟩ : ∃ n : Nat, n = 2 + many % 7 := ⟨_, rfl⟩
  have hn2 : 2 ≤ n := by omega
  have hn8 : n ≤ 8 := by omega
  have HN := Lib.hid (show 2 + (many : Int) % 7 = (n : Int) by omega)
  have HX := Lib.hid hx
  have hN := HN.out
  clear hn hx
  go_enter Try.func3, Try.ntmps3
  go_wp2_with fail
  have O := Lib.hid (OwnB.new w w.heap.size (Nat.le_refl _))
  have E := Lib.hid ((Ext.refl w).alloc (.cells #[] 4))
  generalize w.alloc (.cells #[] 4) = w1 at O E ⊢
  clear hN
  go_loopw [10, 11, 12] (fun v f j wr => ToldRel w n xs v f j wr) (fun _ _ j _ => n - (intOf j).toNat)
  case atStart => exact ⟨[], rfl, Nat.zero_le _, rfl, rfl, O.out, E.out⟩
  case round =>
    obtain ⟨ys, hy, hyn, rfl, rfl, ho, he⟩ := hrel
    by_cases hlt : ys.length < n
    · obtain ⟨y, hb⟩ : ∃ y, xs.getD ys.length false = y := ⟨_, rfl⟩
      have ST := Lib.hid (fun (g cap : Nat) (w2 : World) (h1 : OwnB w2 w.heap.size (.slice (some ⟨g, 0, none⟩) (ys.length + 1) cap) (ys ++ [y])) (h2 : Keeps (fun q => u10.ownBlock = some q) (wr.alloc (.cells #[.bool y] 4)) w2) =>
        And.intro (show ToldRel w n xs (.slice (some ⟨g, 0, none⟩) (ys.length + 1) cap) (.bool (ys.any id || y)) (num ((ys.length : Int) + 1)) w2 from ToldRel.next hy hlt hb ho he _ h1 h2)
          (show w2.cell? ⟨g, ys.length, none⟩ = some (.bool y) from by
            obtain ⟨A9, cap9, hv9, _, h9⟩ := h1.rd
            obtain ⟨x9, hx9, hc9⟩ := h9 ys.length (by simp)
            injection hv9 with h10 h11 h12
            rw [← h10] at hx9
            injection hx9 with hx9
            rw [← hx9, zero_add] at hc9
            rw [hc9]
            simp [List.getD_eq_getElem?_getD]))
      have hlen : ys.length ≤ 1048576 := by omega
      have hB : w.heap.size ≤ (wr.alloc (.cells #[.bool y] 4)).heap.size := (he.alloc _).size
      have HNW := Lib.hid (alloc_new wr (.cells #[.bool y] 4))
      have HA := Lib.hid (ho.ext ((Ext.refl wr).alloc (.cells #[.bool y] 4)))
      by_cases hL : ys.length < xs.length
      · obtain ⟨x0, rfl, hc0⟩ : ∃ x0, A0 = some x0 ∧ wr.cell? (x0.add ys.length) = some (.bool y) := by
          obtain ⟨A9, cap9, hv9, _, h9⟩ := HX.out.ext he
          obtain ⟨x9, hx9, hc9⟩ := h9 ys.length hL
          injection hv9 with h10 h11 h12
          exact ⟨x9, by rw [h10, hx9], by rw [hc9, hb]⟩
        have hcap : xs.length ≤ cap0 := by
          obtain ⟨A9, cap9, hv9, hc9, _⟩ := HX.out
          injection hv9 with h10 h11 h12
          omega
        clear hy ho he hb HX O E
        generalize ys.any id = f at ST ⊢
        cases y <;> cases f <;> as_aux_lemma => (
          go_wp2_with (at_builtin; refine wpList_append_bool rfl _ _ rfl w.heap.size u10 ys rfl HA.out wr.heap.size _ rfl HNW.out hlen hB ?_; intro g cap w2 h1 h2 h3; have R := Lib.hid (ST.out g cap w2 h1 h2).1; have rc := (ST.out g cap w2 h1 h2).2; clear h1 h2 h3 ST HA HNW hlen hB)
          go_roundw
          case rel => exact R.out
          case measure => simp [intOf]; omega)
      · obtain rfl : y = false := by rw [← hb, List.getD_eq_getElem?_getD, List.getElem?_eq_none (by omega)]; rfl
        clear hy ho he hb HX O E
        generalize ys.any id = f at ST ⊢
        cases f <;> as_aux_lemma => (
          go_wp2_with (at_builtin; refine wpList_append_bool rfl _ _ rfl w.heap.size u10 ys rfl HA.out wr.heap.size _ rfl HNW.out hlen hB ?_; intro g cap w2 h1 h2 h3; have R := Lib.hid (ST.out g cap w2 h1 h2).1; have rc := (ST.out g cap w2 h1 h2).2; clear h1 h2 h3 ST HA HNW hlen hB)
          go_roundw
          case rel => exact R.out
          case measure => simp [intOf]; omega)
    · obtain ⟨A, cap, rfl, hcap, -⟩ := ho.rd
      have HO := Lib.hid ho
      have HE := Lib.hid he
      have HYN := Lib.hid (show ys.length = n by omega)
      have HT2 := Lib.hid (two_walk n a b wr hn8 (by omega) (by omega))
      have HTG := Lib.hid (twoL_good n (a % (n + 3)) (b % (n + 3)))
      have hge : ¬ ((ys.length : Int) < (n : Int)) := by omega
      clear ho he hy hyn hlt O E HX
      go_wp2_with fail
      refine HT2.out.mono ?_
      rintro e w2 ⟨v, rfl, hv, e2⟩
      generalize twoL n (a % (n + 3)) (b % (n + 3)) = lo at hv HTG
      obtain ⟨A2, cap2, rfl, hc2, -⟩ := hv.shape
      have E2 := Lib.hid (HE.out.trans e2)
      have HO2 := Lib.hid (HO.out.ext e2)
      have HC := Lib.hid (choose_walk hn2 hn8 HO2.out.rd HYN.out hv.rd HTG.out.1 HTG.out.2)
      have HV := Lib.hid hv
      clear hv e2 HT2 HE HO
      go_wp2_with fail
      refine HC.out.mono ?_
      rintro e w3 ⟨rv, pv, rfl, hrv, hpv, e3⟩
      obtain ⟨A3, cap3, rfl, hc3, -⟩ := hrv.shape
      obtain ⟨A4, cap4, rfl, hc4, -⟩ := hpv.shape
      have E3 := Lib.hid (E2.out.trans e3)
      have HO3 := Lib.hid (HO2.out.ext e3)
      have HV3 := Lib.hid (HV.out.ext e3)
      have HR := Lib.hid hrv
      have HP := Lib.hid hpv
      clear hrv hpv e3 HC E2 HO2 HV
      cases hany : ys.any id with
      | false =>
        have hpl : planOf n ys (lsOf n lo) = (0, [], []) := by rw [planOf, if_neg (by have := anyOf_eq ys; unfold anyOf at this; rw [this, hany]; simp)]
        rw [hpl] at hc3 hc4 ⊢
        have S3 := Lib.hid (fun o => shown_walk (w3.alloc o))
        have E4 := Lib.hid (fun o => E3.out.alloc o)
        clear hpl HR HP HTG hany
        go_wp2_with fail
        refine (S3.out _).mono ?_
        rintro e w4 ⟨rfl, e4⟩
        have E5 := Lib.hid ((E4.out _).trans e4)
        have d1 := e4.cell (show (w3.alloc (.cells #[.int .i64 0, .slice A3 0 cap3, .slice A4 0 cap4] 26)).cell? ⟨w3.heap.size, 1, none⟩ = some (.slice A3 0 cap3) by rw [cell_blk (alloc_new w3 _)]; rfl)
        have d2 := e4.cell (show (w3.alloc (.cells #[.int .i64 0, .slice A3 0 cap3, .slice A4 0 cap4] 26)).cell? ⟨w3.heap.size, 2, none⟩ = some (.slice A4 0 cap4) by rw [cell_blk (alloc_new w3 _)]; rfl)
        clear S3 E4 e4
        go_wp2
        go_ret
        exact ⟨rfl, E5.out⟩
      | true =>
        have hpl : planOf n ys (lsOf n lo) = ((best n ys (lsOf n lo) 5).1, (best n ys (lsOf n lo) 5).2, wants n (keepP ys (lsOf n lo))) := by rw [planOf, if_pos (by have := anyOf_eq ys; unfold anyOf at this; rw [this, hany])]
        have HFIN := Lib.hid (enough_law (lo := lo) HYN.out)
        have HKEEP := Lib.hid (fun (i : Nat) (hi : i < n + 2) => (mem_wants (f := keepP ys (lsOf n lo)) hi).trans (show _ = (!lo.contains (i : Int) && (!decide (i < n) || ys.getD i false)) by rw [keepP, lsOf_get lo hi]))
        have hl3 : (best n ys (lsOf n lo) 5).2.length ≤ 1048576 := best_len hn8 ys _ 5
        have hl4 : (wants n (keepP ys (lsOf n lo))).length ≤ 1048576 := by have := sel_len (n + 2) (fun i => keepP ys (lsOf n lo) (decide (i < n)) i); unfold wants; omega
        have hw0 : (((best n ys (lsOf n lo) 5).1 : Int) == 0) = false := by have := best_whole (n := n) (ws := ys) (ls := lsOf n lo); simpa using this
        rw [hpl] at HR HP hc3 hc4 ⊢
        generalize (best n ys (lsOf n lo) 5).1 = way at hw0 ⊢
        generalize (best n ys (lsOf n lo) 5).2 = R at HR hc3 HFIN hl3 ⊢
        generalize wants n (keepP ys (lsOf n lo)) = Wt at HP hc4 HKEEP hl4 ⊢
        have S3 := Lib.hid (fun o => shown_walk (w3.alloc o))
        have E4 := Lib.hid (fun o => E3.out.alloc o)
        clear hpl hany
        go_wp2_with fail
        refine (S3.out _).mono ?_
        rintro e w4 ⟨rfl, e4⟩
        have E5 := Lib.hid ((E4.out _).trans e4)
        have d1 := e4.cell (show (w3.alloc (.cells #[.int .i64 way, .slice A3 R.length cap3, .slice A4 Wt.length cap4] 26)).cell? ⟨w3.heap.size, 1, none⟩ = some (.slice A3 R.length cap3) by rw [cell_blk (alloc_new w3 _)]; rfl)
        have d2 := e4.cell (show (w3.alloc (.cells #[.int .i64 way, .slice A3 R.length cap3, .slice A4 Wt.length cap4] 26)).cell? ⟨w3.heap.size, 2, none⟩ = some (.slice A4 Wt.length cap4) by rw [cell_blk (alloc_new w3 _)]; rfl)
        have e34 := ((Ext.refl w3).alloc (.cells #[.int .i64 way, .slice A3 R.length cap3, .slice A4 Wt.length cap4] 26)).trans e4
        have HasR := Lib.hid (fun x => has_walk (HR.out.ext e34).rd hl3 x)
        have HasW := Lib.hid (fun x => has_walk (HP.out.ext e34).rd hl4 x)
        have HasL := Lib.hid (fun x => has_walk (HV3.out.ext e34).rd (by have := HTG.out.2; omega) x)
        have HY := Lib.hid (HO3.out.ext e34).rd
        clear S3 E4 e4 e34 HR HP HV3 HO3 E3
        go_wp2_with fail
        go_loopw [16, 17, 18, 19] (fun o m a j wr => EnRel w4 n ys R lo o m a j wr) (fun _ _ _ j _ => n + 2 - (intOf j).toNat)
        case atStart => exact ⟨0, Nat.zero_le _, rfl, rfl, rfl, rfl, rfl⟩
        case round =>
          obtain ⟨i, hi, rfl, rfl, rfl, rfl, rfl⟩ := hrel
          by_cases hlt2 : i < n + 2
          · have ST := Lib.hid (fun (o' m' a' : Bool) (e1 : o' = (flagO n ys R i && (decide (n ≤ i) || ys.getD i false || R.contains (i : Int)))) (e2 : m' = (flagM n ys R lo i && ((decide (n ≤ i) && lo.contains (i : Int)) || (decide (i < n) && !ys.getD i false) || R.contains (i : Int)))) (e3 : a' = (flagA R lo i && (lo.contains (i : Int) || R.contains (i : Int)))) =>
              show EnRel wr n ys R lo (.bool o') (.bool m') (.bool a') (num ((i : Int) + 1)) wr from ⟨i + 1, by omega, by go_num, by rw [e1, flagO, flagO, all_succ], by rw [e2, flagM, flagM, all_succ], by rw [e3, flagA, flagA, all_succ], rfl⟩)
            have hWt := HasW.out i
            rw [HKEEP.out i hlt2] at hWt
            have HW := Lib.hid hWt
            have HRi := Lib.hid (HasR.out i)
            have HLi := Lib.hid (HasL.out i)
            clear hWt HasW HasR HasL HKEEP HFIN E5 HTG
            generalize R.contains (i : Int) = inn at ST HRi
            generalize lo.contains (i : Int) = gone at ST HLi HW
            generalize flagO n ys R i = o at ST ⊢
            generalize flagM n ys R lo i = m at ST ⊢
            generalize flagA R lo i = al at ST ⊢
            go_wp2_with fail
            refine HRi.out.mono ?_
            rintro e w5 ⟨rfl, rfl⟩
            clear HRi
            go_wp2_with fail
            refine HLi.out.mono ?_
            rintro e w6 ⟨rfl, rfl⟩
            clear HLi
            by_cases hin : i < n
            · have hd1 : decide (n ≤ i) = false := by simp; omega
              have hyl : i < ys.length := by have := HYN.out; omega
              obtain ⟨A9, cap9, hv9, _, h9⟩ := HY.out
              obtain ⟨x9, hx9, hcell⟩ := h9 i hyl
              injection hv9 with h10 h11 h12
              obtain rfl : A = some x9 := by rw [h10, hx9]
              rw [hd1, decide_eq_true hin] at ST
              rw [decide_eq_true hin] at HW
              clear HY h9 hd1 h10 h11 h12 hx9 HYN hge
              generalize ys.getD i false = yi at ST HW hcell
              go_upto_region 23 with fail
              go_cut [16] from 88 to 182 (fun o' wx => o' = .bool (o && (false || yi || inn)) ∧ wx = w6)
              case first =>
                clear ST HW
                cases o <;> cases yi <;> cases inn <;> as_aux_lemma => (
                  go_wp2_with fail
                  go_meet
                  case rel => exact ⟨by first | rfl | (simp; omega), rfl⟩)
              case rest =>
                obtain ⟨ho2, rfl⟩ := hcut
                have HO2 := Lib.hid ho2
                clear ho2
                go_upto_region 24 with fail
                go_cut [17] from 88 to 182 (fun m' wx => m' = .bool (m && ((false && gone) || (true && !yi) || inn)) ∧ wx = wc)
                case first =>
                  clear ST HW HO2
                  cases m <;> cases yi <;> cases inn <;> as_aux_lemma => (
                    go_wp2_with fail
                    go_meet
                    case rel => exact ⟨by first | rfl | (simp; omega), rfl⟩)
                case rest =>
                  obtain ⟨hm2, rfl⟩ := hcut
                  have HM2 := Lib.hid hm2
                  clear hm2
                  go_upto_region 25 with fail
                  go_cut [18] from 88 to 182 (fun a' wx => a' = .bool (al && (gone || inn)) ∧ wx = wc)
                  case first =>
                    clear ST HW HO2 HM2
                    cases al <;> cases gone <;> cases inn <;> as_aux_lemma => (
                      go_wp2_with fail
                      go_meet
                      case rel => exact ⟨by first | rfl | (simp; omega), rfl⟩)
                  case rest =>
                    obtain ⟨ha2, rfl⟩ := hcut
                    have hX := ST.out _ _ _ rfl rfl rfl
                    rw [← HO2.out, ← HM2.out, ← ha2] at hX
                    have XR := Lib.hid hX
                    clear ha2 hX ST HO2 HM2
                    cases gone <;> cases yi <;> as_aux_lemma => (
                      go_wp2_with fail
                      first
                        | (refine HW.out.mono ?_
                           rintro e w7 ⟨rfl, rfl⟩
                           clear HW
                           go_wp2_with fail)
                        | skip
                      go_roundw
                      case rel => first | exact XR.out | ((repeat apply Exists.intro); exact ⟨XR.out, rfl⟩)
                      case measure => simp [intOf]; omega)
            · have hd1 : decide (n ≤ i) = true := by simp; omega
              have hd2 : ((n : Int) ≤ (i : Int)) := by omega
              rw [hd1, decide_eq_false hin] at ST
              rw [decide_eq_false hin] at HW
              clear HY hd1 HYN hge
              generalize ys.getD i false = yi at ST HW
              go_upto_region 23 with fail
              go_cut [16] from 88 to 182 (fun o' wx => o' = .bool (o && (true || yi || inn)) ∧ wx = w6)
              case first =>
                clear ST HW
                cases o <;> cases inn <;> as_aux_lemma => (
                  go_wp2_with fail
                  go_meet
                  case rel => exact ⟨by first | rfl | (simp; omega), rfl⟩)
              case rest =>
                obtain ⟨ho2, rfl⟩ := hcut
                have HO2 := Lib.hid ho2
                clear ho2
                go_upto_region 24 with fail
                go_cut [17] from 88 to 182 (fun m' wx => m' = .bool (m && ((true && gone) || (false && !yi) || inn)) ∧ wx = wc)
                case first =>
                  clear ST HW HO2
                  cases m <;> cases gone <;> cases inn <;> as_aux_lemma => (
                    go_wp2_with fail
                    go_meet
                    case rel => exact ⟨by first | rfl | (simp; omega), rfl⟩)
                case rest =>
                  obtain ⟨hm2, rfl⟩ := hcut
                  have HM2 := Lib.hid hm2
                  clear hm2
                  go_upto_region 25 with fail
                  go_cut [18] from 88 to 182 (fun a' wx => a' = .bool (al && (gone || inn)) ∧ wx = wc)
                  case first =>
                    clear ST HW HO2 HM2
                    cases al <;> cases gone <;> cases inn <;> as_aux_lemma => (
                      go_wp2_with fail
                      go_meet
                      case rel => exact ⟨by first | rfl | (simp; omega), rfl⟩)
                  case rest =>
                    obtain ⟨ha2, rfl⟩ := hcut
                    have hX := ST.out _ _ _ rfl rfl rfl
                    rw [← HO2.out, ← HM2.out, ← ha2] at hX
                    have XR := Lib.hid hX
                    clear ha2 hX ST HO2 HM2
                    cases gone <;> as_aux_lemma => (
                      go_wp2_with fail
                      first
                        | (refine HW.out.mono ?_
                           rintro e w7 ⟨rfl, rfl⟩
                           clear HW
                           go_wp2_with fail)
                        | skip
                      go_roundw
                      case rel => first | exact XR.out | ((repeat apply Exists.intro); exact ⟨XR.out, rfl⟩)
                      case measure => simp [intOf]; omega)
          · obtain rfl : i = n + 2 := by omega
            have HLn := Lib.hid (HasL.out (n : Int))
            have HLm := Lib.hid (HasL.out ((n : Int) + 1))
            have hf := HFIN.out
            clear HasW HasR HasL HKEEP HFIN HY HTG HYN hge
            generalize flagO n ys R (n + 2) = o at hf ⊢
            generalize flagM n ys R lo (n + 2) = m at hf ⊢
            generalize flagA R lo (n + 2) = al at hf ⊢
            cases o with
            | true =>
              clear hf
              go_wp2
              go_ret
              exact ⟨rfl, E5.out⟩
            | false =>
            cases m with
            | true =>
              clear hf
              go_wp2
              go_ret
              exact ⟨rfl, E5.out⟩
            | false =>
            cases al with
            | true =>
              clear hf
              go_wp2
              go_ret
              exact ⟨rfl, E5.out⟩
            | false =>
              simp only [Bool.false_or, Bool.and_eq_true] at hf
              rw [hf.1] at HLn
              rw [hf.2] at HLm
              clear hf
              go_wp2_with fail
              refine HLn.out.mono ?_
              rintro e w7 ⟨rfl, rfl⟩
              clear HLn
              go_wp2_with fail
              refine HLm.out.mono ?_
              rintro e w8 ⟨rfl, rfl⟩
              clear HLm
              go_wp2
              go_ret
              exact ⟨rfl, E5.out⟩

end Go.Proofs.Ytllomgkdplpecaa
