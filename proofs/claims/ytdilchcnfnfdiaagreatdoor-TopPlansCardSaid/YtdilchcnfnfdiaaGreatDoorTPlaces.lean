/- pack: places: the bytes one by one. -/
import Derived.Test.YtdilchcnfnfdiaaGreatDoorTPack
namespace Go.Proofs.YtdilchcnfnfdiaaGreatDoor
open Go.RowKit Go.Shelf

attribute [local go_sem] Oper.semAt_some

/-- The places of k bytes of number i. -/
def placesAt (i k : Nat) : List (Nat × Nat) := (List.range k).map fun j => (i, 8 * j)
theorem placesAt_succ (i k : Nat) : placesAt i (k + 1) = placesAt i k ++ [(i, 8 * k)] := by simp [placesAt, List.range_succ]
/-- The places of the first t numbers' bytes. -/
def placesTo (ws : List Nat) (t : Nat) : List (Nat × Nat) := (List.range t).flatMap fun i => placesAt i (ws.getD i 0)
theorem placesTo_succ (ws : List Nat) (t : Nat) : placesTo ws (t + 1) = placesTo ws t ++ placesAt t (ws.getD t 0) := by simp [placesTo, List.range_succ, List.flatMap_append]
theorem placesTo_prefix (ws : List Nat) {t u : Nat} (h : t ≤ u) : placesTo ws t <+: placesTo ws u := by
  obtain ⟨d, rfl⟩ := Nat.le.dest h
  clear h
  induction d with
  | zero => exact List.prefix_refl _
  | succ d ih => rw [← Nat.add_assoc, placesTo_succ]; exact ih.trans (List.prefix_append _ _)
theorem placesTo_step (ws : List Nat) {t k : Nat} (ht : t < ws.length) (hk : k < ws.getD t 0) : (placesTo ws t ++ placesAt t k) ++ [(t, 8 * k)] <+: placesTo ws ws.length := by
  have h1 : (placesTo ws t ++ placesAt t k) ++ [(t, 8 * k)] = placesTo ws t ++ placesAt t (k + 1) := by rw [placesAt_succ, List.append_assoc]
  have h2 : placesAt t (k + 1) <+: placesAt t (ws.getD t 0) := by
    unfold placesAt
    refine List.IsPrefix.map _ ?_
    refine ⟨List.range' (k + 1) (ws.getD t 0 - (k + 1)), ?_⟩
    have h := List.range'_append_1 (s := 0) (m := k + 1) (n := ws.getD t 0 - (k + 1))
    rw [Nat.zero_add, show k + 1 + (ws.getD t 0 - (k + 1)) = ws.getD t 0 by omega] at h
    rw [List.range_eq_range', List.range_eq_range', h]
  rw [h1]
  refine List.IsPrefix.trans ?_ (placesTo_prefix ws (show t + 1 ≤ ws.length by omega))
  rw [placesTo_succ]
  obtain ⟨r, hr⟩ := h2
  exact ⟨r, by rw [List.append_assoc, hr]⟩

theorem places_walk (A : Option Addr) (k c : Nat) (w : World) : Calls Tryz.prog 34 #[.slice A k c] w fun e w' => e = .returned (.func (.func 67) #[] #[ptr w.heap.size]) ∧ w' = w.alloc (.cells #[.slice A k c] 23) := by
  go_enter Tryz.func34, Tryz.ntmps34
  go_wp2
  go_ret
  exact ⟨rfl, rfl⟩

set_option maxRecDepth 100000 in
set_option maxHeartbeats 1000000 in
theorem places1_in (n : Nat) (hn : 1 ≤ n) (l Bn n₀ : Nat) (ws : List Nat) (A : Option Addr) (cap : Nat) (hw8 : ∀ x ∈ ws, x ≤ 8) (hwl : ws.length ≤ 64) (J Jx : List (Nat × Nat) → World → Prop)
    (hY : ∀ pre (x : Nat × Nat) W, J pre W → (pre ++ [x]) <+: placesTo ws ws.length → YieldAt Fence.wide (n - 1) Tryz.prog l #[natv x.1, natv x.2] W fun e W' =>
      (e = .returned (.bool true) ∧ J (pre ++ [x]) W' ∧ Below n₀ W W') ∨ (e = .returned (.bool false) ∧ Jx (pre ++ [x]) W'))
    (W : World) (hBn : W.cell? ⟨Bn, 0, none⟩ = some (.slice A ws.length cap)) (hc : ∀ i, i < ws.length → ∃ x, A = some x ∧ W.cell? (x.add i) = some (natv (ws.getD i 0)) ∧ (x.add i).block < n₀) (h0 : J [] W) :
    CallsIn Fence.wide n Tryz.prog 67 #[.func (.yield l) #[] #[], ptr Bn] W fun e W' => (∃ v, e = .returned v) ∧
      ((∃ ys, ys = placesTo ws ws.length ∧ J ys W') ∨ (∃ pre, pre <+: placesTo ws ws.length ∧ Jx pre W')) := by
  have hwi : (ws.length : Int) ≤ 64 := by omega
  have HC := Lib.hid hc
  have HY := Lib.hid hY
  have H8 := Lib.hid hw8
  clear hc hY hw8
  refine callsIn_of_wp Tryz.func67 rfl trivial ?_ rfl
  simp only [Tryz.ntmps67, List.size_toArray, List.length_cons, List.length_nil, Nat.reduceAdd, Nat.reduceSub, Array.replicate_succ, Array.replicate_zero, List.push_toArray, List.append_toArray, List.nil_append, List.cons_append]
  gi_wp2
  gi_loopw [8] (fun i wr => ∃ t : Nat, t ≤ ws.length ∧ i = num t ∧ Below n₀ W wr ∧ J (placesTo ws t) wr) (fun i _ => ws.length - (intOf i).toNat)
  case atStart => exact ⟨0, Nat.zero_le _, rfl, Below.refl _ _, h0⟩
  case round =>
    obtain ⟨t, ht, rfl, hb, hJ⟩ := hrel
    by_cases hlt : t < ws.length
    · obtain ⟨x, rfl, hcx, hxb⟩ := HC.out t hlt
      have hcx' := (hb.cell hxb).trans hcx
      have hle : ws.getD t 0 ≤ 8 := H8.out _ (by rw [List.getD_eq_getElem?_getD, List.getElem?_eq_getElem hlt]; exact List.getElem_mem hlt)
      obtain ⟨y, hy⟩ : ∃ y, ws.getD t 0 = y := ⟨_, rfl⟩
      rw [hy] at hcx' hle
      have HYE := Lib.hid hy
      have HB := Lib.hid hb
      have HJ := Lib.hid hJ
      have hyi : (y : Int) ≤ 8 := by omega
      clear hb hJ hcx hxb hy hle
      gi_wp2
      gi_loopw [14] (fun k wx => ∃ q : Nat, q ≤ y ∧ k = num q ∧ Below n₀ W wx ∧ J (placesTo ws t ++ placesAt t q) wx) (fun k _ => y - (intOf k).toNat)
      case atStart => exact ⟨0, Nat.zero_le _, rfl, HB.out, by simpa [placesAt] using HJ.out⟩
      case round =>
        obtain ⟨q, hq, rfl, hb, hJ⟩ := hrel
        by_cases hqy : q < y
        · have hpre := placesTo_step ws hlt (k := q) (by rw [HYE.out]; exact hqy)
          obtain ⟨fn, tmps, assign, body, hyy, hR⟩ := HY.out _ (t, 8 * q) wr hJ hpre
          obtain ⟨z, hz⟩ : ∃ z, 8 * q = z := ⟨_, rfl⟩
          rw [hz] at hyy hR hpre
          have hq8 : (8 : Int) * q = (z : Int) := by omega
          have hqi : (q : Int) ≤ 8 := by omega
          have HZ := Lib.hid hz
          have HR := Lib.hid hR
          have HP := Lib.hid hpre
          have HB2 := Lib.hid hb
          dsimp only at hyy
          clear hR hb hJ hpre hz
          gi_wp2
          refine HR.out.mono ?_
          rintro e W3 (⟨rfl, hJ3, hk3⟩ | ⟨rfl, hJx3⟩)
          · have R := Lib.hid (And.intro hk3 hJ3)
            clear hk3 hJ3 HR
            gi_wp2
            go_roundw
            case rel => exact ⟨q + 1, by omega, by go_num, HB2.out.trans R.out.1, by rw [placesAt_succ, ← List.append_assoc, HZ.out]; exact R.out.2⟩
            case measure => simp [intOf]; omega
          · have R := Lib.hid hJx3
            clear hJx3 HR
            gi_wp2
            exact bodyPost_ret (results_none rfl _ _ _) rfl ⟨⟨_, rfl⟩, .inr ⟨_, HP.out, R.out⟩⟩
        · obtain rfl : q = y := by omega
          have R := Lib.hid (And.intro hb hJ)
          clear hb hJ
          gi_wp2
          go_roundw
          case rel => exact ⟨t + 1, by omega, by go_num, R.out.1, by rw [placesTo_succ, HYE.out]; exact R.out.2⟩
          case measure => simp [intOf]; omega
    · obtain rfl : t = ws.length := by omega
      gi_wp2
      go_end0
      exact ⟨⟨_, rfl⟩, .inl ⟨_, rfl, hJ⟩⟩

/-- Each place is one of a number that is there. -/
theorem placesTo_mem {ws : List Nat} (hw8 : ∀ x ∈ ws, x ≤ 8) : ∀ t, t ≤ ws.length → ∀ p ∈ placesTo ws t, p.1 < ws.length ∧ p.2 ≤ 56 := by
  intro t ht p hp
  unfold placesTo at hp
  obtain ⟨i, hi, hp⟩ := List.mem_flatMap.1 hp
  unfold placesAt at hp
  obtain ⟨j, hj, rfl⟩ := List.mem_map.1 hp
  have hi := List.mem_range.1 hi
  have hj := List.mem_range.1 hj
  have h8 := hw8 (ws.getD i 0) (by rw [List.getD_eq_getElem?_getD, List.getElem?_eq_getElem (by omega)]; exact List.getElem_mem _)
  exact ⟨by show i < _; omega, by show 8 * j ≤ _; omega⟩
/-- The place of a number's byte, by its own number. -/
def plc (ws : List Nat) (j : Nat) : Nat × Nat := (placesTo ws ws.length).getD j (0, 0)
theorem plc_in {ws : List Nat} (hw8 : ∀ x ∈ ws, x ≤ 8) (h0 : 0 < (placesTo ws ws.length).length) (j : Nat) : (plc ws j).1 < ws.length ∧ (plc ws j).2 ≤ 56 := by
  unfold plc
  rw [List.getD_eq_getElem?_getD]
  by_cases hj : j < (placesTo ws ws.length).length
  · rw [List.getElem?_eq_getElem hj]
    exact placesTo_mem hw8 _ (Nat.le_refl _) _ (List.getElem_mem hj)
  · rw [List.getElem?_eq_none (by omega)]
    refine ⟨?_, by decide⟩
    show 0 < ws.length
    cases ws with
    | nil => simp [placesTo] at h0
    | cons a r => simp
theorem plc_map (ws : List Nat) : (List.range (placesTo ws ws.length).length).map (plc ws) = placesTo ws ws.length := by
  apply List.ext_getElem?
  intro i
  unfold plc
  by_cases hi : i < (placesTo ws ws.length).length
  · simp [hi]
  · simp [hi]
theorem places_stops (n : Nat) (hn : 1 ≤ n) (Bn n₀ : Nat) (ws : List Nat) (A : Option Addr) (cap : Nat) (hw8 : ∀ x ∈ ws, x ≤ 8) (hwl : ws.length ≤ 64) (w : World) (hn₀ : n₀ ≤ w.heap.size)
    (hBn : w.cell? ⟨Bn, 0, none⟩ = some (.slice A ws.length cap)) (hc : ∀ i, i < ws.length → ∃ x, A = some x ∧ w.cell? (x.add i) = some (natv (ws.getD i 0)) ∧ (x.add i).block < n₀) :
    SeqStopsK Fence.wide n Tryz.prog 67 #[ptr Bn] (fun j : Nat => #[natv (plc ws j).1, natv (plc ws j).2]) (Below n₀) (fun ys => ys = List.range (placesTo ws ws.length).length) (fun pre => pre <+: List.range (placesTo ws ws.length).length) (placesTo ws ws.length).length w := fun l J Jx W hW _ _ hY h0 => by
  have hrp : ∀ k, k ≤ (placesTo ws ws.length).length → List.range k <+: List.range (placesTo ws ws.length).length := fun k hk => by
    refine ⟨List.range' k ((placesTo ws ws.length).length - k), ?_⟩
    have h := List.range'_append_1 (s := 0) (m := k) (n := (placesTo ws ws.length).length - k)
    rw [Nat.zero_add, show k + ((placesTo ws ws.length).length - k) = (placesTo ws ws.length).length by omega] at h
    rw [List.range_eq_range', List.range_eq_range', h]
  refine (places1_in n hn l Bn n₀ ws A cap hw8 hwl (fun pre W => pre <+: placesTo ws ws.length ∧ J (List.range pre.length) W) (fun pre W => pre <+: placesTo ws ws.length ∧ Jx (List.range pre.length) W) ?_ W ((hW.cell (p := ⟨Bn, 0, none⟩) (World.block_lt_of_cell? w _ hBn)).trans hBn) (fun i hi => by
    obtain ⟨x, hx, h1, h2⟩ := hc i hi
    exact ⟨x, hx, (hW.cell (p := x.add i) (Nat.lt_of_lt_of_le h2 hn₀)).trans h1, h2⟩) ⟨List.nil_prefix, h0⟩).mono ?_
  · rintro pre x W' ⟨hp, hJ⟩ hpx
    have hlen : pre.length < (placesTo ws ws.length).length := by have := hpx.length_le; simp at this; omega
    have hx : plc ws pre.length = x := by
      obtain ⟨r, hr⟩ := hpx
      unfold plc
      rw [← hr]
      simp
    have h := hY (List.range pre.length) pre.length W' hJ (by simpa using hlen)
    dsimp only at h
    rw [hx] at h
    refine h.mono ?_
    rintro e W3 (⟨rfl, hJ3, hk3⟩ | ⟨rfl, hJx3⟩)
    · exact .inl ⟨rfl, ⟨hpx, by simpa [List.range_succ] using hJ3⟩, hk3⟩
    · exact .inr ⟨rfl, hpx, by simpa [List.range_succ] using hJx3⟩
  · rintro e W3 ⟨hv, ⟨ys, rfl, _, hJ3⟩ | ⟨pre, hpre, _, hJx3⟩⟩
    · exact ⟨hv, .inl ⟨_, rfl, hJ3⟩⟩
    · exact ⟨hv, .inr ⟨_, hrp _ hpre.length_le, hJx3⟩⟩

end Go.Proofs.YtdilchcnfnfdiaaGreatDoor
