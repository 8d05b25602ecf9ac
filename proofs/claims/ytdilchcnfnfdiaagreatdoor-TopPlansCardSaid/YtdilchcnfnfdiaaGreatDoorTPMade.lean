/- Layer 15: a row is made. -/
import Derived.Test.YtdilchcnfnfdiaaGreatDoorTPWays
namespace Go.Proofs.YtdilchcnfnfdiaaGreatDoor
open Go.RowKit

/-- Which roles are lost. -/
def lsOf (n : Nat) (lo : List Int) : List Bool := (List.range (n + 2)).map fun (i : Nat) => lo.contains (i : Int)
theorem lsOf_len (n : Nat) (lo : List Int) : (lsOf n lo).length = n + 2 := by simp [lsOf]
theorem lsOf_get {n : Nat} (lo : List Int) {i : Nat} (h : i < n + 2) : (lsOf n lo).getD i false = lo.contains (i : Int) := by simp [lsOf, List.getD_eq_getElem?_getD, h]
structure GoodLost (n : Nat) (lo : List Int) : Prop where
  inn : ∀ x ∈ lo, ∃ m : Nat, m < n + 2 ∧ x = (m : Int)
  nodup : lo.Nodup
  few : lo.length ≤ 3
theorem GoodLost.at {n : Nat} {lo : List Int} (h : GoodLost n lo) {k : Nat} (hk : k < lo.length) : ∃ m : Nat, m < n + 2 ∧ lo.getD k 0 = (m : Int) ∧ (lsOf n (lo.take k)).getD m false = false ∧ lsOf n (lo.take (k + 1)) = (lsOf n (lo.take k)).set m true := by
  have hmem : lo.getD k 0 ∈ lo := by
    rw [List.getD_eq_getElem?_getD, List.getElem?_eq_getElem hk]
    exact List.getElem_mem hk
  obtain ⟨m, hm, he⟩ := h.inn _ hmem
  have hg : lo[k] = (m : Int) := by rw [← he]; simp [List.getD_eq_getElem?_getD, hk]
  refine ⟨m, hm, he, ?_, ?_⟩
  · rw [lsOf_get _ hm]
    apply Bool.eq_false_iff.2
    intro hc
    have hc' : (m : Int) ∈ lo.take k := by simpa using hc
    obtain ⟨j, hj, hjm⟩ := List.getElem_of_mem hc'
    simp only [List.length_take] at hj
    rw [List.getElem_take] at hjm
    have := (List.getElem_inj (h₀ := by omega) (h₁ := hk) h.nodup).1 (hjm.trans hg.symm)
    omega
  · apply List.ext_getElem?
    intro i
    by_cases hi : i < n + 2
    · rw [List.getElem?_set]
      simp only [lsOf, List.getElem?_map, List.getElem?_range hi, Option.map_some, List.take_succ_eq_append_getElem hk, hg]
      by_cases hmi : m = i
      · subst hmi; simp [hi]
      · simp only [hmi, if_false]
        congr 1
        rw [Bool.eq_iff_iff]
        simp
        omega
    · rw [List.getElem?_eq_none (by simp [lsOf_len]; omega), List.getElem?_eq_none (by simp [lsOf_len]; omega)]
theorem lsOf_nil (n : Nat) : bools (lsOf n []) = List.replicate (n + 2) (Value.bool false) := by
  simp only [bools, lsOf, List.map_map]
  apply List.ext_getElem?
  intro i
  by_cases hi : i < n + 2
  · simp [hi]
  · rw [List.getElem?_eq_none (by simp; omega), List.getElem?_eq_none (by simp; omega)]

theorem make_bools (m : Nat) (hm : m ≤ 10) (W : World) : (Instr.makeSlice 58 (num m) (num m)).run Tryz.prog W = .ok (.slice (some ⟨W.heap.size, 0, none⟩) m m) (W.alloc (.cells (List.replicate m (Value.bool false)).toArray 4)) :=
  match m, hm with
  | 0, _ => by kernel_rfl
  | 1, _ => by kernel_rfl
  | 2, _ => by kernel_rfl
  | 3, _ => by kernel_rfl
  | 4, _ => by kernel_rfl
  | 5, _ => by kernel_rfl
  | 6, _ => by kernel_rfl
  | 7, _ => by kernel_rfl
  | 8, _ => by kernel_rfl
  | 9, _ => by kernel_rfl
  | 10, _ => by kernel_rfl

def lostObj (n : Nat) (lo : List Int) : Obj := .cells (bools (lsOf n lo)).toArray 4
def MadeRel (w w1 : World) (n : Nat) (lo : List Int) (j : Value) (wr : World) : Prop :=
  ∃ k : Nat, k ≤ lo.length ∧ j = num k ∧ wr.heap[w.heap.size + 1]? = some (lostObj n (lo.take k)) ∧ Keeps (fun i => i = w.heap.size + 1) w1 wr ∧ Ext w wr

set_option maxRecDepth 100000 in
theorem made_walk {w : World} {n : Nat} {wv v : Value} {ws : List Bool} {lo : List Int} (h2 : 2 ≤ n) (h8 : n ≤ 8) (hw : RdB w wv ws) (hn : ws.length = n) (hv : RdI w v lo) (hg : GoodLost n lo) :
    Calls Tryz.prog 58 #[num n, wv, v] w fun e w' => ∃ lv, e = .returned (.tuple #[.agg #[num n, wv, lv], .bool true]) ∧ RowV w' n wv lv ws (lsOf n lo) ∧ Ext w w' := by
  obtain ⟨A, cap, rfl, hc, hA⟩ := hv
  obtain ⟨A', cap', rfl, hc', hA'⟩ := hw
  rw [hn]
  have HA := Lib.hid hA
  have HA' := Lib.hid hA'
  have HG := Lib.hid hg
  have few := hg.few
  clear hA hA' hg
  have q1 : ((n : Int) != (n : Int)) = false := by simp
  have hmk : ∀ W : World, (Instr.makeSlice 58 (.int .i64 ((n : Int) + 2)) (.int .i64 ((n : Int) + 2))).run Tryz.prog W = .ok (.slice (some ⟨W.heap.size, 0, none⟩) (n + 2) (n + 2)) (W.alloc (.cells (List.replicate (n + 2) (Value.bool false)).toArray 4)) := fun W => make_bools (n + 2) (by omega) W
  go_enter Tryz.func58, Tryz.ntmps58
  go_wp2_with fail
  have e0 := Lib.hid ((((Ext.refl w).alloc (.cells #[.int .i64 0, .slice none 0 0, .slice none 0 0] 122)).alloc (.cells (Array.replicate (n + 2) (Value.bool false)) 4)).alloc (.cells #[.int .i64 n, .slice A' n cap', .slice (some ⟨w.heap.size + 1, 0, none⟩) (n + 2) (n + 2)] 122))
  have b0 := Lib.hid (alloc_old (.cells #[.int .i64 n, .slice A' n cap', .slice (some ⟨w.heap.size + 1, 0, none⟩) (n + 2) (n + 2)] 122) (alloc_old (.cells (Array.replicate (n + 2) (Value.bool false)) 4) (alloc_new w (.cells #[.int .i64 0, .slice none 0 0, .slice none 0 0] 122))))
  have b1 := alloc_old (.cells #[.int .i64 n, .slice A' n cap', .slice (some ⟨w.heap.size + 1, 0, none⟩) (n + 2) (n + 2)] 122) (alloc_new (w.alloc (.cells #[.int .i64 0, .slice none 0 0, .slice none 0 0] 122)) (.cells (Array.replicate (n + 2) (Value.bool false)) 4))
  have b2 := alloc_new ((w.alloc (.cells #[.int .i64 0, .slice none 0 0, .slice none 0 0] 122)).alloc (.cells (Array.replicate (n + 2) (Value.bool false)) 4)) (.cells #[.int .i64 n, .slice A' n cap', .slice (some ⟨w.heap.size + 1, 0, none⟩) (n + 2) (n + 2)] 122)
  simp only [size_alloc] at b1 b2
  have B1 := Lib.hid b1
  have B2 := Lib.hid b2
  clear b1 b2
  generalize ((w.alloc (.cells #[.int .i64 0, .slice none 0 0, .slice none 0 0] 122)).alloc (.cells (Array.replicate (n + 2) (Value.bool false)) 4)).alloc (.cells #[.int .i64 n, .slice A' n cap', .slice (some ⟨w.heap.size + 1, 0, none⟩) (n + 2) (n + 2)] 122) = w1 at e0 b0 B1 B2 ⊢
  clear hmk
  go_loopw [32] (fun j wr => MadeRel w w1 n lo j wr) (fun j _ => lo.length - (intOf j).toNat)
  case atStart =>
    refine ⟨0, Nat.zero_le _, rfl, ?_, Keeps.refl _ _, e0.out⟩
    rw [B1.out]
    simp only [lostObj, List.take_zero, lsOf_nil]
    simp
  case round =>
    obtain ⟨k, hk, rfl, hl, hkp, he⟩ := hrel
    have c2 : wr.cell? ⟨w.heap.size + 1 + 1, 2, none⟩ = some (.slice (some ⟨w.heap.size + 1, 0, none⟩) (n + 2) (n + 2)) := by rw [cell_blk (hkp.blk B2.out (by omega))]; rfl
    by_cases hlt : k < lo.length
    · obtain ⟨x, rfl, hc0⟩ := HA.out k hlt
      obtain ⟨m, hm, hz, hfree, hnext⟩ := HG.out.at hlt
      rw [hz] at hc0
      have c0 := he.cell hc0
      have cm : wr.cell? ⟨w.heap.size + 1, m, none⟩ = some (.bool false) := by
        rw [cell_blk hl]
        have hml : m < (lsOf n (lo.take k)).length := by rw [lsOf_len]; exact hm
        have h1 := hfree
        rw [List.getD_eq_getElem?_getD, List.getElem?_eq_getElem hml, Option.getD_some] at h1
        simp [bools, hml, h1]
      have cf : wr.frozen? ⟨w.heap.size + 1, m, none⟩ = false := free_blk hl m
      have R := Lib.hid (show MadeRel w w1 n lo (num ((k : Int) + 1)) (wr.setCell ⟨w.heap.size + 1, m, none⟩ (.bool true)) from by
        refine ⟨k + 1, by omega, by go_num, ?_, hkp.set (.inl rfl) _, he.set (Nat.le_succ _) _⟩
        rw [set_blk hl]
        simp only [lostObj, hnext]
        simp [bools, List.map_set])
      clear HA HA' HG hc0 hz hfree hnext hl hkp he b0 B1 B2 e0
      go_wp2
      go_roundw
      case rel => exact R.out
      case measure => simp [intOf]; omega
    · obtain rfl : k = lo.length := by omega
      rw [List.take_length] at hl
      have cr := hkp.blk B2.out (by omega)
      have cb := hkp.blk b0.out (by omega)
      have d0 : wr.cell? ⟨w.heap.size, 0, none⟩ = some (.int .i64 0) := by rw [cell_blk cb]; rfl
      have d1 : wr.cell? ⟨w.heap.size, 1, none⟩ = some (.slice none 0 0) := by rw [cell_blk cb]; rfl
      have d2 : wr.cell? ⟨w.heap.size, 2, none⟩ = some (.slice none 0 0) := by rw [cell_blk cb]; rfl
      have g0 : wr.frozen? ⟨w.heap.size, 0, none⟩ = false := free_blk cb 0
      have g1 : wr.frozen? ⟨w.heap.size, 1, none⟩ = false := free_blk cb 1
      have g2 : wr.frozen? ⟨w.heap.size, 2, none⟩ = false := free_blk cb 2
      have c0 : wr.cell? ⟨w.heap.size + 1 + 1, 0, none⟩ = some (num n) := by rw [cell_blk cr]; rfl
      have c1 : wr.cell? ⟨w.heap.size + 1 + 1, 1, none⟩ = some (.slice A' n cap') := by rw [cell_blk cr]; rfl
      have HE := Lib.hid he
      have HL := Lib.hid hl
      have HB := Lib.hid (set_blk (set_blk (set_blk cb 0 (num n)) 1 (.slice A' n cap')) 2 (.slice (some ⟨w.heap.size + 1, 0, none⟩) (n + 2) (n + 2)))
      clear HG HA b0 B1 B2 e0 cr cb hkp he hl
      go_wp2
      have b := HB.out
      have D0 := cell_blk b 0
      have D1 := cell_blk b 1
      have D2 := cell_blk b 2
      have e3 := ((HE.out.set (p := ⟨w.heap.size, 0, none⟩) (Nat.le_refl _) (num n)).set (p := ⟨w.heap.size, 1, none⟩) (Nat.le_refl _) (.slice A' n cap')).set (p := ⟨w.heap.size, 2, none⟩) (Nat.le_refl _) (.slice (some ⟨w.heap.size + 1, 0, none⟩) (n + 2) (n + 2))
      have hL : (((wr.setCell ⟨w.heap.size, 0, none⟩ (num n)).setCell ⟨w.heap.size, 1, none⟩ (.slice A' n cap')).setCell ⟨w.heap.size, 2, none⟩ (.slice (some ⟨w.heap.size + 1, 0, none⟩) (n + 2) (n + 2))).heap[w.heap.size + 1]? = some (lostObj n lo) := by
        rw [set_far (Nat.succ_ne_self _), set_far (Nat.succ_ne_self _), set_far (Nat.succ_ne_self _)]
        exact HL.out
      generalize ((wr.setCell ⟨w.heap.size, 0, none⟩ (num n)).setCell ⟨w.heap.size, 1, none⟩ (.slice A' n cap')).setCell ⟨w.heap.size, 2, none⟩ (.slice (some ⟨w.heap.size + 1, 0, none⟩) (n + 2) (n + 2)) = w3 at b D0 D1 D2 e3 hL ⊢
      refine bodyPost_ret (v := .tuple #[.agg #[num n, .slice A' n cap', .slice (some ⟨w.heap.size + 1, 0, none⟩) (n + 2) (n + 2)], .bool true]) (by simp [results, Tryz.results58, go_sem, D0, D1, D2]) rfl ⟨.slice (some ⟨w.heap.size + 1, 0, none⟩) (n + 2) (n + 2), rfl, ⟨?_, ?_, hn, lsOf_len n lo, h8⟩, e3⟩
      · exact Rd.ext ⟨A', cap', by rw [hn], hc', HA'.out⟩ e3
      · refine ⟨some ⟨w.heap.size + 1, 0, none⟩, n + 2, by rw [lsOf_len], by rw [lsOf_len]; exact Nat.le_refl _, fun i hi => ⟨_, rfl, ?_⟩⟩
        rw [zero_add, cell_blk hL]
        simp [bools, hi]

end Go.Proofs.YtdilchcnfnfdiaaGreatDoor
