/- slots: Load, Next. -/
import Derived.Test.YtdilchcnfnfdiaaGreatDoorTSlots
namespace Go.Proofs.YtdilchcnfnfdiaaGreatDoor
open Go.RowKit

def eOf : Option Sup → Nat
  | none => 0
  | some s => s.e
theorem slotC_e (a : Option Sup) : (slotC a)[1]? = some (.int .u64 (eOf a : Int)) := by cases a <;> rfl
/-- Is the second one the newer one? -/
def newerB (a b : Option Sup) : Bool := b.isSome && (!a.isSome || decide (eOf a < eOf b))
def pick (a b : Option Sup) : Option Sup := if newerB a b then b else a
theorem slotC_size (a : Option Sup) : (slotC a).toList.length = 10 := by cases a <;> rfl
theorem catC_lo (a b : Option Sup) {j : Nat} (h : j < 10) : (catC (slotC a) (slotC b))[j]? = (slotC a)[j]? := by
  unfold catC
  rw [List.getElem?_toArray, List.getElem?_append_left (by rw [slotC_size]; exact h), Array.getElem?_toList]
theorem catC_hi (a b : Option Sup) (j : Nat) : (catC (slotC a) (slotC b))[10 + j]? = (slotC b)[j]? := by
  unfold catC
  rw [List.getElem?_toArray, List.getElem?_append_right (by rw [slotC_size]; omega), slotC_size, Array.getElem?_toList]
  congr 1
  omega
theorem newer_walk (W : World) (p q : Nat) (a b : Option Sup) (hp : W.heap[p]? = some (.cells (catC (slotC a) (slotC b)) 101)) (hq : W.heap[q]? = some (.cells #[.bool a.isSome, .bool b.isSome] 102)) :
    Calls Tryz.prog 47 #[ptr q, ptr p] W fun e w' => e = .returned (.bool (newerB a b)) ∧ w' = W := by
  have c0 : W.cell? ⟨q, 0, none⟩ = some (.bool a.isSome) := by rw [cell_blk hq]; rfl
  have c1 : W.cell? ⟨q, 1, none⟩ = some (.bool b.isSome) := by rw [cell_blk hq]; rfl
  have e0 : W.cell? ⟨p, 1, none⟩ = some (.int .u64 (eOf a : Int)) := by rw [cell_blk hp, catC_lo a b (by decide)]; exact slotC_e a
  have e1 : W.cell? ⟨p, 11, none⟩ = some (.int .u64 (eOf b : Int)) := by rw [cell_blk hp, catC_hi a b 1]; exact slotC_e b
  unfold newerB
  clear hp hq
  generalize eOf a = ea at e0 ⊢
  generalize eOf b = eb at e1 ⊢
  generalize a.isSome = fa at c0 ⊢
  generalize b.isSome = fb at c1 ⊢
  cases fb
  · go_enter Tryz.func47, Tryz.ntmps47
    go_wp2_with fail
    go_ret
    exact ⟨rfl, rfl⟩
  · cases fa
    · go_enter Tryz.func47, Tryz.ntmps47
      go_wp2_with fail
      go_ret
      exact ⟨rfl, rfl⟩
    · by_cases hlt : ea < eb
      · have hlti : (ea : Int) < eb := by omega
        have hd : decide (ea < eb) = true := decide_eq_true hlt
        go_enter Tryz.func47, Tryz.ntmps47
        go_wp2_with fail
        go_ret
        exact ⟨by simp [hlt], rfl⟩
      · have hlti : ¬ (ea : Int) < eb := by omega
        have hd : decide (ea < eb) = false := decide_eq_false hlt
        go_enter Tryz.func47, Tryz.ntmps47
        go_wp2_with fail
        go_ret
        exact ⟨by simp, rfl⟩

def Z20 : Array Value := #[.int .u64 0, .int .u64 0, num 0, num 0, num 0, num 0, .bool false, num 0, num 0, num 0, .int .u64 0, .int .u64 0, num 0, num 0, num 0, num 0, .bool false, num 0, num 0, num 0]
set_option maxRecDepth 100000 in
set_option maxHeartbeats 4000000 in
theorem load_walk {w : World} {d sf m sp n lim : Nat} {safe : Nat → Sec} {bad : Int → Bool} (h : Calm w d sf m sp n lim safe bad) (hn : 2 ≤ n) (hlt : ∀ i, i < 2 → ∀ x ∈ safe i, x < 256) (a b : Option Sup) (hs0 : SlotIs safe bad 0 a) (hs1 : SlotIs safe bad 1 b) (x : Sup) (hx : pick a b = some x) :
    Calls Tryz.prog 17 #[ptr d] w fun r w' => r = .returned (.tuple #[.agg x.cells, num 0]) ∧ Ext w w' := by
  have e0 := (Ext.refl w).alloc (.cells #[.int .u64 0, .int .u64 0, num 0, num 0, num 0, num 0, .bool false, num 0, num 0, num 0] 41)
  have b0 := alloc_new w (.cells #[.int .u64 0, .int .u64 0, num 0, num 0, num 0, num 0, .bool false, num 0, num 0, num 0] 41)
  have h0 := h.keep e0.to_keeps (fun h => h) (fun h => h) (fun h => h) (fun h => h)
  have HD := Lib.hid h0.dead
  have hb0 := both_walk h0 hn hlt a b hs0 hs1
  have hsz : (catC (slotC a) (slotC b)).size = 20 := by
    unfold catC
    rw [List.size_toArray, List.length_append, slotC_size, slotC_size]
  have hon : ∀ v ∈ (catC (slotC a) (slotC b)).toList, v.oneCell' = true := by
    intro v hv
    simp only [catC, List.mem_append] at hv
    rcases hv with hv | hv
    · exact slotC_one a v hv
    · exact slotC_one b v hv
  obtain ⟨C, hC⟩ : ∃ C, catC (slotC a) (slotC b) = C := ⟨_, rfl⟩
  rw [hC] at hb0 hsz hon
  have hi20 : (Tryz.prog.info? 101).map (·.size) = some C.size := by rw [hsz]; kernel_rfl
  have hall : C.all (·.oneCell') = true := by
    have := all_oneCell_toArray hon
    rwa [Array.toArray_toList] at this
  have HB := Lib.hid hb0
  have HI := Lib.hid (And.intro hsz (And.intro hi20 hall))
  have HN := fun W p q h1 h2 => Lib.hid (newer_walk W p q a b h1 h2)
  have HC := Lib.hid hC
  have HX := Lib.hid hx
  clear hb0 hsz hon hi20 hall hx
  simp only [hC] at HN
  clear hC
  have E0 := Lib.hid e0
  have B0 := Lib.hid b0
  clear h h0 hs0 hs1 hlt hn e0 b0
  go_enter Tryz.func17, Tryz.ntmps17
  go_wp2_with fail
  refine HD.out.mono ?_
  rintro e1 w1 ⟨rfl, rfl⟩
  clear HD
  go_wp2_with fail
  refine HB.out.mono ?_
  rintro e2 w2 ⟨rfl, he2⟩
  have E2 := Lib.hid (E0.out.trans he2)
  have B2 := Lib.hid (he2.blk B0.out)
  clear HB E0 B0 he2
  obtain ⟨fa, hfa⟩ : ∃ fa, a.isSome = fa := ⟨_, rfl⟩
  obtain ⟨fb, hfb⟩ : ∃ fb, b.isSome = fb := ⟨_, rfl⟩
  have HFA := Lib.hid (And.intro hfa hfb)
  simp only [hfa, hfb] at HN ⊢
  clear hfa hfb
  have e3 := ((Ext.refl w2).alloc (.cells Z20 101)).alloc (.cells #[.bool false, .bool false] 102)
  have p3 := alloc_old (.cells #[.bool false, .bool false] 102) (alloc_new w2 (.cells Z20 101))
  have q3 := alloc_new (w2.alloc (.cells Z20 101)) (.cells #[.bool false, .bool false] 102)
  rw [size_alloc] at q3
  have th3 : ((w2.alloc (.cells Z20 101)).alloc (.cells #[.bool false, .bool false] 102)).there w2.heap.size 0 C.size := fun j hj => by
    rw [Nat.zero_add]
    rw [HI.out.1] at hj
    refine ⟨?_, free_blk p3 j⟩
    rw [cell_blk p3]
    simp only [Option.isSome_iff_exists]
    exact ⟨_, Array.getElem?_eq_getElem (show j < Z20.size from hj)⟩
  obtain ⟨wz, hwz⟩ : ∃ wz, ((w2.alloc (.cells Z20 101)).alloc (.cells #[.bool false, .bool false] 102)).setCells w2.heap.size 0 C.toList = wz := ⟨_, rfl⟩
  have p4 : wz.heap[w2.heap.size]? = some (.cells C 101) := by rw [← hwz]; exact setAll p3 (by rw [HI.out.1]; rfl)
  have K4 : Keeps (fun q => q = w2.heap.size) ((w2.alloc (.cells Z20 101)).alloc (.cells #[.bool false, .bool false] 102)) wz := by rw [← hwz]; exact keeps_setCells (F := fun q => q = w2.heap.size) rfl _ _ _ (Keeps.refl _ _)
  have q4 : wz.heap[w2.heap.size + 1]? = some (.cells #[.bool false, .bool false] 102) := K4.blk q3 (by omega)
  have r4 : wz.heap[w.heap.size]? = some (.cells #[.int .u64 0, .int .u64 0, num 0, num 0, num 0, num 0, .bool false, num 0, num 0, num 0] 41) := K4.blk (e3.blk B2.out) (by have := block_lt B2.out; omega)
  have e4 : Ext w wz := (E2.out.trans e3).keeps K4 (fun q hq => by subst hq; exact E2.out.size)
  have f0 : wz.frozen? ⟨w2.heap.size + 1, 0, none⟩ = false := free_blk q4 0
  have f1 : wz.frozen? ⟨w2.heap.size + 1, 1, none⟩ = false := free_blk q4 1
  have c0 : wz.cell? ⟨w2.heap.size + 1, 0, none⟩ = some (.bool false) := by rw [cell_blk q4]; rfl
  have c1 : wz.cell? ⟨w2.heap.size + 1, 1, none⟩ = some (.bool false) := by rw [cell_blk q4]; rfl
  have TH := Lib.hid th3
  have HLT0 := Lib.hid (block_lt B2.out)
  have F4 := Lib.hid (And.intro p4 (And.intro q4 (And.intro r4 e4)))
  clear e3 p3 q3 th3 p4 K4 q4 r4 e4 E2 B2
  unfold Z20 at hwz TH
  go_wp2_with (refine wpList_store_mid rfl 101 (.tmp 4) (.tmp 13) rfl w2.heap.size 0 C rfl rfl TH.out HI.out.2.1 HI.out.2.2 ?_)
  obtain ⟨wy, hwy⟩ : ∃ wy, (wz.setCell ⟨w2.heap.size + 1, 0, none⟩ (.bool fa)).setCell ⟨w2.heap.size + 1, 1, none⟩ (.bool fb) = wy := ⟨_, rfl⟩
  have n1 : w2.heap.size ≠ w2.heap.size + 1 := by omega
  have HLT := Lib.hid (show w.heap.size < w2.heap.size from HLT0.out)
  have n2 : w.heap.size ≠ w2.heap.size + 1 := by have := HLT.out; omega
  have F5 := Lib.hid (show wy.heap[w2.heap.size]? = some (.cells C 101) ∧ wy.heap[w2.heap.size + 1]? = some (.cells #[.bool fa, .bool fb] 102) ∧ wy.heap[w.heap.size]? = some (.cells #[.int .u64 0, .int .u64 0, num 0, num 0, num 0, num 0, .bool false, num 0, num 0, num 0] 41) ∧ Ext w wy from by
    obtain ⟨h1, h2, h3, h4⟩ := F4.out
    rw [← hwy]
    exact ⟨(set_far (a := ⟨w2.heap.size + 1, 1, none⟩) n1 _).trans ((set_far (a := ⟨w2.heap.size + 1, 0, none⟩) n1 _).trans h1), set_blk (set_blk h2 0 _) 1 _, (set_far (a := ⟨w2.heap.size + 1, 1, none⟩) n2 _).trans ((set_far (a := ⟨w2.heap.size + 1, 0, none⟩) n2 _).trans h3), (h4.set (p := ⟨w2.heap.size + 1, 0, none⟩) (by have := HLT.out; show w.heap.size ≤ w2.heap.size + 1; omega) _).set (p := ⟨w2.heap.size + 1, 1, none⟩) (by have := HLT.out; show w.heap.size ≤ w2.heap.size + 1; omega) _⟩)
  rw [hwy]
  clear F4 TH f0 f1 c0 c1 hwy hwz n1 n2 HLT0
  refine (HN wy w2.heap.size (w2.heap.size + 1) F5.out.1 F5.out.2.1).out.mono ?_
  rintro e5 w5 ⟨rfl, rfl⟩
  have hfac : w5.cell? ⟨w2.heap.size + 1, 0, none⟩ = some (.bool fa) := by rw [cell_blk F5.out.2.1]; rfl
  clear HN HI
  have hx := HX.out
  unfold pick at hx
  cases hnb : newerB a b
  · rw [hnb, if_neg (by decide)] at hx
    have hpk : slotC a = x.cells := by rw [hx]; rfl
    obtain rfl : fa = true := by rw [← HFA.out.1, hx]; rfl
    clear hx hnb
    have l0 : w5.cell? ⟨w2.heap.size, 0, none⟩ = some (.int .u64 (x.u : Int)) := by rw [cell_blk F5.out.1, ← HC.out, catC_lo a b (show 0 < 10 by decide), hpk]; rfl
    have r0 : w5.cell? ⟨w.heap.size, 0, none⟩ = some (.int .u64 0) := by rw [cell_blk F5.out.2.2.1]; rfl
    have s0 : w5.frozen? ⟨w.heap.size, 0, none⟩ = false := free_blk F5.out.2.2.1 0
    have l1 : w5.cell? ⟨w2.heap.size, 1, none⟩ = some (.int .u64 (x.e : Int)) := by rw [cell_blk F5.out.1, ← HC.out, catC_lo a b (show 1 < 10 by decide), hpk]; rfl
    have r1 : w5.cell? ⟨w.heap.size, 1, none⟩ = some (.int .u64 0) := by rw [cell_blk F5.out.2.2.1]; rfl
    have s1 : w5.frozen? ⟨w.heap.size, 1, none⟩ = false := free_blk F5.out.2.2.1 1
    have l2 : w5.cell? ⟨w2.heap.size, 2, none⟩ = some (natv x.role) := by rw [cell_blk F5.out.1, ← HC.out, catC_lo a b (show 2 < 10 by decide), hpk]; rfl
    have r2 : w5.cell? ⟨w.heap.size, 2, none⟩ = some (num 0) := by rw [cell_blk F5.out.2.2.1]; rfl
    have s2 : w5.frozen? ⟨w.heap.size, 2, none⟩ = false := free_blk F5.out.2.2.1 2
    have l3 : w5.cell? ⟨w2.heap.size, 3, none⟩ = some (natv x.cols) := by rw [cell_blk F5.out.1, ← HC.out, catC_lo a b (show 3 < 10 by decide), hpk]; rfl
    have r3 : w5.cell? ⟨w.heap.size, 3, none⟩ = some (num 0) := by rw [cell_blk F5.out.2.2.1]; rfl
    have s3 : w5.frozen? ⟨w.heap.size, 3, none⟩ = false := free_blk F5.out.2.2.1 3
    have l4 : w5.cell? ⟨w2.heap.size, 4, none⟩ = some (natv x.chunk) := by rw [cell_blk F5.out.1, ← HC.out, catC_lo a b (show 4 < 10 by decide), hpk]; rfl
    have r4 : w5.cell? ⟨w.heap.size, 4, none⟩ = some (num 0) := by rw [cell_blk F5.out.2.2.1]; rfl
    have s4 : w5.frozen? ⟨w.heap.size, 4, none⟩ = false := free_blk F5.out.2.2.1 4
    have l5 : w5.cell? ⟨w2.heap.size, 5, none⟩ = some (natv x.rows) := by rw [cell_blk F5.out.1, ← HC.out, catC_lo a b (show 5 < 10 by decide), hpk]; rfl
    have r5 : w5.cell? ⟨w.heap.size, 5, none⟩ = some (num 0) := by rw [cell_blk F5.out.2.2.1]; rfl
    have s5 : w5.frozen? ⟨w.heap.size, 5, none⟩ = false := free_blk F5.out.2.2.1 5
    have l6 : w5.cell? ⟨w2.heap.size, 6, none⟩ = some (.bool false) := by rw [cell_blk F5.out.1, ← HC.out, catC_lo a b (show 6 < 10 by decide), hpk]; rfl
    have r6 : w5.cell? ⟨w.heap.size, 6, none⟩ = some (.bool false) := by rw [cell_blk F5.out.2.2.1]; rfl
    have s6 : w5.frozen? ⟨w.heap.size, 6, none⟩ = false := free_blk F5.out.2.2.1 6
    have l7 : w5.cell? ⟨w2.heap.size, 7, none⟩ = some (natv x.built) := by rw [cell_blk F5.out.1, ← HC.out, catC_lo a b (show 7 < 10 by decide), hpk]; rfl
    have r7 : w5.cell? ⟨w.heap.size, 7, none⟩ = some (num 0) := by rw [cell_blk F5.out.2.2.1]; rfl
    have s7 : w5.frozen? ⟨w.heap.size, 7, none⟩ = false := free_blk F5.out.2.2.1 7
    have l8 : w5.cell? ⟨w2.heap.size, 8, none⟩ = some (num 0) := by rw [cell_blk F5.out.1, ← HC.out, catC_lo a b (show 8 < 10 by decide), hpk]; rfl
    have r8 : w5.cell? ⟨w.heap.size, 8, none⟩ = some (num 0) := by rw [cell_blk F5.out.2.2.1]; rfl
    have s8 : w5.frozen? ⟨w.heap.size, 8, none⟩ = false := free_blk F5.out.2.2.1 8
    have l9 : w5.cell? ⟨w2.heap.size, 9, none⟩ = some (num 0) := by rw [cell_blk F5.out.1, ← HC.out, catC_lo a b (show 9 < 10 by decide), hpk]; rfl
    have r9 : w5.cell? ⟨w.heap.size, 9, none⟩ = some (num 0) := by rw [cell_blk F5.out.2.2.1]; rfl
    have s9 : w5.frozen? ⟨w.heap.size, 9, none⟩ = false := free_blk F5.out.2.2.1 9
    have nrp : w.heap.size ≠ w2.heap.size := by have := HLT.out; omega
    have hE := F5.out.2.2.2
    have HE := Lib.hid hE
    clear hpk F5 hE
    go_wp2_with fail
    refine bodyPost_ret (v := .tuple #[.agg x.cells, num 0]) (by unfold Sup.cells supC; simp [results, Tryz.results17, go_sem, r0, r1, r2, r3, r4, r5, r6, r7, r8, r9]) rfl ⟨rfl, ((((((((((HE.out.set (p := ⟨w.heap.size, 0, none⟩) (Nat.le_refl _) _).set (p := ⟨w.heap.size, 1, none⟩) (Nat.le_refl _) _).set (p := ⟨w.heap.size, 2, none⟩) (Nat.le_refl _) _).set (p := ⟨w.heap.size, 3, none⟩) (Nat.le_refl _) _).set (p := ⟨w.heap.size, 4, none⟩) (Nat.le_refl _) _).set (p := ⟨w.heap.size, 5, none⟩) (Nat.le_refl _) _).set (p := ⟨w.heap.size, 6, none⟩) (Nat.le_refl _) _).set (p := ⟨w.heap.size, 7, none⟩) (Nat.le_refl _) _).set (p := ⟨w.heap.size, 8, none⟩) (Nat.le_refl _) _).set (p := ⟨w.heap.size, 9, none⟩) (Nat.le_refl _) _)⟩
  · rw [hnb, if_pos rfl] at hx
    have hpk : slotC b = x.cells := by rw [hx]; rfl
    clear hx hnb hfac
    have l0 : w5.cell? ⟨w2.heap.size, 10, none⟩ = some (.int .u64 (x.u : Int)) := by rw [cell_blk F5.out.1, ← HC.out, catC_hi a b 0, hpk]; rfl
    have r0 : w5.cell? ⟨w.heap.size, 0, none⟩ = some (.int .u64 0) := by rw [cell_blk F5.out.2.2.1]; rfl
    have s0 : w5.frozen? ⟨w.heap.size, 0, none⟩ = false := free_blk F5.out.2.2.1 0
    have l1 : w5.cell? ⟨w2.heap.size, 11, none⟩ = some (.int .u64 (x.e : Int)) := by rw [cell_blk F5.out.1, ← HC.out, catC_hi a b 1, hpk]; rfl
    have r1 : w5.cell? ⟨w.heap.size, 1, none⟩ = some (.int .u64 0) := by rw [cell_blk F5.out.2.2.1]; rfl
    have s1 : w5.frozen? ⟨w.heap.size, 1, none⟩ = false := free_blk F5.out.2.2.1 1
    have l2 : w5.cell? ⟨w2.heap.size, 12, none⟩ = some (natv x.role) := by rw [cell_blk F5.out.1, ← HC.out, catC_hi a b 2, hpk]; rfl
    have r2 : w5.cell? ⟨w.heap.size, 2, none⟩ = some (num 0) := by rw [cell_blk F5.out.2.2.1]; rfl
    have s2 : w5.frozen? ⟨w.heap.size, 2, none⟩ = false := free_blk F5.out.2.2.1 2
    have l3 : w5.cell? ⟨w2.heap.size, 13, none⟩ = some (natv x.cols) := by rw [cell_blk F5.out.1, ← HC.out, catC_hi a b 3, hpk]; rfl
    have r3 : w5.cell? ⟨w.heap.size, 3, none⟩ = some (num 0) := by rw [cell_blk F5.out.2.2.1]; rfl
    have s3 : w5.frozen? ⟨w.heap.size, 3, none⟩ = false := free_blk F5.out.2.2.1 3
    have l4 : w5.cell? ⟨w2.heap.size, 14, none⟩ = some (natv x.chunk) := by rw [cell_blk F5.out.1, ← HC.out, catC_hi a b 4, hpk]; rfl
    have r4 : w5.cell? ⟨w.heap.size, 4, none⟩ = some (num 0) := by rw [cell_blk F5.out.2.2.1]; rfl
    have s4 : w5.frozen? ⟨w.heap.size, 4, none⟩ = false := free_blk F5.out.2.2.1 4
    have l5 : w5.cell? ⟨w2.heap.size, 15, none⟩ = some (natv x.rows) := by rw [cell_blk F5.out.1, ← HC.out, catC_hi a b 5, hpk]; rfl
    have r5 : w5.cell? ⟨w.heap.size, 5, none⟩ = some (num 0) := by rw [cell_blk F5.out.2.2.1]; rfl
    have s5 : w5.frozen? ⟨w.heap.size, 5, none⟩ = false := free_blk F5.out.2.2.1 5
    have l6 : w5.cell? ⟨w2.heap.size, 16, none⟩ = some (.bool false) := by rw [cell_blk F5.out.1, ← HC.out, catC_hi a b 6, hpk]; rfl
    have r6 : w5.cell? ⟨w.heap.size, 6, none⟩ = some (.bool false) := by rw [cell_blk F5.out.2.2.1]; rfl
    have s6 : w5.frozen? ⟨w.heap.size, 6, none⟩ = false := free_blk F5.out.2.2.1 6
    have l7 : w5.cell? ⟨w2.heap.size, 17, none⟩ = some (natv x.built) := by rw [cell_blk F5.out.1, ← HC.out, catC_hi a b 7, hpk]; rfl
    have r7 : w5.cell? ⟨w.heap.size, 7, none⟩ = some (num 0) := by rw [cell_blk F5.out.2.2.1]; rfl
    have s7 : w5.frozen? ⟨w.heap.size, 7, none⟩ = false := free_blk F5.out.2.2.1 7
    have l8 : w5.cell? ⟨w2.heap.size, 18, none⟩ = some (num 0) := by rw [cell_blk F5.out.1, ← HC.out, catC_hi a b 8, hpk]; rfl
    have r8 : w5.cell? ⟨w.heap.size, 8, none⟩ = some (num 0) := by rw [cell_blk F5.out.2.2.1]; rfl
    have s8 : w5.frozen? ⟨w.heap.size, 8, none⟩ = false := free_blk F5.out.2.2.1 8
    have l9 : w5.cell? ⟨w2.heap.size, 19, none⟩ = some (num 0) := by rw [cell_blk F5.out.1, ← HC.out, catC_hi a b 9, hpk]; rfl
    have r9 : w5.cell? ⟨w.heap.size, 9, none⟩ = some (num 0) := by rw [cell_blk F5.out.2.2.1]; rfl
    have s9 : w5.frozen? ⟨w.heap.size, 9, none⟩ = false := free_blk F5.out.2.2.1 9
    have nrp : w.heap.size ≠ w2.heap.size := by have := HLT.out; omega
    have hE := F5.out.2.2.2
    have HE := Lib.hid hE
    clear hpk F5 hE
    go_wp2_with fail
    refine bodyPost_ret (v := .tuple #[.agg x.cells, num 0]) (by unfold Sup.cells supC; simp [results, Tryz.results17, go_sem, r0, r1, r2, r3, r4, r5, r6, r7, r8, r9]) rfl ⟨rfl, ((((((((((HE.out.set (p := ⟨w.heap.size, 0, none⟩) (Nat.le_refl _) _).set (p := ⟨w.heap.size, 1, none⟩) (Nat.le_refl _) _).set (p := ⟨w.heap.size, 2, none⟩) (Nat.le_refl _) _).set (p := ⟨w.heap.size, 3, none⟩) (Nat.le_refl _) _).set (p := ⟨w.heap.size, 4, none⟩) (Nat.le_refl _) _).set (p := ⟨w.heap.size, 5, none⟩) (Nat.le_refl _) _).set (p := ⟨w.heap.size, 6, none⟩) (Nat.le_refl _) _).set (p := ⟨w.heap.size, 7, none⟩) (Nat.le_refl _) _).set (p := ⟨w.heap.size, 8, none⟩) (Nat.le_refl _) _).set (p := ⟨w.heap.size, 9, none⟩) (Nat.le_refl _) _)⟩

end Go.Proofs.YtdilchcnfnfdiaaGreatDoor
