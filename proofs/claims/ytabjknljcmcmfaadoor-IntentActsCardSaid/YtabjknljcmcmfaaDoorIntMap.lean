/- Layer 10: a map of regions in memory; Region, New, Regions. -/
import Derived.Test.YtabjknljcmcmfaaDoorRd
import Derived.Test.YtabjknljcmcmfaaDoorBits
import Derived.Laws.OwnMore
import Derived.BigRegion
import Derived.Deep.RegionHeld
namespace Go.Proofs.YtabjknljcmcmfaaDoor
open Go.RowKit

/-- How many regions so many rows have. -/
def regs (rows : Nat) : Nat := (rows - 1) / 4 + 1
/-- A map: its block m, the block bz of its counters. -/
structure MapV (w : World) (m bz rows stain : Nat) (busy : List Int) : Prop where
  blk : w.heap[m]? = some (.cells #[num rows, .int .u64 stain, .slice (some ⟨bz, 0, none⟩) (regs rows) (regs rows)] 51)
  cnt : w.heap[bz]? = some (.cells (nums busy).toArray 3)
  ne : m ≠ bz
  len : busy.length = regs rows
  small : stain < two64
  row1 : 1 ≤ rows
  row2 : rows ≤ 256
theorem MapV.keep {w w' : World} {m bz rows stain : Nat} {busy : List Int} (h : MapV w m bz rows stain busy) {F : Nat → Prop} (k : Keeps F w w') (h1 : ¬ F m) (h2 : ¬ F bz) : MapV w' m bz rows stain busy :=
  ⟨k.blk h.blk h1, k.blk h.cnt h2, h.ne, h.len, h.small, h.row1, h.row2⟩
theorem MapV.ext {w w' : World} {m bz rows stain : Nat} {busy : List Int} (h : MapV w m bz rows stain busy) (e : Ext w w') : MapV w' m bz rows stain busy := h.keep e.to_keeps (fun h => h) (fun h => h)
theorem regs_le {rows : Nat} (h : rows ≤ 256) : regs rows ≤ 64 := by unfold regs; omega

theorem region_walk (r : Nat) (w : World) (hr : r ≤ 1048576) : Calls Tryd.prog 9 #[num r] w fun e w' => e = .returned (num ((r / 4 : Nat) : Int)) ∧ w' = w := by
  have hmax : max (r : Int) 0 = (r : Int) := by omega
  have hq : wrap64 ((r : Int) / 4) = (r : Int) / 4 := by unfold wrap64; omega
  go_enter Tryd.func9, Tryd.ntmps9
  go_wp2
  go_ret
  exact ⟨by simp, rfl⟩
theorem regions_walk {w : World} {m bz rows stain : Nat} {busy : List Int} (h : MapV w m bz rows stain busy) : Calls Tryd.prog 10 #[ptr m] w fun e w' => e = .returned (num (regs rows : Nat)) ∧ w' = w := by
  have c2 : w.cell? ⟨m, 2, none⟩ = some (.slice (some ⟨bz, 0, none⟩) (regs rows) (regs rows)) := by rw [cell_blk h.blk]; rfl
  clear h
  go_enter Tryd.func10, Tryd.ntmps10
  go_wp2
  go_ret
  exact ⟨rfl, rfl⟩

theorem make_ints (n : Nat) (hn : n ≤ 64) (W : World) : (Instr.makeSlice 35 (num n) (num n)).run Tryd.prog W = .ok (.slice (some ⟨W.heap.size, 0, none⟩) n n) (W.alloc (.cells (madeCells #[num 0] n) 3)) := by
  obtain ⟨i, hi, hz0, hz1, hz2⟩ := info_parts Tryd.iInt
  have h := run_make (P := Tryd.prog) (w := W) 35 3 i (num 0) Tryd.uInts hi hz0 .i64 .i64 (n : Int) (n : Int) (by omega) (by omega) (by rw [hz2]; omega) (by omega)
  rw [hz1, Int.toNat_natCast, Nat.mul_one] at h
  exact h
theorem made_nums (n : Nat) : madeCells #[num 0] n = (nums (List.replicate n 0)).toArray := by
  apply Array.ext
  · simp [madeCells, nums]
  · intro i h1 h2
    simp [madeCells, nums, Nat.mod_one]

set_option maxRecDepth 100000 in
theorem new_walk (n : Nat) (w : World) (h1 : 1 ≤ n) (h2 : n ≤ 256) :
    Calls Tryd.prog 7 #[num n] w fun e w' => ∃ m bz, e = .returned (ptr m) ∧ MapV w' m bz n 0 (List.replicate (regs n) 0) ∧ w.heap.size ≤ m ∧ w.heap.size ≤ bz ∧ Ext w w' := by
  have HR := Lib.hid (region_walk (n - 1) w (by omega))
  have hn : (n : Int) - 1 = ((n - 1 : Nat) : Int) := by omega
  have hmk : ∀ W : World, (Instr.makeSlice 35 (.int .i64 (((n - 1 : Nat) : Int) / 4 + 1)) (.int .i64 (((n - 1 : Nat) : Int) / 4 + 1))).run Tryd.prog W = .ok (.slice (some ⟨W.heap.size, 0, none⟩) (regs n) (regs n)) (W.alloc (.cells (madeCells #[num 0] (regs n)) 3)) := fun W => by
    have h := make_ints (regs n) (regs_le h2) W
    rw [show ((regs n : Nat) : Int) = ((n - 1 : Nat) : Int) / 4 + 1 by unfold regs; omega] at h
    exact h
  go_enter Tryd.func7, Tryd.ntmps7
  go_wp2_with fail
  refine HR.out.mono ?_
  rintro e w1 ⟨rfl, rfl⟩
  clear HR hn
  go_wp2_with fail
  have b1 := alloc_old (.cells #[num n, .int .u64 0, .slice (some ⟨w1.heap.size, 0, none⟩) (regs n) (regs n)] 51) (alloc_new w1 (.cells (madeCells #[num 0] (regs n)) 3))
  have b2 := alloc_new (w1.alloc (.cells (madeCells #[num 0] (regs n)) 3)) (.cells #[num n, .int .u64 0, .slice (some ⟨w1.heap.size, 0, none⟩) (regs n) (regs n)] 51)
  rw [size_alloc] at b2
  go_ret
  refine ⟨w1.heap.size + 1, w1.heap.size, rfl, ⟨b2, ?_, by omega, by simp, by decide, h1, h2⟩, by omega, Nat.le_refl _, ((Ext.refl w1).alloc _).alloc _⟩
  rw [← made_nums]
  exact b1

/-! ### at: a function of a region, at a row's region -/
section
variable {w : World} {m bz rows stain : Nat} {busy : List Int} (h : MapV w m bz rows stain busy)
include h
theorem at_in (row k : Nat) (c1 c2 : Value) (R : Ending → World → Prop) (hr : row < rows) (hrun : ∀ args W, (callFunc k args).run Tryd.prog W = .ok (.enter k args) W) (hv : ∀ e w', R e w' → ∃ v, e = .returned v)
    (hk : Calls Tryd.prog k #[num ((row / 4 : Nat) : Int), c1, c2] w R) : Calls Tryd.prog 24 #[ptr m, num row, .func (.func k) #[] #[c1, c2]] w R := by
  have c0 : w.cell? ⟨m, 0, none⟩ = some (num rows) := by rw [cell_blk h.blk]; rfl
  have hb := h.row2
  have HR := Lib.hid (region_walk row w (by omega))
  have HK := Lib.hid hk
  have HV := Lib.hid hv
  have hlt : (row : Int) < (rows : Int) := by omega
  clear hk hv h
  go_enter Tryd.func24, Tryd.ntmps24
  go_wp2_with fail
  refine HR.out.mono ?_
  rintro e w1 ⟨rfl, rfl⟩
  clear HR
  go_wp2_with fail
  rw [show (row : Int) / 4 = ((row / 4 : Nat) : Int) by omega]
  refine HK.out.mono ?_
  intro e w2 hR
  obtain ⟨v, rfl⟩ := HV.out e w2 hR
  have HR := Lib.hid hR
  clear hR HK HV
  go_wp2
  exact HR.out
theorem at_out (row : Nat) (f : Value) (hr : rows ≤ row) : Calls Tryd.prog 24 #[ptr m, num row, f] w fun e w' => e = .returned (num 70) ∧ w' = w := by
  have c0 : w.cell? ⟨m, 0, none⟩ = some (num rows) := by rw [cell_blk h.blk]; rfl
  have hlt : (rows : Int) ≤ (row : Int) := by omega
  clear h
  go_enter Tryd.func24, Tryd.ntmps24
  go_wp2
  exact bodyPost_ret (v := num 70) (by simp [results, Tryd.results24, go_sem]) rfl ⟨rfl, rfl⟩
end

/-! ### Start's function -/
theorem bit_low (x r : Nat) (hx : x < two64) : bits BinOp.and IntKind.u64 ((x : Int) / 2 ^ r) 1 = if x.testBit r = true then 1 else 0 := by
  have e : (x : Int) / 2 ^ r = ((x / 2 ^ r : Nat) : Int) := by simp
  have hlt : x / 2 ^ r < 18446744073709551616 := Nat.lt_of_le_of_lt (Nat.div_le_self _ _) hx
  have h := u64_and_nat (x / 2 ^ r) 1 hlt (by decide)
  rw [e]
  rw [show ((1 : Nat) : Int) = 1 from rfl] at h
  rw [h, Nat.and_one_is_mod, Nat.testBit_eq_decide_div_mod_eq]
  have : x / 2 ^ r % 2 < 2 := Nat.mod_lt _ (by decide)
  split <;> simp_all <;> omega
theorem or_bit (x r : Nat) (hx : x < two64) (hr : r < 64) : bits BinOp.or IntKind.u64 (x : Int) (IntKind.u64.wrap (2 ^ r)) = ((x ||| 2 ^ r : Nat) : Int) := by
  have h2 : 2 ^ r < 18446744073709551616 := Nat.pow_lt_pow_right (by decide) hr
  have e : IntKind.u64.wrap ((2 : Int) ^ r) = ((2 ^ r : Nat) : Int) := by
    rw [IntKind.wrap_u64, show ((2 : Int) ^ r) = ((2 ^ r : Nat) : Int) by simp]
    generalize 2 ^ r = y at h2 ⊢
    omega
  rw [e, u64_or_nat x (2 ^ r) hx h2]
theorem or_small (x r : Nat) (hx : x < two64) (hr : r < 64) : x ||| 2 ^ r < two64 := Nat.or_lt_two_pow (n := 64) hx (Nat.pow_lt_pow_right (by decide) hr)
theorem MapV.stain {w : World} {m bz rows stain : Nat} {busy : List Int} (h : MapV w m bz rows stain busy) (s : Nat) (hs : s < two64) : MapV (w.setCell ⟨m, 1, none⟩ (.int .u64 s)) m bz rows s busy :=
  ⟨set_blk h.blk 1 (.int .u64 s), (set_far h.ne.symm _).trans h.cnt, h.ne, h.len, hs, h.row1, h.row2⟩
theorem MapV.count {w : World} {m bz rows stain : Nat} {busy : List Int} (h : MapV w m bz rows stain busy) (r : Nat) (n : Int) : MapV (w.setCell ⟨bz, r, none⟩ (num n)) m bz rows stain (busy.set r n) :=
  ⟨(set_far h.ne _).trans h.blk, by rw [set_blk h.cnt]; simp [nums, List.map_set], h.ne, by rw [List.length_set]; exact h.len, h.small, h.row1, h.row2⟩
theorem bit_zero (x r : Nat) (hx : x < two64) : (bits BinOp.and IntKind.u64 ((x : Int) / 2 ^ r) 1 == 0) = !x.testBit r := by
  rw [bit_low x r hx]
  cases x.testBit r <;> rfl
theorem bit_one (x r : Nat) (hx : x < two64) : (bits BinOp.and IntKind.u64 ((x : Int) / 2 ^ r) 1 == 1) = x.testBit r := by
  rw [bit_low x r hx]
  cases x.testBit r <;> rfl
def startBusy (busy : List Int) (r : Nat) : List Int := busy.set r (wrap64 (busy.getD r 0 + 1))
set_option maxRecDepth 100000 in
theorem start1_walk {w : World} {m bz rows stain : Nat} {busy : List Int} (h : MapV w m bz rows stain busy) (b1 b2 r : Nat) (c : Bool) (hr : r < regs rows) (h1 : w.cell? ⟨b1, 0, none⟩ = some (ptr m)) (h2 : w.heap[b2]? = some (.cells #[.bool c] 4)) (hm2 : b2 ≠ m) (hb2 : b2 ≠ bz) (hb1 : b1 ≠ m) (hb12 : b1 ≠ b2) :
    Calls Tryd.prog 25 #[num r, ptr b1, ptr b2] w fun e w' => e = .returned (num 0) ∧ MapV w' m bz rows (stain ||| 2 ^ r) (startBusy busy r) ∧ w'.heap[b2]? = some (.cells #[.bool (!stain.testBit r)] 4) ∧ Keeps (fun i => i = m ∨ i = bz ∨ i = b2) w w' := by
  have c1 : w.cell? ⟨m, 1, none⟩ = some (.int .u64 stain) := by rw [cell_blk h.blk]; rfl
  have c2 : w.cell? ⟨m, 2, none⟩ = some (.slice (some ⟨bz, 0, none⟩) (regs rows) (regs rows)) := by rw [cell_blk h.blk]; rfl
  have d0 : w.cell? ⟨b2, 0, none⟩ = some (.bool c) := by rw [cell_blk h2]; rfl
  have f0 : w.frozen? ⟨b2, 0, none⟩ = false := free_blk h2 0
  have f1 : w.frozen? ⟨m, 1, none⟩ = false := free_blk h.blk 1
  have hr64 := Nat.lt_of_lt_of_le hr (regs_le h.row2)
  go_enter Tryd.func25, Tryd.ntmps25
  go_wp2_with fail
  rw [bit_zero stain r h.small]
  have e0 := (Keeps.refl (fun i => i = m ∨ i = bz ∨ i = b2) w).set (p := ⟨b2, 0, none⟩) (.inl (.inr (.inr rfl))) (.bool (!stain.testBit r))
  have hm := h.keep (F := fun i => i = b2) ((Keeps.refl (fun i => i = b2) w).set (p := ⟨b2, 0, none⟩) (.inl rfl) (.bool (!stain.testBit r))) (fun e => hm2 e.symm) (fun e => hb2 e.symm)
  have k1 : (w.setCell ⟨b2, 0, none⟩ (.bool (!stain.testBit r))).cell? ⟨b1, 0, none⟩ = some (ptr m) := by rw [World.cell?_setCell_far _ _ _ _ (fun e => hb12 e.symm)]; exact h1
  have hbl := set_blk h2 0 (.bool (!stain.testBit r))
  clear c1 c2 d0 f0 f1 h1 h2 h
  generalize w.setCell ⟨b2, 0, none⟩ (.bool (!stain.testBit r)) = w1 at e0 hm k1 hbl ⊢
  have c1 : w1.cell? ⟨m, 1, none⟩ = some (.int .u64 stain) := by rw [cell_blk hm.blk]; rfl
  have f1 : w1.frozen? ⟨m, 1, none⟩ = false := free_blk hm.blk 1
  have E0 := Lib.hid e0
  have HM := Lib.hid hm
  have HBL := Lib.hid hbl
  clear e0 hm hbl
  go_region
  have hs := HM.out.small
  rw [or_bit stain r hs hr64]
  have hm2' := (HM.out.stain (stain ||| 2 ^ r) (or_small stain r hs hr64)).keep (F := fun _ => False) ((Keeps.refl _ _).drew) (fun h => h) (fun h => h)
  have e2 := ((E0.out.set (p := ⟨m, 1, none⟩) (.inl (.inl rfl)) (.int .u64 ((stain ||| 2 ^ r : Nat) : Int))).drew)
  have hb2' : (w1.setCell ⟨m, 1, none⟩ (.int .u64 ((stain ||| 2 ^ r : Nat) : Int))).drew.heap[b2]? = some (.cells #[.bool (!stain.testBit r)] 4) := by
    rw [heap_drew, set_far hm2]
    exact HBL.out
  have k2 : (w1.setCell ⟨m, 1, none⟩ (.int .u64 ((stain ||| 2 ^ r : Nat) : Int))).drew.cell? ⟨b1, 0, none⟩ = some (ptr m) := by
    show (w1.setCell ⟨m, 1, none⟩ (.int .u64 ((stain ||| 2 ^ r : Nat) : Int))).cell? ⟨b1, 0, none⟩ = some (ptr m)
    rw [World.cell?_setCell_far _ _ _ _ (fun e => hb1 e.symm)]
    exact k1
  clear k1 c1 f1 HM HBL E0
  generalize (w1.setCell ⟨m, 1, none⟩ (.int .u64 ((stain ||| 2 ^ r : Nat) : Int))).drew = w2 at hm2' e2 hb2' k2 ⊢
  have hbl : r < busy.length := by rw [hm2'.len]; exact hr
  have c2 : w2.cell? ⟨m, 2, none⟩ = some (.slice (some ⟨bz, 0, none⟩) (regs rows) (regs rows)) := by rw [cell_blk hm2'.blk]; rfl
  have c3 : w2.cell? ⟨bz, r, none⟩ = some (num (busy.getD r 0)) := by
    rw [cell_blk hm2'.cnt]
    simp [nums, hbl, List.getD_eq_getElem?_getD]
  have f3 : w2.frozen? ⟨bz, r, none⟩ = false := free_blk hm2'.cnt r
  have R := Lib.hid (fun (n : Int) => And.intro (hm2'.count r n) (And.intro ((set_far (a := ⟨bz, r, none⟩) hb2 (num n)).trans hb2') (e2.set (p := ⟨bz, r, none⟩) (.inl (.inr (.inl rfl))) (num n))))
  generalize hq : busy.getD r 0 = q at c3
  have HQ := Lib.hid (show startBusy busy r = busy.set r (wrap64 (q + 1)) by rw [startBusy, hq])
  clear hq hm2' e2 hb2' hs
  go_wp2
  go_ret
  rw [HQ.out]
  exact ⟨rfl, R.out _⟩

end Go.Proofs.YtabjknljcmcmfaaDoor
