/- The bitmap of regions: New, Bytes; Dirty of a map that is clean. -/
import Derived.Test.YtdilchcnfnfdiaaGreatDoorTSmallA
import Derived.Test.YtdilchcnfnfdiaaGreatDoorBits
import Derived.Test.YtdilchcnfnfdiaaGreatDoorIntLen
import Derived.Laws.OwnMore
import Derived.BigRegion
import Derived.Deep.RegionHeld
import Derived.RangeFuncBox
import Derived.RangeFuncLeaves
import Derived.Shelf.Abstract
import Derived.OwnWalkIn
import Derived.TacticsInMore
import Derived.LoopNIn
import Derived.LoopIn
import Derived.Maps.AppendAt
namespace Go.Proofs.YtdilchcnfnfdiaaGreatDoor
open Go.RowKit Go.Shelf

attribute [local go_sem] Oper.semAt_some

/-- How many regions so many rows have. -/
def regs (rows : Nat) : Nat := (rows - 1) / 4 + 1
/-- A map: its block m, the block bz of its counters. -/
structure MapV (w : World) (m bz rows stain : Nat) (busy : List Int) : Prop where
  blk : w.heap[m]? = some (.cells #[num rows, .int .u64 stain, .slice (some ⟨bz, 0, none⟩) (regs rows) (regs rows)] 177)
  cnt : w.heap[bz]? = some (.cells (nums busy).toArray 3)
  ne : m ≠ bz
  len : busy.length = regs rows
  small : stain < two64
  row1 : 1 ≤ rows
  row2 : rows ≤ 256
theorem MapV.keep {w w' : World} {m bz rows stain : Nat} {busy : List Int} (h : MapV w m bz rows stain busy) {F : Nat → Prop} (k : Keeps F w w') (h1 : ¬ F m) (h2 : ¬ F bz) : MapV w' m bz rows stain busy :=
  ⟨k.blk h.blk h1, k.blk h.cnt h2, h.ne, h.len, h.small, h.row1, h.row2⟩
theorem MapV.ext {w w' : World} {m bz rows stain : Nat} {busy : List Int} (h : MapV w m bz rows stain busy) (e : Ext w w') : MapV w' m bz rows stain busy := h.keep e.to_keeps (fun h => h) (fun h => h)
theorem regs_le {rows : Nat} (h : rows ≤ 256) : regs rows ≤ 64 := by unfold regs; omega

theorem region_walk (r : Nat) (w : World) (hr : r ≤ 1048576) : Calls Tryz.prog 108 #[num r] w fun e w' => e = .returned (num ((r / 4 : Nat) : Int)) ∧ w' = w := by
  have hmax : max (r : Int) 0 = (r : Int) := by omega
  have hq : wrap64 ((r : Int) / 4) = (r : Int) / 4 := by unfold wrap64; omega
  go_enter Tryz.func108, Tryz.ntmps108
  go_wp2
  go_ret
  exact ⟨by simp, rfl⟩
theorem make_ints (n : Nat) (hn : n ≤ 64) (W : World) : (Instr.makeSlice 23 (num n) (num n)).run Tryz.prog W = .ok (.slice (some ⟨W.heap.size, 0, none⟩) n n) (W.alloc (.cells (madeCells #[num 0] n) 3)) := by
  obtain ⟨i, hi, hz0, hz1, hz2⟩ := info_parts Tryz.iInt
  have h := run_make (P := Tryz.prog) (w := W) 23 3 i (num 0) Tryz.uInts hi hz0 .i64 .i64 (n : Int) (n : Int) (by omega) (by omega) (by rw [hz2]; omega) (by omega)
  rw [hz1, Int.toNat_natCast, Nat.mul_one] at h
  exact h
theorem made_nums (n : Nat) : madeCells #[num 0] n = (nums (List.replicate n 0)).toArray := by
  apply Array.ext
  · simp [madeCells, nums]
  · intro i h1 h2
    simp [madeCells, nums, Nat.mod_one]

set_option maxRecDepth 100000 in
theorem new_walk (n : Nat) (w : World) (h1 : 1 ≤ n) (h2 : n ≤ 256) :
    Calls Tryz.prog 75 #[num n] w fun e w' => ∃ m bz, e = .returned (ptr m) ∧ MapV w' m bz n 0 (List.replicate (regs n) 0) ∧ w.heap.size ≤ m ∧ w.heap.size ≤ bz ∧ Ext w w' := by
  have HR := Lib.hid (region_walk (n - 1) w (by omega))
  have hn : (n : Int) - 1 = ((n - 1 : Nat) : Int) := by omega
  have hmk : ∀ W : World, (Instr.makeSlice 23 (.int .i64 (((n - 1 : Nat) : Int) / 4 + 1)) (.int .i64 (((n - 1 : Nat) : Int) / 4 + 1))).run Tryz.prog W = .ok (.slice (some ⟨W.heap.size, 0, none⟩) (regs n) (regs n)) (W.alloc (.cells (madeCells #[num 0] (regs n)) 3)) := fun W => by
    have h := make_ints (regs n) (regs_le h2) W
    rw [show ((regs n : Nat) : Int) = ((n - 1 : Nat) : Int) / 4 + 1 by unfold regs; omega] at h
    exact h
  go_enter Tryz.func75, Tryz.ntmps75
  go_wp2_with fail
  refine HR.out.mono ?_
  rintro e w1 ⟨rfl, rfl⟩
  clear HR hn
  go_wp2_with fail
  have b1 := alloc_old (.cells #[num n, .int .u64 0, .slice (some ⟨w1.heap.size, 0, none⟩) (regs n) (regs n)] 177) (alloc_new w1 (.cells (madeCells #[num 0] (regs n)) 3))
  have b2 := alloc_new (w1.alloc (.cells (madeCells #[num 0] (regs n)) 3)) (.cells #[num n, .int .u64 0, .slice (some ⟨w1.heap.size, 0, none⟩) (regs n) (regs n)] 177)
  rw [size_alloc] at b2
  go_ret
  refine ⟨w1.heap.size + 1, w1.heap.size, rfl, ⟨b2, ?_, by omega, by simp, by decide, h1, h2⟩, by omega, Nat.le_refl _, ((Ext.refl w1).alloc _).alloc _⟩
  rw [← made_nums]
  exact b1

/-- The cells of the array behind k rounds. -/
def byteCells (x k : Nat) : Array Value := ((List.range 8).map fun j => Value.int .u8 (if j < k then (byteAt x j : Int) else 0)).toArray
def BytesRel (W : World) (B x : Nat) (i : Value) (wr : World) : Prop := ∃ k : Nat, k ≤ 8 ∧ i = num k ∧ wr.heap[B]? = some (.cells (byteCells x k) 246) ∧ Ext W wr

theorem byteCells_at (x k j : Nat) (hj : j < 8) : (byteCells x k)[j]? = some (.int .u8 (if j < k then (byteAt x j : Int) else 0)) := by
  simp [byteCells, hj]
theorem byteCells_set (x k : Nat) (hk : k < 8) : (byteCells x k).setIfInBounds k (.int .u8 (byteAt x k : Int)) = byteCells x (k + 1) := by
  apply Array.ext_getElem?
  intro i
  rw [Array.getElem?_setIfInBounds]
  rcases Nat.lt_or_ge i 8 with hi | hi
  · by_cases h : k = i
    · subst h
      rw [if_pos rfl, if_pos (by simpa [byteCells] using hi), byteCells_at x (k + 1) k hi, if_pos (by omega)]
    · rw [if_neg h, byteCells_at x k i hi, byteCells_at x (k + 1) i hi]
      by_cases h3 : i < k
      · rw [if_pos h3, if_pos (by omega)]
      · rw [if_neg h3, if_neg (by omega)]
  · rw [if_neg (by omega), Array.getElem?_eq_none (by simpa [byteCells] using hi), Array.getElem?_eq_none (by simpa [byteCells] using hi)]
theorem byteAt_cast (x k : Nat) : (x : Int) / 2 ^ (8 * k) % 256 = (byteAt x k : Int) := by simp [byteAt]
theorem run_str8 (w : World) (B x : Nat) (h : w.heap[B]? = some (.cells (byteCells x 8) 246)) :
    (convert 34 9 (.slice (some ⟨B, 0, none⟩) 8 8)).run Tryz.prog w = .ok (.string (str8 x)) w := by
  have := run_convert_bytes_back (P := Tryz.prog) w 34 9 5 ⟨B, 0, none⟩ 8 ((List.range 8).map fun j => UInt8.ofNat (byteAt x j)) Tryz.underlying34 Tryz.underlying5 Tryz.underlying9 (by
    intro j hj
    have hj8 : j < 8 := by simpa using hj
    have hb := byteAt_lt x j
    rw [zero_add, cell_blk h, byteCells_at x 8 j hj8, if_pos hj8]
    simp
    omega)
  rw [show ((List.range 8).map fun j => UInt8.ofNat (byteAt x j)).length = 8 by simp] at this
  exact this

set_option maxRecDepth 100000 in
theorem bytes_walk {w : World} {m bz rows stain : Nat} {busy : List Int} (h : MapV w m bz rows stain busy) : Calls Tryz.prog 121 #[ptr m] w fun e w' => e = .returned (.string (str8 stain)) ∧ Ext w w' := by
  have c1 : w.cell? ⟨m, 1, none⟩ = some (.int .u64 stain) := by rw [cell_blk h.blk]; rfl
  have hs := h.small
  have hmlt := block_lt h.blk
  have B0 := Lib.hid (show (w.alloc (.cells (byteCells stain 0) 246)).heap[w.heap.size]? = some (.cells (byteCells stain 0) 246) from alloc_new w _)
  have E0 := Lib.hid ((Ext.refl w).alloc (.cells (byteCells stain 0) 246))
  clear h
  go_enter Tryz.func121, Tryz.ntmps121
  go_wp2_with fail
  go_loopw [5] (fun i wr => BytesRel w w.heap.size stain i wr) (fun i _ => 8 - (intOf i).toNat)
  case atStart => exact ⟨0, Nat.zero_le _, rfl, B0.out, E0.out⟩
  case round =>
    obtain ⟨k, hk, rfl, hb, he⟩ := hrel
    clear B0 E0
    by_cases hlt : k < 8
    · have c2 := he.cell c1
      have hbc := byteCells_at stain k k hlt
      rw [if_neg (Nat.lt_irrefl k)] at hbc
      have c3 : wr.cell? ⟨w.heap.size, k, none⟩ = some (.int .u8 0) := by rw [cell_blk hb]; exact hbc
      have f3 : wr.frozen? ⟨w.heap.size, k, none⟩ = false := free_blk hb k
      have hn := set_blk hb k (.int .u8 (byteAt stain k : Int))
      rw [byteCells_set stain k hlt, ← byteAt_cast stain k] at hn
      have R := Lib.hid (And.intro hn (he.set (p := ⟨w.heap.size, k, none⟩) (Nat.le_refl _) (.int .u8 ((stain : Int) / 2 ^ (8 * k) % 256))))
      clear hb hbc hn he
      go_wp2_with fail
      go_roundw
      case rel => exact ⟨k + 1, by omega, by go_num, R.out.1, R.out.2⟩
      case measure => simp [intOf]; omega
    · obtain rfl : k = 8 := by omega
      have hc := run_str8 wr w.heap.size stain hb
      have R := Lib.hid he
      clear hb he
      go_wp2_with fail
      go_ret
      exact ⟨rfl, R.out⟩


/-! ### Dirty, of a clean map -/
set_option maxRecDepth 100000 in
theorem stained0_in (n l Bn m : Nat) (J Jx : List Int → World → Prop)
    (W : World) (hBn : W.cell? ⟨Bn, 0, none⟩ = some (.pointer (some ⟨m, 0, none⟩))) (hm : W.cell? ⟨m, 1, none⟩ = some (.int .u64 0)) (h0 : J [] W) :
    CallsIn Fence.wide n Tryz.prog 155 #[.func (.yield l) #[] #[], .pointer (some ⟨Bn, 0, none⟩)] W fun e W' => (∃ v, e = .returned v) ∧
      ((∃ ys, ys = [] ∧ J ys W') ∨ (∃ pre, pre = [] ∧ Jx pre W')) := by
  refine callsIn_of_wp Tryz.func155 rfl trivial ?_ rfl
  simp only [Tryz.ntmps155, List.size_toArray, List.length_cons, List.length_nil, Nat.reduceAdd, Nat.reduceSub, Array.replicate_succ, Array.replicate_zero, List.push_toArray, List.append_toArray, List.nil_append, List.cons_append]
  gi_wp2
  gi_loopw [3] (fun p wr => p = .int .u64 0 ∧ J [] wr) (fun _ _ => 0)
  case atStart => exact ⟨rfl, h0⟩
  case round =>
    obtain ⟨rfl, hJ⟩ := hrel
    gi_wp2
    go_end0
    exact ⟨⟨_, rfl⟩, .inl ⟨[], rfl, hJ⟩⟩

theorem stained_walk (m : Nat) (w : World) : Calls Tryz.prog 126 #[ptr m] w fun e w' => e = .returned (.func (.func 155) #[] #[ptr w.heap.size]) ∧ w' = w.alloc (.cells #[ptr m] 148) := by
  go_enter Tryz.func126, Tryz.ntmps126
  go_wp2
  go_ret
  exact ⟨rfl, rfl⟩
theorem stained_stops (n : Nat) (Bn m n₀ : Nat) (w : World)
    (hBn : w.cell? ⟨Bn, 0, none⟩ = some (.pointer (some ⟨m, 0, none⟩))) (hm : w.cell? ⟨m, 1, none⟩ = some (.int .u64 0)) :
    SeqStopsK Fence.wide n Tryz.prog 155 #[.pointer (some ⟨Bn, 0, none⟩)] (fun x : Int => #[Value.int .i64 x]) (Below n₀) (fun ys => ys = []) (fun pre => pre = []) 0 w := fun l J Jx W hW _ _ _ h0 =>
  stained0_in n l Bn m J Jx W ((hW.cell (p := ⟨Bn, 0, none⟩) (World.block_lt_of_cell? w _ hBn)).trans hBn) ((hW.cell (p := ⟨m, 1, none⟩) (World.block_lt_of_cell? w _ hm)).trans hm) h0

set_option maxRecDepth 100000 in
set_option maxHeartbeats 2000000 in
theorem dirty0_walk {w : World} {m bz rows : Nat} {busy : List Int} (h : MapV w m bz rows 0 busy) :
    Calls Tryz.prog 85 #[ptr m] w fun e W' => e = .returned (.slice none 0 0) ∧ Ext w W' := by
  refine (callsIn_wide (n := 3)).1 ?_
  refine callsIn_of_wp_marks Tryz.func85 rfl trivial ?_ rfl
  simp only [Tryz.ntmps85, List.size_toArray, List.length_cons, List.length_nil, Nat.reduceAdd, Nat.reduceSub, Array.replicate_succ, Array.replicate_zero, List.push_toArray, List.append_toArray, List.nil_append, List.cons_append]
  gi_wp2
  refine ⟨trivial, (callsIn_wide.2 (stained_walk m _)).mono ?_⟩
  rintro e w' ⟨rfl, rfl⟩
  gi_wp2
  have bO := Boxed.new w 23 (.slice none 0 0)
  have bN := Boxed.new (w.alloc (.cells #[.slice none 0 0] 23)) 148 (ptr m)
  rw [World.size_alloc] at bN
  have hB0 : Below w.heap.size w ((w.alloc (.cells #[.slice none 0 0] 23)).alloc (.cells #[ptr m] 148)) := ((Below.refl _ w).alloc (Nat.le_refl _) _).alloc (by simp) _
  have hm0 := h.ext hB0
  refine wpIn_rangeFunc_ownG rfl (by decide) (gf := 155) (lb := #[.pointer (some ⟨w.heap.size + 1, 0, none⟩)]) rfl trivial (enters_of Tryz.func155 (by kernel_rfl) rfl)
    (stained_stops 2 (w.heap.size + 1) m w.heap.size _ bN.cell (by rw [cell_blk hm0.blk]; rfl)) belowK_t (belowK_b (by simp; omega)) (Below.refl _ _) (fun _ => rfl)
    (fun pre W => (∃ v, Boxed W w.heap.size 23 v ∧ W.ownsRow w.heap.size 3 1 v pre.length (pre.map (Value.int .i64)) ∧ v = .slice none 0 0) ∧ Below w.heap.size w W)
    (fun _ _ _ => False)
    (OwnFrom.and (Go.Own.from (holdsRow_own w.heap.size w.heap.size 23 3 1 (fun (pre : List Int) => pre.length) (fun pre => pre.map (Value.int .i64)) (fun _ v => v = .slice none 0 0)) _) (ownFrom_below (Nat.le_refl _) (by simp; omega)))
    (fun _ _ _ _ _ hs _ _ => hs)
    ⟨⟨_, bO.alloc _, World.ownsRow_nil _ _ _ _, rfl⟩, hB0⟩
    (fun x => { tmps := #[ptr m, undef, .slice none 0 0, .pointer (some ⟨w.heap.size, 0, none⟩), .int .i64 x, ptr m, .func (.func 155) #[] #[.pointer (some ⟨w.heap.size + 1, 0, none⟩)], .int .i64 x, undef, undef, undef, undef, undef], defers := [] }) ?assign ?body ?done ?stop
  case assign =>
    intro l x W K hK
    gi_wp2
    exact hK
  case body =>
    intro l pre x W _ hlt
    exact absurd hlt (Nat.not_lt_zero _)
  case done =>
    rintro D ys W hD rfl ⟨⟨v, hv, hrow, rfl⟩, hB⟩ hK
    have hc := hv.cell
    gi_wp2
    refine ⟨by simp, .inl ⟨_, _, rfl, run_takeDeferred hK, ?_⟩⟩
    exact ⟨_, results_tmp rfl _ _ _, rfl, hB.trans (belowK_b (w := w) (Nat.le_refl _) W D _ _ (by simp at hD; omega) hK rfl rfl)⟩
  case stop =>
    rintro D c pre W _ _ h _
    exact h.elim

end Go.Proofs.YtdilchcnfnfdiaaGreatDoor
