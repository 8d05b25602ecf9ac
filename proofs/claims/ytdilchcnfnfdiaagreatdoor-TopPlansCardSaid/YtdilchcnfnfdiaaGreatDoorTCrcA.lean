/- The sum, in plain numbers. No program in sight. The sum: table, More, Sum, bytes. -/
import Derived.Laws.BitsAllLaws
import Derived.Test.YtdilchcnfnfdiaaGreatDoorBits
import Derived.Test.YtdilchcnfnfdiaaGreatDoorTInt
namespace Go.Proofs.YtdilchcnfnfdiaaGreatDoor

abbrev two32 : Nat := 4294967296
def crcStep (x : Nat) : Nat := x / 2 ^^^ 2197175160 * (x % 2)
theorem crcStep_lt {x : Nat} (h : x < two32) : crcStep x < two32 := by
  unfold crcStep
  have h1 : x / 2 < 2 ^ 32 := by have : x < 4294967296 := h; omega
  have h2 : 2197175160 * (x % 2) < 2 ^ 32 := by have := Nat.mod_lt x (show 0 < 2 by decide); omega
  exact Nat.xor_lt_two_pow h1 h2
def crcSteps (x : Nat) : Nat → Nat
  | 0 => x
  | k + 1 => crcStep (crcSteps x k)
theorem crcSteps_lt {x : Nat} (h : x < two32) : ∀ k, crcSteps x k < two32
  | 0 => h
  | k + 1 => crcStep_lt (crcSteps_lt h k)
def crcT (i : Nat) : Nat := crcSteps i 4
theorem crcT_lt {i : Nat} (h : i < 16) : crcT i < two32 := crcSteps_lt (Nat.lt_of_lt_of_le h (by decide)) 4
def crcHalf (x : Nat) : Nat := x / 16 ^^^ crcT (x % 16)
theorem crcHalf_lt {x : Nat} (h : x < two32) : crcHalf x < two32 := by
  have h1 : x / 16 < 2 ^ 32 := by have : x < 4294967296 := h; omega
  exact Nat.xor_lt_two_pow h1 (crcT_lt (Nat.mod_lt _ (by decide)))
def crcByte (x b : Nat) : Nat := crcHalf (crcHalf (x ^^^ b))
theorem xor_byte_lt {x b : Nat} (h : x < two32) (hb : b < 256) : x ^^^ b < two32 := Nat.xor_lt_two_pow (n := 32) h (Nat.lt_of_lt_of_le hb (by decide))
theorem crcByte_lt {x b : Nat} (h : x < two32) (hb : b < 256) : crcByte x b < two32 := crcHalf_lt (crcHalf_lt (xor_byte_lt h hb))
def crcRun (x : Nat) (bs : List Nat) : Nat := bs.foldl crcByte x
theorem crcRun_lt : ∀ (bs : List Nat) (x : Nat), x < two32 → (∀ b ∈ bs, b < 256) → crcRun x bs < two32
  | [], _, h, _ => h
  | b :: r, _, h, hb => crcRun_lt r _ (crcByte_lt h (hb b (by simp))) (fun c hc => hb c (by simp [hc]))
theorem crcRun_take {x : Nat} {bs : List Nat} {k b : Nat} (h : bs[k]? = some b) : crcRun x (bs.take (k + 1)) = crcByte (crcRun x (bs.take k)) b := by
  rw [List.take_add_one, h]
  simp [crcRun, List.foldl_append]
def crcSum (bs : List Nat) : Nat := 4294967295 - crcRun 4294967295 bs
theorem crcSum_lt (bs : List Nat) : crcSum bs < 4294967296 := by unfold crcSum; omega
/-- Four bytes of a number. -/
def bytes4 (n : Nat) : List Nat := [n % 256, n / 256 % 256, n / 65536 % 256, n / 16777216 % 256]
theorem bytes4_lt (n : Nat) : ∀ b ∈ bytes4 n, b < 256 := by
  intro b hb
  simp only [bytes4, List.mem_cons, List.not_mem_nil, or_false] at hb
  rcases hb with rfl | rfl | rfl | rfl <;> exact Nat.mod_lt _ (by decide)

end Go.Proofs.YtdilchcnfnfdiaaGreatDoor
namespace Go.Proofs.YtdilchcnfnfdiaaGreatDoor
open Go.RowKit

def tabL (k : Nat) : List Value := (List.range 16).map fun j => Value.int .u32 (if j < k then (crcT j : Int) else 0)
def tabCells (k : Nat) : Array Value := (tabL k).toArray
theorem tabCells_at (k j : Nat) (hj : j < 16) : (tabCells k)[j]? = some (.int .u32 (if j < k then (crcT j : Int) else 0)) := by simp [tabCells, tabL, hj]
theorem tabCells_set (k : Nat) (hk : k < 16) : (tabCells k).setIfInBounds k (.int .u32 (crcT k : Int)) = tabCells (k + 1) := by
  apply Array.ext_getElem?
  intro i
  rw [Array.getElem?_setIfInBounds]
  rcases Nat.lt_or_ge i 16 with hi | hi
  · by_cases h : k = i
    · subst h
      rw [if_pos rfl, if_pos (by simpa [tabCells, tabL] using hi), tabCells_at (k + 1) k hi, if_pos (by omega)]
    · rw [if_neg h, tabCells_at k i hi, tabCells_at (k + 1) i hi]
      by_cases h3 : i < k
      · rw [if_pos h3, if_pos (by omega)]
      · rw [if_neg h3, if_neg (by omega)]
  · rw [if_neg (by omega), Array.getElem?_eq_none (by simpa [tabCells, tabL] using hi), Array.getElem?_eq_none (by simpa [tabCells, tabL] using hi)]

def TabRel (w : World) (B R : Nat) (i : Value) (wr : World) : Prop := ∃ k : Nat, k ≤ 16 ∧ i = num k ∧ wr.heap[B]? = some (.cells (tabCells k) 173) ∧ wr.heap[R]? = some (.cells (tabCells 0) 173) ∧ Ext w wr

theorem Tryz.uTab : Tryz.prog.underlying 173 = some (.array 16 80) := by kernel_rfl
theorem Ext.setCells_new {a : World} (g : Nat) (hg : a.heap.size ≤ g) : ∀ (o : Nat) (vs : List Value) {w : World}, Ext a w → Ext a (w.setCells g o vs)
  | _, [], _, h => h
  | o, v :: r, _, h => Ext.setCells_new g hg (o + 1) r (h.set (p := ⟨g, o, none⟩) hg v)
theorem results_cell {P : Program} {fn : Func} {a : Nat} {t : TypeId} (h : fn.results = #[.cell a t]) {tmps : Array Value} {b : Nat} (hb : tmps[a]?.getD undef = ptr b) {w : World} {v : Value} (hl : (loadVar t ⟨b, 0, none⟩).run P w = .ok v w) : (results fn tmps).run P w = .ok v w := by
  simp [results, h, hb, asAddr, hl]
theorem step_val (x : Nat) (hx : x < two32) : bits BinOp.xor IntKind.u32 ((x : Int) / 2) (2197175160 * bits BinOp.and IntKind.u32 (x : Int) 1 % 4294967296) = (crcStep x : Int) := by
  have hx' : x < 4294967296 := hx
  have h1 := u32_and_nat x 1 hx' (by decide)
  rw [Nat.and_one_is_mod, show ((1 : Nat) : Int) = 1 from rfl] at h1
  have h2 : (2197175160 * ((x % 2 : Nat) : Int) % 4294967296) = ((2197175160 * (x % 2) : Nat) : Int) := by omega
  have h3 : (x : Int) / 2 = ((x / 2 : Nat) : Int) := by omega
  rw [h1, h2, h3, u32_xor_nat _ _ (by omega) (by omega)]
  rfl
def StepRel (w : World) (k : Nat) (j x : Value) (wx : World) : Prop := ∃ t : Nat, t ≤ 4 ∧ j = num t ∧ x = .int .u32 (crcSteps k t : Int) ∧ wx = w

set_option maxRecDepth 100000 in
theorem table_walk (w : World) : Calls Tryz.prog 105 #[] w fun e w' => e = .returned (.agg (tabCells 16)) ∧ Ext w w' := by
  go_enter Tryz.func105, Tryz.ntmps105
  go_wp2_with fail
  go_loopw [4] (fun i wr => TabRel w (w.heap.size + 1) w.heap.size i wr) (fun i _ => 16 - (intOf i).toNat)
  case atStart =>
    refine ⟨0, Nat.zero_le _, rfl, ?_, alloc_old _ (alloc_new w _), ((Ext.refl w).alloc _).alloc _⟩
    have h := alloc_new (w.alloc (.cells (tabCells 0) 173)) (.cells (tabCells 0) 173)
    rw [size_alloc] at h
    exact h
  case round =>
    obtain ⟨k, hk, rfl, hb, hr, he⟩ := hrel
    by_cases hlt : k < 16
    · have HB := Lib.hid (And.intro hb (And.intro hr he))
      clear hb hr he
      go_wp2_with fail
      go_loopw [9, 3] (fun j x wx => StepRel wr k j x wx) (fun j _ _ => 4 - (intOf j).toNat)
      case atStart => exact ⟨0, Nat.zero_le _, rfl, rfl, rfl⟩
      case round =>
        obtain ⟨t, ht, rfl, rfl, rfl⟩ := hrel
        have hx := crcSteps_lt (x := k) (Nat.lt_of_lt_of_le hlt (by decide)) t
        have hst : crcSteps k (t + 1) = crcStep (crcSteps k t) := rfl
        by_cases ht4 : t < 4
        · generalize crcSteps k t = x at hx hst
          have HX := Lib.hid (step_val x hx)
          clear hx
          go_wp2_with fail
          go_roundw
          case rel => exact ⟨t + 1, by omega, by go_num, by rw [hst, ← HX.out], rfl⟩
          case measure => simp [intOf]; omega
        · obtain rfl : t = 4 := by omega
          obtain ⟨y, hy⟩ : ∃ y : Nat, crcSteps k 4 = y := ⟨_, rfl⟩
          rw [hy]
          obtain ⟨hb, hr, he⟩ := HB.out
          have c1 : wr.cell? ⟨w.heap.size + 1, k, none⟩ = some (.int .u32 0) := by rw [cell_blk hb, tabCells_at k k hlt, if_neg (Nat.lt_irrefl _)]
          have f1 : wr.frozen? ⟨w.heap.size + 1, k, none⟩ = false := free_blk hb k
          have hn := set_blk hb k (.int .u32 (crcT k : Int))
          rw [tabCells_set k hlt, show crcT k = y from hy] at hn
          have R := Lib.hid (And.intro hn (And.intro ((set_far (a := ⟨w.heap.size + 1, k, none⟩) (by simp) (.int .u32 (y : Int))).trans hr) (he.set (p := ⟨w.heap.size + 1, k, none⟩) (Nat.le_succ _) (.int .u32 (y : Int)))))
          clear hst hx hy hb hr he hn
          go_wp2_with fail
          go_roundw
          case rel => exact ⟨k + 1, by omega, by go_num, R.out.1, R.out.2.1, R.out.2.2⟩
          case measure => simp [intOf]; omega
    · obtain rfl : k = 16 := by omega
      have hrg : wr.rangeAt (w.heap.size + 1) 0 (tabL 16) := fun j v hv => by rw [cell_blk hb, Nat.zero_add]; simpa [tabCells] using hv
      have hth : wr.there w.heap.size 0 (tabCells 16).size := fun j hj => ⟨by rw [cell_blk hr, Nat.zero_add, tabCells_at 0 j (by simpa [tabCells, tabL] using hj)]; rfl, free_blk hr _⟩
      obtain ⟨cs', h1, h2, h3⟩ := setCells_blk w.heap.size 173 (tabL 16) 0 wr _ hr (by simp [tabCells, tabL])
      have hcs : cs' = tabCells 16 := by
        apply Array.ext_getElem?
        intro i
        rw [h3 i]
        by_cases hi : i < 16
        · rw [if_pos (by simp [tabL]; omega)]
          simp [tabCells]
        · rw [if_neg (by simp [tabL]; omega), Array.getElem?_eq_none (by simp [tabCells, tabL]; omega), Array.getElem?_eq_none (by simp [tabCells, tabL]; omega)]
      rw [hcs] at h1
      have hinf : (Tryz.prog.info? 173).map (·.size) = some (tabL 16).length := by kernel_rfl
      have hinf2 : (Tryz.prog.info? 173).map (·.size) = some (tabCells 16).size := by kernel_rfl
      have hone : (tabCells 16).all (·.oneCell') = true := by kernel_rfl
      have R := Lib.hid (And.intro h1 (Ext.setCells_new w.heap.size (Nat.le_refl _) 0 (tabL 16) he))
      have HH := Lib.hid (And.intro hrg (And.intro hth (And.intro hinf (And.intro hinf2 hone))))
      clear hb hr he h1 h2 h3 hcs hrg hth hinf hinf2 hone
      go_wp2_with (first
        | (refine wpList_load_mid rfl 173 (.tmp 1) rfl (w.heap.size + 1) 0 rfl (tabL 16) _ HH.out.1 Tryz.uTab rfl HH.out.2.2.1 ?_)
        | (refine wpList_store_mid rfl 173 (.tmp 0) (.tmp 22) rfl w.heap.size 0 (tabCells 16) rfl rfl HH.out.2.1 HH.out.2.2.2.1 HH.out.2.2.2.2 ?_))
      obtain ⟨r1, r2⟩ := R.out
      rw [show (tabCells 16).toList = tabL 16 from rfl]
      have hrr : (wr.setCells w.heap.size 0 (tabL 16)).rangeAt w.heap.size 0 (tabL 16) := fun j v hv => by
        rw [cell_blk r1, Nat.zero_add]
        simpa [tabCells] using hv
      have hld := run_loadVar_mid (P := Tryz.prog) _ w.heap.size 0 173 (tabL 16) _ hrr Tryz.uTab rfl HH.out.2.2.1
      exact ⟨rfl, .agg (tabCells 16), results_cell Tryz.results105 rfl hld, rfl, r2⟩

end Go.Proofs.YtdilchcnfnfdiaaGreatDoor
