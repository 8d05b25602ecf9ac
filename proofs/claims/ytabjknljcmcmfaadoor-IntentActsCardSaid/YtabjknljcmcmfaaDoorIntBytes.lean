/- Layer 10: Bytes, Merge. -/
import Derived.Test.YtabjknljcmcmfaaDoorIntOps
import Derived.Test.YtabjknljcmcmfaaDoorLen64
import Derived.Test.YtabjknljcmcmfaaDoorIntLen
namespace Go.Proofs.YtabjknljcmcmfaaDoor
open Go.RowKit

/-- The cells of the array behind k rounds. -/
def byteCells (x k : Nat) : Array Value := ((List.range 8).map fun j => Value.int .u8 (if j < k then (byteAt x j : Int) else 0)).toArray
def BytesRel (W : World) (B x : Nat) (i : Value) (wr : World) : Prop := ∃ k : Nat, k ≤ 8 ∧ i = num k ∧ wr.heap[B]? = some (.cells (byteCells x k) 57) ∧ Ext W wr

theorem byteCells_at (x k j : Nat) (hj : j < 8) : (byteCells x k)[j]? = some (.int .u8 (if j < k then (byteAt x j : Int) else 0)) := by
  simp [byteCells, hj]
theorem byteCells_set (x k : Nat) (hk : k < 8) : (byteCells x k).setIfInBounds k (.int .u8 (byteAt x k : Int)) = byteCells x (k + 1) := by
  apply Array.ext_getElem?
  intro i
  rw [Array.getElem?_setIfInBounds]
  rcases Nat.lt_or_ge i 8 with hi | hi
  · by_cases h : k = i
    · subst h
      rw [if_pos rfl, if_pos (by simpa [byteCells] using hi), byteCells_at x (k + 1) k hi, if_pos (by omega)]
    · rw [if_neg h, byteCells_at x k i hi, byteCells_at x (k + 1) i hi]
      by_cases h3 : i < k
      · rw [if_pos h3, if_pos (by omega)]
      · rw [if_neg h3, if_neg (by omega)]
  · rw [if_neg (by omega), Array.getElem?_eq_none (by simpa [byteCells] using hi), Array.getElem?_eq_none (by simpa [byteCells] using hi)]
theorem byteAt_cast (x k : Nat) : (x : Int) / 2 ^ (8 * k) % 256 = (byteAt x k : Int) := by simp [byteAt]
theorem run_str8 (w : World) (B x : Nat) (h : w.heap[B]? = some (.cells (byteCells x 8) 57)) :
    (convert 33 9 (.slice (some ⟨B, 0, none⟩) 8 8)).run Tryd.prog w = .ok (.string (str8 x)) w := by
  have := run_convert_bytes_back (P := Tryd.prog) w 33 9 5 ⟨B, 0, none⟩ 8 ((List.range 8).map fun j => UInt8.ofNat (byteAt x j)) Tryd.underlying33 Tryd.underlying5 Tryd.underlying9 (by
    intro j hj
    have hj8 : j < 8 := by simpa using hj
    have hb := byteAt_lt x j
    rw [zero_add, cell_blk h, byteCells_at x 8 j hj8, if_pos hj8]
    simp
    omega)
  rw [show ((List.range 8).map fun j => UInt8.ofNat (byteAt x j)).length = 8 by simp] at this
  exact this

set_option maxRecDepth 100000 in
theorem bytes_walk {w : World} {m bz rows stain : Nat} {busy : List Int} (h : MapV w m bz rows stain busy) : Calls Tryd.prog 18 #[ptr m] w fun e w' => e = .returned (.string (str8 stain)) ∧ Ext w w' := by
  have c1 : w.cell? ⟨m, 1, none⟩ = some (.int .u64 stain) := by rw [cell_blk h.blk]; rfl
  have hs := h.small
  have hmlt := (h.lt).1
  have B0 := Lib.hid (show (w.alloc (.cells (byteCells stain 0) 57)).heap[w.heap.size]? = some (.cells (byteCells stain 0) 57) from alloc_new w _)
  have E0 := Lib.hid ((Ext.refl w).alloc (.cells (byteCells stain 0) 57))
  clear h
  go_enter Tryd.func18, Tryd.ntmps18
  go_wp2_with fail
  go_loopw [5] (fun i wr => BytesRel w w.heap.size stain i wr) (fun i _ => 8 - (intOf i).toNat)
  case atStart => exact ⟨0, Nat.zero_le _, rfl, B0.out, E0.out⟩
  case round =>
    obtain ⟨k, hk, rfl, hb, he⟩ := hrel
    clear B0 E0
    by_cases hlt : k < 8
    · have c2 := he.cell c1
      have hbc := byteCells_at stain k k hlt
      rw [if_neg (Nat.lt_irrefl k)] at hbc
      have c3 : wr.cell? ⟨w.heap.size, k, none⟩ = some (.int .u8 0) := by rw [cell_blk hb]; exact hbc
      have f3 : wr.frozen? ⟨w.heap.size, k, none⟩ = false := free_blk hb k
      have hn := set_blk hb k (.int .u8 (byteAt stain k : Int))
      rw [byteCells_set stain k hlt, ← byteAt_cast stain k] at hn
      have R := Lib.hid (And.intro hn (he.set (p := ⟨w.heap.size, k, none⟩) (Nat.le_refl _) (.int .u8 ((stain : Int) / 2 ^ (8 * k) % 256))))
      clear hb hbc hn he
      go_wp2_with fail
      go_roundw
      case rel => exact ⟨k + 1, by omega, by go_num, R.out.1, R.out.2⟩
      case measure => simp [intOf]; omega
    · obtain rfl : k = 8 := by omega
      have hc := run_str8 wr w.heap.size stain hb
      have R := Lib.hid he
      clear hb he
      go_wp2_with fail
      go_ret
      exact ⟨rfl, R.out⟩

/-! ### Merge -/
def MergeRel (w : World) (s : ByteArray) (n i : Value) (wr : World) : Prop := ∃ k : Nat, k ≤ 8 ∧ n = .int .u64 (leNum (byteOf s) k : Nat) ∧ i = num k ∧ wr = w
/-- What Merge answers, and the regions that are dirty behind it. -/
def mergeE (rows : Nat) (s : ByteArray) : Int := if s.size = 8 ∧ Lib.bitLen (leNum (byteOf s) 8) ≤ regs rows then 0 else 1
def mergeSt (rows stain : Nat) (s : ByteArray) : Nat := if s.size = 8 ∧ Lib.bitLen (leNum (byteOf s) 8) ≤ regs rows then stain ||| leNum (byteOf s) 8 else stain

theorem byteOf_get (s : ByteArray) (k : Nat) (h : k < s.size) : byteOf s k = s[k].toNat := by
  have h' : k < s.data.size := h
  rw [byteOf, Array.getElem?_eq_getElem h']
  rfl
theorem merge_step (s : ByteArray) (k : Nat) (hk : k < 8) (h : k < s.size) :
    bits BinOp.or IntKind.u64 (leNum (byteOf s) k : Nat) (IntKind.u64.wrap (IntKind.u64.wrap (s[k].toNat : Nat) * 2 ^ (8 * k))) = ((leNum (byteOf s) (k + 1) : Nat) : Int) := by
  rw [← byteOf_get s k h]
  have hb := byteOf_lt s k
  have hn : leNum (byteOf s) k < two64 := Nat.lt_of_lt_of_le (leNum_lt _ (byteOf_lt s) k) (Nat.pow_le_pow_right (n := 2) (i := 8 * k) (j := 64) (show 0 < 2 by decide) (by omega))
  have hp : byteOf s k * 2 ^ (8 * k) < two64 := by
    have h1 : byteOf s k * 2 ^ (8 * k) < 2 ^ 8 * 2 ^ (8 * k) := Nat.mul_lt_mul_of_pos_right hb (Nat.two_pow_pos _)
    rw [← Nat.pow_add] at h1
    exact Nat.lt_of_lt_of_le h1 (Nat.pow_le_pow_right (n := 2) (i := 8 + 8 * k) (j := 64) (show 0 < 2 by decide) (by omega))
  have w1 : IntKind.u64.wrap ((byteOf s k : Nat) : Int) = ((byteOf s k : Nat) : Int) := by rw [IntKind.wrap_u64]; omega
  have w2 : IntKind.u64.wrap (((byteOf s k : Nat) : Int) * 2 ^ (8 * k)) = ((byteOf s k * 2 ^ (8 * k) : Nat) : Int) := by
    rw [IntKind.wrap_u64, show ((byteOf s k : Nat) : Int) * 2 ^ (8 * k) = ((byteOf s k * 2 ^ (8 * k) : Nat) : Int) by simp]
    have : byteOf s k * 2 ^ (8 * k) < 18446744073709551616 := hp
    omega
  rw [w1, w2, u64_or_nat _ _ hn hp]
  rfl

set_option maxRecDepth 100000 in
theorem merge_walk {w : World} {m bz rows stain : Nat} {busy : List Int} (h : MapV w m bz rows stain busy) (s : ByteArray) :
    Calls Tryd.prog 17 #[ptr m, .string s] w fun e w' => e = .returned (num (mergeE rows s)) ∧ MapV w' m bz rows (mergeSt rows stain s) busy ∧ Keeps (mapF m bz) w w' := by
  by_cases h8 : s.size = 8
  · have hne : ((s.size : Int) != 8) = false := by rw [h8]; rfl
    have H := Lib.hid h
    have H8 := Lib.hid h8
    have e1 : mergeE rows s = if Lib.bitLen (leNum (byteOf s) 8) ≤ regs rows then 0 else 1 := by simp [mergeE, h8]
    have e2 : mergeSt rows stain s = if Lib.bitLen (leNum (byteOf s) 8) ≤ regs rows then stain ||| leNum (byteOf s) 8 else stain := by simp [mergeSt, h8]
    have X1 := Lib.hid e1
    have X2 := Lib.hid e2
    clear h h8 e1 e2
    go_enter Tryd.func17, Tryd.ntmps17
    go_wp2_with fail
    go_loopw [5, 10] (fun n i wr => MergeRel w s n i wr) (fun _ i _ => 8 - (intOf i).toNat)
    case atStart => exact ⟨0, Nat.zero_le _, rfl, rfl, rfl⟩
    case round =>
      obtain ⟨k, hk, rfl, rfl, rfl⟩ := hrel
      by_cases hlt : k < 8
      · have hks : k < s.size := by rw [H8.out]; exact hlt
        have HS := Lib.hid (merge_step s k hlt hks)
        go_wp2_with fail
        go_roundw
        case rel => exact ⟨k + 1, by omega, by rw [HS.out], by go_num, rfl⟩
        case measure => simp [intOf]; omega
      · obtain rfl : k = 8 := by omega
        have hn : leNum (byteOf s) 8 < two64 := leNum_lt _ (byteOf_lt s) 8
        have hL := len64_walk (leNum (byteOf s) 8 : Nat) wr (by omega) (by have : leNum (byteOf s) 8 < 18446744073709551616 := hn; omega)
        rw [Int.toNat_natCast] at hL
        have HL := Lib.hid hL
        have HR := Lib.hid (regions_walk H.out)
        have hor := u64_or_nat stain (leNum (byteOf s) 8) H.out.small hn
        have hlt2 : stain ||| leNum (byteOf s) 8 < two64 := Nat.or_lt_two_pow (n := 64) H.out.small hn
        have HO := Lib.hid hor
        have HT := Lib.hid hlt2
        have c1 : wr.cell? ⟨m, 1, none⟩ = some (.int .u64 stain) := by rw [cell_blk H.out.blk]; rfl
        have f1 : wr.frozen? ⟨m, 1, none⟩ = false := free_blk H.out.blk 1
        clear hL hor hlt2 hlt hne
        obtain ⟨n, hnn⟩ : ∃ n, leNum (byteOf s) 8 = n := ⟨_, rfl⟩
        have HN := Lib.hid hnn
        rw [hnn] at hn HL HO HT ⊢
        clear hnn
        by_cases hr : Lib.bitLen n ≤ regs rows
        · have HRR := Lib.hid hr
          have hr' : ¬ (regs rows : Int) < (Lib.bitLen n : Int) := by omega
          clear hr
          obtain ⟨q, hq⟩ : ∃ q, Lib.bitLen n = q := ⟨_, rfl⟩
          rw [hq] at HL hr'
          clear hq
          go_wp2_with fail
          refine HL.out.mono ?_
          rintro e w1 ⟨rfl, rfl⟩
          clear HL
          go_wp2_with fail
          refine HR.out.mono ?_
          rintro e w2 ⟨rfl, rfl⟩
          clear HR
          go_wp2_with fail
          go_ret
          rw [X1.out, X2.out, HN.out, if_pos HRR.out, if_pos HRR.out]
          refine ⟨rfl, ?_, ?_⟩
          · rw [HO.out]
            exact H.out.stain _ HT.out
          · exact (Keeps.refl _ _).set (.inl (.inl rfl)) _
        · have HRR := Lib.hid hr
          have hr' : (regs rows : Int) < (Lib.bitLen n : Int) := by omega
          clear hr
          obtain ⟨q, hq⟩ : ∃ q, Lib.bitLen n = q := ⟨_, rfl⟩
          rw [hq] at HL hr'
          clear hq
          go_wp2_with fail
          refine HL.out.mono ?_
          rintro e w1 ⟨rfl, rfl⟩
          clear HL
          go_wp2_with fail
          refine HR.out.mono ?_
          rintro e w2 ⟨rfl, rfl⟩
          clear HR
          go_wp2_with fail
          go_ret
          rw [X1.out, X2.out, HN.out, if_neg HRR.out, if_neg HRR.out]
          exact ⟨rfl, H.out, Keeps.refl _ _⟩
  · have hne : ((s.size : Int) != 8) = true := by simp; omega
    have e1 : mergeE rows s = 1 := by rw [mergeE, if_neg (fun h => h8 h.1)]
    have e2 : mergeSt rows stain s = stain := by rw [mergeSt, if_neg (fun h => h8 h.1)]
    rw [e1, e2]
    have H := Lib.hid h
    clear h h8 e1 e2
    go_enter Tryd.func17, Tryd.ntmps17
    go_wp2_with fail
    go_ret
    exact ⟨rfl, H.out, Keeps.refl _ _⟩

end Go.Proofs.YtabjknljcmcmfaaDoor
