/- Layer 10: the reference's Bytes, Merge. -/
import Derived.Test.YtabjknljcmcmfaaDoorRefLists
import Derived.Test.YtabjknljcmcmfaaDoorRefOps
import Derived.Test.YtabjknljcmcmfaaDoorLawIMerges
namespace Go.Proofs.YtabjknljcmcmfaaDoor
open Go.RowKit

theorem mod_bit_yes {x k : Nat} (j : Nat) (h : x.testBit k = true) : byteAt (x % 2 ^ (k + 1)) j = if j = k / 8 then byteAt (x % 2 ^ k) j ||| 2 ^ (k % 8) else byteAt (x % 2 ^ k) j := by
  apply Nat.eq_of_testBit_eq
  intro t
  have hp : 2 ^ (k % 8) < 2 ^ 8 := Nat.pow_lt_pow_right (by decide) (Nat.mod_lt _ (by decide))
  rcases Nat.lt_or_ge t 8 with ht | ht
  · by_cases hj : j = k / 8
    · rw [if_pos hj, Nat.testBit_or, byteAt_bit _ _ _ ht, byteAt_bit _ _ _ ht, Nat.testBit_mod_two_pow, Nat.testBit_mod_two_pow, Nat.testBit_two_pow]
      by_cases hk : 8 * j + t = k
      · have e : k % 8 = t := by omega
        rw [hk]
        simp [h, e]
      · have e : ¬ k % 8 = t := by omega
        by_cases hl : 8 * j + t < k
        · simp [hl, show 8 * j + t < k + 1 by omega, e]
        · simp [hl, show ¬ 8 * j + t < k + 1 by omega, e]
    · rw [if_neg hj, byteAt_bit _ _ _ ht, byteAt_bit _ _ _ ht, Nat.testBit_mod_two_pow, Nat.testBit_mod_two_pow]
      have hk : ¬ 8 * j + t = k := by omega
      by_cases hl : 8 * j + t < k
      · simp [hl, show 8 * j + t < k + 1 by omega]
      · simp [hl, show ¬ 8 * j + t < k + 1 by omega]
  · have z1 : (byteAt (x % 2 ^ (k + 1)) j).testBit t = false := Nat.testBit_lt_two_pow (Nat.lt_of_lt_of_le (byteAt_lt _ _) (Nat.pow_le_pow_right (n := 2) (i := 8) (show 0 < 2 by decide) ht))
    have z2 : (byteAt (x % 2 ^ k) j).testBit t = false := Nat.testBit_lt_two_pow (Nat.lt_of_lt_of_le (byteAt_lt _ _) (Nat.pow_le_pow_right (n := 2) (i := 8) (show 0 < 2 by decide) ht))
    have z3 : (2 ^ (k % 8)).testBit t = false := Nat.testBit_lt_two_pow (Nat.lt_of_lt_of_le hp (Nat.pow_le_pow_right (n := 2) (show 0 < 2 by decide) ht))
    split
    · rw [Nat.testBit_or, z1, z2, z3]; rfl
    · rw [z1, z2]
theorem mod_bit_no {x k : Nat} (h : x.testBit k = false) : x % 2 ^ (k + 1) = x % 2 ^ k := by
  apply Nat.eq_of_testBit_eq
  intro t
  rw [Nat.testBit_mod_two_pow, Nat.testBit_mod_two_pow]
  by_cases e : t = k
  · subst e; simp [h]
  · by_cases hl : t < k
    · simp [hl, show t < k + 1 by omega]
    · simp [hl, show ¬ t < k + 1 by omega]
theorem u8_or_pow (b q : Nat) (hb : b < 256) (hq : q < 8) : bits BinOp.or IntKind.u8 (b : Int) (2 ^ q % 256) = ((b ||| 2 ^ q : Nat) : Int) := by
  have h2 : 2 ^ q < 256 := Nat.lt_of_lt_of_le (Nat.pow_lt_pow_right (a := 2) (n := 8) (by decide) hq) (by decide)
  have e : (2 : Int) ^ q % 256 = ((2 ^ q : Nat) : Int) := by
    have e2 : (2 : Int) ^ q = ((2 ^ q : Nat) : Int) := by simp
    rw [e2]
    generalize 2 ^ q = y at h2 ⊢
    omega
  rw [e]
  exact u8_or_nat b (2 ^ q) hb h2

/-- The first k regions told. -/
def RBytes (B x k : Nat) (wr : World) : Prop := ∃ cs, wr.heap[B]? = some (.cells cs 5) ∧ ∀ j, j < 8 → cs[j]? = some (.int .u8 (byteAt (x % 2 ^ k) j : Nat))
theorem RBytes.cell {B x k : Nat} {wr : World} (h : RBytes B x k wr) {j : Nat} (hj : j < 8) : wr.cell? ⟨B, j, none⟩ = some (.int .u8 (byteAt (x % 2 ^ k) j : Nat)) ∧ wr.frozen? ⟨B, j, none⟩ = false := by
  obtain ⟨cs, h1, h2⟩ := h
  exact ⟨by rw [cell_blk h1, h2 j hj], free_blk h1 j⟩
theorem RBytes.drew {B x k : Nat} {wr : World} (h : RBytes B x k wr) : RBytes B x k wr.drew := h
theorem RBytes.yes {B x k : Nat} {wr : World} (h : RBytes B x k wr) (hb : x.testBit k = true) : RBytes B x (k + 1) (wr.setCell ⟨B, k / 8, none⟩ (.int .u8 ((byteAt (x % 2 ^ k) (k / 8) ||| 2 ^ (k % 8) : Nat) : Int))) := by
  obtain ⟨cs, h1, h2⟩ := h
  refine ⟨_, set_blk h1 (k / 8) _, fun j hj => ?_⟩
  rw [Array.getElem?_setIfInBounds, mod_bit_yes j hb]
  by_cases e : k / 8 = j
  · subst e
    have : k / 8 < cs.size := (Array.getElem?_eq_some_iff.1 (h2 (k / 8) hj)).1
    rw [if_pos rfl, if_pos this, if_pos rfl]
  · rw [if_neg e, if_neg (fun h => e h.symm), h2 j hj]
theorem RBytes.no {B x k : Nat} {wr : World} (h : RBytes B x k wr) (hb : x.testBit k = false) : RBytes B x (k + 1) wr := by
  unfold RBytes at h ⊢
  rw [mod_bit_no hb]
  exact h
def RBytesRel (W : World) (x q : Nat) (i : Value) (wr : World) : Prop := ∃ k : Nat, k ≤ q ∧ i = num k ∧ RBytes W.heap.size x k wr ∧ Ext W wr
theorem run_str8c (w : World) (B x : Nat) (h : ∀ j, j < 8 → w.cell? ⟨B, j, none⟩ = some (.int .u8 (byteAt x j : Nat))) :
    (convert 33 9 (.slice (some ⟨B, 0, none⟩) 8 8)).run Tryd.prog w = .ok (.string (str8 x)) w := by
  have := run_convert_bytes_back (P := Tryd.prog) w 33 9 5 ⟨B, 0, none⟩ 8 ((List.range 8).map fun j => UInt8.ofNat (byteAt x j)) Tryd.underlying33 Tryd.underlying5 Tryd.underlying9 (by
    intro j hj
    have hj8 : j < 8 := by simpa using hj
    have hb := byteAt_lt x j
    rw [zero_add, h j hj8]
    simp
    omega)
  rw [show ((List.range 8).map fun j => UInt8.ofNat (byteAt x j)).length = 8 by simp] at this
  exact this

section
variable {w : World} {r g1 g2 rows x : Nat} {busy : List Int} (h : RefV w r g1 g2 rows x busy)
include h
set_option maxRecDepth 100000 in
set_option maxHeartbeats 1000000 in
theorem refBytes_walk (hx : x < 2 ^ regs rows) : Calls Tryd.prog 42 #[ptr r] w fun e w' => e = .returned (.string (str8 x)) ∧ Ext w w' := by
  have hq := regs_le h.row2
  have H := Lib.hid h
  have HX := Lib.hid hx
  have O0 := Lib.hid (show RBytes w.heap.size x 0 (w.alloc (.cells #[.int .u8 0, .int .u8 0, .int .u8 0, .int .u8 0, .int .u8 0, .int .u8 0, .int .u8 0, .int .u8 0] 5)) from
    ⟨_, alloc_new w _, fun j hj => by
      rw [Nat.pow_zero, Nat.mod_one]
      have e : byteAt 0 j = 0 := by simp [byteAt]
      rw [e]
      match j, hj with
      | 0, _ => rfl
      | 1, _ => rfl
      | 2, _ => rfl
      | 3, _ => rfl
      | 4, _ => rfl
      | 5, _ => rfl
      | 6, _ => rfl
      | 7, _ => rfl⟩)
  have E0 := Lib.hid ((Ext.refl w).alloc (.cells #[.int .u8 0, .int .u8 0, .int .u8 0, .int .u8 0, .int .u8 0, .int .u8 0, .int .u8 0, .int .u8 0] 5))
  clear h hx
  go_enter Tryd.func42, Tryd.ntmps42
  go_wp2_with fail
  go_loopw [4] (fun i wr => RBytesRel w x (regs rows) i wr) (fun i _ => regs rows - (intOf i).toNat)
  case atStart => exact ⟨0, Nat.zero_le _, rfl, O0.out, E0.out⟩
  case round =>
    clear O0 E0
    obtain ⟨k, hk, rfl, ho, he⟩ := hrel
    obtain ⟨c, c1⟩ := (H.out.ext he).c1
    by_cases hlt : k < regs rows
    · have s1 := (H.out.ext he).s k hlt
      cases hb : x.testBit k with
      | true =>
        rw [hb] at s1
        have HY := Lib.hid (And.intro (ho.yes hb) (he.set (p := ⟨w.heap.size, k / 8, none⟩) (Nat.le_refl _) (.int .u8 ((byteAt (x % 2 ^ k) (k / 8) ||| 2 ^ (k % 8) : Nat) : Int))))
        obtain ⟨cb, fb⟩ := ho.cell (j := k / 8) (by omega)
        have hq8 : k % 8 < 8 := Nat.mod_lt _ (by decide)
        have hv := u8_or_pow (byteAt (x % 2 ^ k) (k / 8)) (k % 8) (byteAt_lt _ _) hq8
        have HV := Lib.hid hv
        clear ho he hb H HX hv
        generalize byteAt (x % 2 ^ k) (k / 8) = y at cb HY HV
        go_wp2_with fail
        go_region
        go_wp2
        go_roundw
        case rel => exact ⟨k + 1, by omega, by go_num, by rw [HV.out]; exact HY.out.1.drew, by rw [HV.out]; exact HY.out.2.drew⟩
        case measure => simp [intOf]; omega
      | false =>
        rw [hb] at s1
        have R := Lib.hid (And.intro (ho.no hb) he)
        clear ho he hb H HX
        go_wp2_with fail
        go_roundw
        case rel => exact ⟨k + 1, by omega, by go_num, R.out.1, R.out.2⟩
        case measure => simp [intOf]; omega
    · obtain rfl : k = regs rows := by omega
      have hc := run_str8c wr w.heap.size x (fun j hj => by
        rw [(ho.cell hj).1, Nat.mod_eq_of_lt HX.out])
      have R := Lib.hid he
      clear ho he H HX
      go_wp2_with fail
      go_ret
      exact ⟨rfl, R.out⟩

/-! ### Merge -/
theorem RefV.congr (x' : Nat) (hx : ∀ j, j < regs rows → x'.testBit j = x.testBit j) : RefV w r g1 g2 rows x' busy := by
  obtain ⟨b0, ⟨cs, b1, hc1⟩, b2, n1, n2, n3, r1, r2, hl⟩ := h
  exact ⟨b0, ⟨cs, b1, fun i hi => by rw [hx i hi]; exact hc1 i hi⟩, b2, n1, n2, n3, r1, r2, hl⟩
end
theorem byte_bit (s : ByteArray) (i : Nat) (hi : i < 64) (hk : i / 8 < s.size) : (bits BinOp.and IntKind.u8 ((s[i / 8].toNat : Int) / 2 ^ (i % 8)) 1 == 1) = (leNum (byteOf s) 8).testBit i := by
  rw [leNum_bit _ (byteOf_lt s), ← byteOf_get s (i / 8) hk]
  have hlt := byteOf_lt s (i / 8)
  have e : ((byteOf s (i / 8) : Nat) : Int) / 2 ^ (i % 8) = ((byteOf s (i / 8) / 2 ^ (i % 8) : Nat) : Int) := by simp
  have h2 := u8_and_nat (byteOf s (i / 8) / 2 ^ (i % 8)) 1 (Nat.lt_of_le_of_lt (Nat.div_le_self _ _) hlt) (by decide)
  rw [show ((1 : Nat) : Int) = 1 from rfl] at h2
  rw [e, h2, Nat.and_one_is_mod, Nat.testBit_eq_decide_div_mod_eq]
  have : byteOf s (i / 8) / 2 ^ (i % 8) % 2 < 2 := Nat.mod_lt _ (by decide)
  simp only [show i < 8 * 8 by omega, decide_true, Bool.true_and]
  generalize byteOf s (i / 8) / 2 ^ (i % 8) % 2 = z at this ⊢
  by_cases hz : z = 1
  · subst hz; rfl
  · have : z = 0 := by omega
    subst this; rfl
def LookRel (w : World) (q y : Nat) (i : Value) (wr : World) : Prop := ∃ k : Nat, k ≤ 64 ∧ i = num k ∧ wr = w ∧ ∀ t, t < k → y.testBit t = true → t < q
def SetRel (w : World) (r g1 g2 rows x y : Nat) (busy : List Int) (i : Value) (wr : World) : Prop := ∃ k : Nat, k ≤ regs rows ∧ i = num k ∧ RefV wr r g1 g2 rows (x ||| (y % 2 ^ k)) busy ∧ Keeps (refF r g1 g2) w wr
theorem or_mod_bit (x y k j : Nat) : (x ||| (y % 2 ^ k)).testBit j = (x.testBit j || (decide (j < k) && y.testBit j)) := by rw [Nat.testBit_or, Nat.testBit_mod_two_pow]

section
variable {w : World} {r g1 g2 rows x : Nat} {busy : List Int} (h : RefV w r g1 g2 rows x busy)
include h
set_option maxRecDepth 100000 in
set_option maxHeartbeats 1000000 in
theorem refMerge_walk (s : ByteArray) :
    Calls Tryd.prog 37 #[ptr r, .string s] w fun e w' => e = .returned (num (mergeE rows s)) ∧ RefV w' r g1 g2 rows (mergeSt rows x s) busy ∧ Keeps (refF r g1 g2) w w' := by
  have hq := regs_le h.row2
  by_cases h8 : s.size = 8
  · have hne : ((s.size : Int) != 8) = false := by rw [h8]; rfl
    have H := Lib.hid h
    have H8 := Lib.hid h8
    obtain ⟨y, hy⟩ : ∃ y, leNum (byteOf s) 8 = y := ⟨_, rfl⟩
    have hy64 : y < two64 := by rw [← hy]; exact leNum_lt _ (byteOf_lt s) 8
    have X1 := Lib.hid (show mergeE rows s = if Lib.bitLen y ≤ regs rows then 0 else 1 by simp [mergeE, h8, hy])
    have X2 := Lib.hid (show mergeSt rows x s = if Lib.bitLen y ≤ regs rows then x ||| y else x by simp [mergeSt, h8, hy])
    have HB := Lib.hid (fun (i : Nat) (hi : i < 64) (hk : i / 8 < s.size) => by
      have := byte_bit s i hi hk
      rw [hy] at this
      exact this)
    have HY := Lib.hid hy64
    obtain ⟨c, c1⟩ := h.c1
    clear h h8 hy hy64
    go_enter Tryd.func37, Tryd.ntmps37
    go_wp2_with fail
    go_loopw [5] (fun i wr => LookRel w (regs rows) y i wr) (fun i _ => 64 - (intOf i).toNat)
    case atStart => exact ⟨0, Nat.zero_le _, rfl, rfl, fun t ht => by omega⟩
    case round =>
      obtain ⟨k, hk, rfl, rfl, hlow⟩ := hrel
      by_cases hlt : k < 64
      · have hks : k / 8 < s.size := by rw [H8.out]; omega
        have hbit := HB.out k hlt hks
        have HL := Lib.hid hlow
        clear hlow HB
        cases hb : y.testBit k with
        | true =>
          rw [hb] at hbit
          have HBT := Lib.hid hb
          clear hb
          by_cases hkr : k < regs rows
          · go_wp2_with fail
            go_roundw
            case rel => exact ⟨k + 1, by omega, by go_num, rfl, fun t ht hb => by
              rcases Nat.lt_or_ge t k with h | h
              · exact HL.out t h hb
              · omega⟩
            case measure => simp [intOf]; omega
          · go_wp2_with fail
            go_ret
            have hno : ¬ Lib.bitLen y ≤ regs rows := fun hh => by
              have h1 := (bitLen_iff y (regs rows) hq HY.out).1 hh
              have h2 := HBT.out
              rw [Nat.testBit_lt_two_pow (Nat.lt_of_lt_of_le h1 (Nat.pow_le_pow_right (n := 2) (show 0 < 2 by decide) (by omega)))] at h2
              cases h2
            rw [X1.out, X2.out, if_neg hno, if_neg hno]
            exact ⟨rfl, H.out, Keeps.refl _ _⟩
        | false =>
          rw [hb] at hbit
          have HBF := Lib.hid hb
          clear hb
          go_wp2_with fail
          go_roundw
          case rel => exact ⟨k + 1, by omega, by go_num, rfl, fun t ht hb => by
            rcases Nat.lt_or_ge t k with h | h
            · exact HL.out t h hb
            · obtain rfl : t = k := by omega
              rw [HBF.out] at hb
              cases hb⟩
          case measure => simp [intOf]; omega
      · have hyq : y < 2 ^ regs rows := by
          refine Nat.lt_pow_two_of_testBit _ fun i hi => ?_
          cases hb : y.testBit i with
          | false => rfl
          | true =>
            rcases Nat.lt_or_ge i 64 with h | h
            · have := hlow i (by omega) hb
              omega
            · rw [Nat.testBit_lt_two_pow (Nat.lt_of_lt_of_le HY.out (Nat.pow_le_pow_right (n := 2) (i := 64) (show 0 < 2 by decide) h))] at hb
              cases hb
        have HYQ := Lib.hid hyq
        have hyes : Lib.bitLen y ≤ regs rows := (bitLen_iff y (regs rows) hq HY.out).2 hyq
        have X1' := Lib.hid X1.out
        have X2' := Lib.hid X2.out
        rw [if_pos hyes] at X1' X2'
        clear hyes hyq hlow X1 X2 HY
        go_wp2_with fail
        go_loopw [6] (fun i wx => SetRel wr r g1 g2 rows x y busy i wx) (fun i _ => regs rows - (intOf i).toNat)
        case atStart => exact ⟨0, Nat.zero_le _, rfl, by rw [Nat.pow_zero, Nat.mod_one, Nat.or_zero]; exact H.out, Keeps.refl _ _⟩
        case round =>
          obtain ⟨k, hk, rfl, hv, hkp⟩ := hrel
          obtain ⟨c', c1'⟩ := hv.c1
          by_cases hlt2 : k < regs rows
          · have hks : k / 8 < s.size := by rw [H8.out]; omega
            have hbit := HB.out k (by omega) hks
            have s1 := hv.s k hlt2
            have f1 := hv.sf k
            have HV := Lib.hid hv
            have HK := Lib.hid hkp
            clear HB hv hkp
            cases hb : y.testBit k with
            | true =>
              rw [hb] at hbit
              have HS := Lib.hid (HV.out.setS k hlt2 true (x ||| (y % 2 ^ (k + 1))) (fun j _ => by
                rw [or_mod_bit, or_mod_bit]
                by_cases e : j = k
                · subst e; simp [hb]
                · rw [if_neg e]
                  by_cases h : j < k
                  · simp [h, show j < k + 1 by omega]
                  · simp [h, show ¬ j < k + 1 by omega]))
              clear hb HV
              go_wp2_with fail
              go_roundw
              case rel => exact ⟨k + 1, by omega, by go_num, HS.out, HK.out.set (p := ⟨g1, k, none⟩) (.inl (.inr (.inl rfl))) _⟩
              case measure => simp [intOf]; omega
            | false =>
              rw [hb] at hbit
              have HS := Lib.hid (HV.out.congr (x ||| (y % 2 ^ (k + 1))) (fun j _ => by
                rw [or_mod_bit, or_mod_bit]
                by_cases e : j = k
                · subst e; simp [hb]
                · by_cases h : j < k
                  · simp [h, show j < k + 1 by omega]
                  · simp [h, show ¬ j < k + 1 by omega]))
              clear hb HV s1 f1
              go_wp2_with fail
              go_roundw
              case rel => exact ⟨k + 1, by omega, by go_num, HS.out, HK.out⟩
              case measure => simp [intOf]; omega
          · obtain rfl : k = regs rows := by omega
            rw [Nat.mod_eq_of_lt HYQ.out] at hv
            have HV := Lib.hid hv
            have HK := Lib.hid hkp
            clear HB hv hkp
            go_wp2_with fail
            go_ret
            rw [X1'.out, X2'.out]
            exact ⟨rfl, HV.out, HK.out⟩
  · have hne : ((s.size : Int) != 8) = true := by simp; omega
    have e1 : mergeE rows s = 1 := by rw [mergeE, if_neg (fun h => h8 h.1)]
    have e2 : mergeSt rows x s = x := by rw [mergeSt, if_neg (fun h => h8 h.1)]
    rw [e1, e2]
    have H := Lib.hid h
    clear h h8 e1 e2
    go_enter Tryd.func37, Tryd.ntmps37
    go_wp2_with fail
    go_ret
    exact ⟨rfl, H.out, Keeps.refl _ _⟩
end

end Go.Proofs.YtabjknljcmcmfaaDoor
