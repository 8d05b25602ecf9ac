/- gf: fresh, power, mul, Exp, Times, Xor. -/
import Derived.Test.YtdilchcnfnfdiaaGreatDoorTMake
import Derived.BigQuiet
import Derived.Deep.QuietTactic
namespace Go.Proofs.YtdilchcnfnfdiaaGreatDoor
open Go.RowKit

def TabIn (w : World) (t : Nat) : Prop := ∃ cs, w.heap[t]? = some (.cells cs 233) ∧ Tab cs 255 1 0 1
theorem TabIn.ext {w w' : World} {t : Nat} (h : TabIn w t) (e : Ext w w') : TabIn w' t := by
  obtain ⟨cs, h1, h2⟩ := h
  exact ⟨cs, e.blk h1, h2⟩
theorem TabIn.exp {w : World} {t : Nat} (h : TabIn w t) {i : Nat} (hi : i < 255) : w.cell? ⟨t, 4 + i, none⟩ = some (.int .u8 (expL i : Int)) := by
  obtain ⟨cs, h1, h2⟩ := h
  rw [cell_blk h1]
  exact (h2.exp i hi).1
theorem TabIn.expT {w : World} {t : Nat} (h : TabIn w t) {j : Nat} (hj : j < 510) : w.cell? ⟨t, 4 + j, none⟩ = some (.int .u8 (expT j : Int)) := by
  obtain ⟨cs, h1, h2⟩ := h
  rw [cell_blk h1]
  unfold YtdilchcnfnfdiaaGreatDoor.expT
  by_cases e : j < 255
  · rw [if_pos e]
    exact (h2.exp j e).1
  · rw [if_neg e]
    have := (h2.exp (j - 255) (by omega)).2
    rw [show j - 255 + 255 = j by omega] at this
    exact this
theorem TabIn.log {w : World} {t : Nat} (h : TabIn w t) {a : Nat} (ha : a < 256) (h0 : a ≠ 0) : w.cell? ⟨t, 514 + a, none⟩ = some (num (logN a)) := by
  obtain ⟨cs, h1, h2⟩ := h
  rw [cell_blk h1]
  have := h2.log (logN a) (logN_lt a ha)
  rw [expL_logN a ha h0] at this
  exact this

set_option maxRecDepth 100000 in
theorem do_walk (t : Nat) {cs : Array Value} (w : World) (hb : w.heap[t]? = some (.cells cs 233)) (hT : Tab cs 0 0 0 0) :
    Calls Tryz.prog 161 #[ptr t, .func (.func 162) #[ptr t] #[]] w fun e w' => e = .returned (.tuple #[]) ∧ ∃ cs', w'.heap[t]? = some (.cells cs' 233) ∧ Tab cs' 255 1 0 1 ∧ Keeps (fun q => q = t) w w' := by
  have c0 : w.cell? ⟨t, 0, none⟩ = some (.int .u32 0) := by rw [cell_blk hb]; exact hT.h0
  have hl := run_call_load (P := Tryz.prog) Tryz.func189 (by kernel_rfl) (by kernel_rfl) (by kernel_rfl) .u32 (by kernel_rfl) c0
  have hnot : ∀ (x : Bool) (w : World), (Op.unary .not (.bool x)).run Tryz.prog w = .ok (.bool (!x)) w := fun _ _ => rfl
  have HS := Lib.hid (slow_walk t w hb hT)
  clear hb hT c0
  go_enter Tryz.func161, Tryz.ntmps161
  go_wp2_with (go_at_call 173; go_in)
  refine HS.out.mono ?_
  rintro e1 w1 ⟨rfl, h1⟩
  have R := Lib.hid h1
  clear HS h1 hl
  go_wp2_with fail
  go_end0
  exact ⟨rfl, R.out⟩
theorem ready_walk (t : Nat) {cs : Array Value} (w : World) (hb : w.heap[t]? = some (.cells cs 233)) (hT : Tab cs 0 0 0 0) :
    Calls Tryz.prog 138 #[ptr t] w fun e w' => e = .returned (ptr t) ∧ ∃ cs', w'.heap[t]? = some (.cells cs' 233) ∧ Tab cs' 255 1 0 1 ∧ Keeps (fun q => q = t) w w' := by
  have HD := Lib.hid (do_walk t w hb hT)
  have c0 : w.cell? ⟨t, 0, none⟩ = some (.int .u32 0) := by rw [cell_blk hb]; exact hT.h0
  clear hb hT
  go_enter Tryz.func138, Tryz.ntmps138
  go_wp2_with fail
  refine HD.out.mono ?_
  rintro e1 w1 ⟨rfl, h1⟩
  have R := Lib.hid h1
  clear HD h1 c0
  go_wp2_with fail
  go_ret
  exact ⟨rfl, R.out⟩
theorem fresh_walk (w : World) : Calls Tryz.prog 102 #[] w fun e w' => e = .returned (ptr w.heap.size) ∧ TabIn w' w.heap.size ∧ Ext w w' := by
  have HR := Lib.hid (ready_walk w.heap.size (w.alloc (.cells Tryz.zeroCells233 233)) (alloc_new w _) Tab.zero)
  go_enter Tryz.func102, Tryz.ntmps102
  go_wp2_with fail
  refine HR.out.mono ?_
  rintro e1 w1 ⟨rfl, cs', h1, h2, h3⟩
  have R := Lib.hid (And.intro h1 (And.intro h2 h3))
  clear HR h1 h2 h3
  go_wp2_with fail
  go_ret
  exact ⟨rfl, ⟨_, R.out.1, R.out.2.1⟩, ((Ext.refl w).alloc _).keeps R.out.2.2 (fun q hq => by subst hq; exact Nat.le_refl _)⟩
theorem power_walk (t n : Nat) (w : World) (h : TabIn w t) (hn : n < 255) : Calls Tryz.prog 104 #[ptr t, num n] w fun e w' => e = .returned (.int .u8 (expL n : Int)) ∧ w' = w := by
  have hc := h.exp hn
  have c0 : ∃ v, w.cell? ⟨t, 0, none⟩ = some v := by
    obtain ⟨cs, h1, h2⟩ := h
    exact ⟨_, by rw [cell_blk h1]; exact h2.h0⟩
  obtain ⟨v, hv⟩ := c0
  have h1 : (n : Int) < 255 := by omega
  have h2 : ((n : Int) % 255 + 255) % 255 = (n : Int) := by omega
  have h3 : (n : Int) % 255 = (n : Int) := by omega
  generalize expL n = E at hc ⊢
  clear h
  go_enter Tryz.func104, Tryz.ntmps104
  go_wp2_with fail
  go_ret
  exact ⟨rfl, rfl⟩
theorem exp_walk (n : Nat) (w : World) (hn : n < 255) : Calls Tryz.prog 66 #[num n] w fun e w' => e = .returned (.int .u8 (expL n : Int)) ∧ Ext w w' := by
  have HF := Lib.hid (fresh_walk w)
  go_enter Tryz.func66, Tryz.ntmps66
  go_wp2_with fail
  refine HF.out.mono ?_
  rintro e1 w1 ⟨rfl, hT, he⟩
  have HP := Lib.hid (power_walk w.heap.size n w1 hT hn)
  have R := Lib.hid he
  clear HF hT he
  go_wp2_with fail
  refine HP.out.mono ?_
  rintro e2 w2 ⟨rfl, rfl⟩
  clear HP
  go_wp2_with fail
  go_ret
  exact ⟨rfl, R.out⟩
set_option maxRecDepth 100000 in
set_option maxHeartbeats 1000000 in
theorem mul_walk (t a b : Nat) (w : World) (h : TabIn w t) (ha : a < 256) (hb : b < 256) : Calls Tryz.prog 103 #[ptr t, .int .u8 (a : Int), .int .u8 (b : Int)] w fun e w' => e = .returned (.int .u8 (mulT a b : Int)) ∧ ∃ n, w' = w.drewN n := by
  by_cases ha0 : a = 0
  · subst ha0
    rw [mulT_zero]
    clear h ha hb
    go_enter Tryz.func103, Tryz.ntmps103
    go_wp2_with fail
    go_ret
    exact ⟨rfl, 0, rfl⟩
  · by_cases hb0 : b = 0
    · subst hb0
      have hz : mulT a 0 = 0 := by simp [mulT]
      rw [hz]
      have h1 : ¬ (a : Int) = 0 := by omega
      clear h ha hb hz
      go_enter Tryz.func103, Tryz.ntmps103
      go_wp2_with fail
      go_ret
      exact ⟨rfl, 0, rfl⟩
    · have h1 : ((a : Int) == 0) = false := by simp; omega
      have h2 : ((b : Int) == 0) = false := by simp; omega
      have hla := logN_lt a ha
      have hlb := logN_lt b hb
      have ca := h.log ha ha0
      have cb := h.log hb hb0
      have cs := h.expT (j := logN a + logN b) (by omega)
      have hm : mulT a b = expT (logN a + logN b) := by unfold mulT; rw [if_neg (by omega)]
      rw [hm]
      generalize expT (logN a + logN b) = E at cs ⊢
      generalize logN a = la at hla ca cs
      generalize logN b = lb at hlb cb cs
      have m0 : (la : Int) < 255 := by omega
      have m00 : (lb : Int) < 255 := by omega
      have m1 : IntKind.i64.wrap ((la : Int) + (lb : Int)) = (la : Int) + (lb : Int) := by rw [IntKind.wrap_i64]; omega
      have m2 : (0 : Int) ≤ (la : Int) + (lb : Int) := by omega
      have m3 : (la : Int) + (lb : Int) < 510 := by omega
      have m4 : ((la : Int) + (lb : Int)).toNat = la + lb := by omega
      have m5 : (0 : Int) ≤ (a : Int) := by omega
      have m6 : (a : Int) < 256 := by omega
      have m7 : (0 : Int) ≤ (b : Int) := by omega
      have m8 : (b : Int) < 256 := by omega
      clear h ha hb hm hla hlb
      go_enter Tryz.func103, Tryz.ntmps103
      go_wp2_with fail
      go_quiet (fail)
      go_wp2_with fail
      go_ret
      exact ⟨rfl, _, rfl⟩

/-- What Times has laid. -/
def timesPart (L : List Nat) (c k : Nat) : List Nat := timesL (L.take k) c ++ List.replicate (L.length - k) 0
theorem timesPart_zero (L : List Nat) (c : Nat) : timesPart L c 0 = List.replicate L.length 0 := by simp [timesPart, timesL]
theorem timesPart_all (L : List Nat) (c : Nat) : timesPart L c L.length = timesL L c := by simp [timesPart]
theorem timesPart_len (L : List Nat) (c k : Nat) (hk : k ≤ L.length) : (timesPart L c k).length = L.length := by simp [timesPart, timesL]; omega
theorem timesPart_step (L : List Nat) (c k : Nat) (hk : k < L.length) : (timesPart L c k).set k (mulT (L.getD k 0) c) = timesPart L c (k + 1) := by
  have hl : (timesL (L.take k) c).length = k := by simp [timesL]; omega
  have e : L.length - k = (L.length - (k + 1)) + 1 := by omega
  unfold timesPart
  rw [List.set_append_right _ _ (by omega), hl, Nat.sub_self, e, List.replicate_succ, List.set_cons_zero]
  have ht : L.take (k + 1) = L.take k ++ [L.getD k 0] := by
    rw [List.take_succ_eq_append_getElem hk]
    simp [hk]
  rw [ht]
  unfold timesL
  rw [List.map_append, List.append_assoc]
  rfl

theorem runs_mul (args : Array Value) (W : World) : (callFunc 103 args).run Tryz.prog W = .ok (.enter 103 args) W := Tryz.runs 103 Tryz.func103 (by kernel_rfl) rfl args W
def TimesRel (w : World) (t g c : Nat) (L : List Nat) (i : Value) (wr : World) : Prop :=
  ∃ k : Nat, k ≤ L.length ∧ i = num k ∧ wr.heap[g]? = some (.cells (cellsS (timesPart L c k)).toArray 5) ∧ TabIn wr t ∧ Ext w wr
set_option maxRecDepth 100000 in
set_option maxHeartbeats 2000000 in
theorem times_walk (s : ByteArray) (c : Nat) (w : World) (hs : s.size ≤ 1000) (hc : c < 256) :
    Calls Tryz.prog 65 #[.string s, .int .u8 (c : Int)] w fun e w' => e = .returned (.string (textOf (timesL (secOf s) c))) ∧ Ext w w' := by
  have HF := Lib.hid (fresh_walk w)
  have hmk := make_bytes s.size (by omega)
  have hss : (s.size : Int) ≤ 1000 := by omega
  have hrun := runs_mul
  have hsl := secOf_len s
  obtain ⟨L, hL⟩ : ∃ L, secOf s = L := ⟨_, rfl⟩
  have HL := Lib.hid (show L.length = s.size ∧ secOf s = L from ⟨by rw [← hL]; exact hsl, hL⟩)
  have HLT := Lib.hid (show ∀ x ∈ L, x < 256 by rw [← hL]; exact secOf_lt s)
  have HE := Lib.hid hL
  rw [hL]
  clear hsl hL hs
  go_enter Tryz.func65, Tryz.ntmps65
  go_wp2_with fail
  refine HF.out.mono ?_
  rintro e1 w1 ⟨rfl, hT, he⟩
  have R0 := Lib.hid (show TimesRel w w.heap.size w1.heap.size c L (num 0) (w1.alloc (.cells (cellsS (List.replicate s.size 0)).toArray 5)) from
    ⟨0, Nat.zero_le _, rfl, by rw [timesPart_zero, HL.out.1]; exact alloc_new w1 _, hT.ext ((Ext.refl w1).alloc _), he.alloc _⟩)
  have HG := Lib.hid he.size
  have HNE := Lib.hid (show w.heap.size ≠ w1.heap.size from by
    obtain ⟨cs, h1, _⟩ := hT
    have := block_lt h1
    omega)
  clear HF hT he
  go_wp2_with fail
  go_loopw [15] (fun i wr => TimesRel w w.heap.size w1.heap.size c L i wr) (fun i _ => s.size - (intOf i).toNat)
  case atStart => exact R0.out
  case round =>
    obtain ⟨k, hk, rfl, hg, hT, he⟩ := hrel
    clear R0 hmk
    by_cases hlt : k < s.size
    · have hkL : k < L.length := by rw [HL.out.1]; exact hlt
      have hb : s[k].toNat = L.getD k 0 := by
        have h := HL.out.2
        rw [← h]
        have hk' : k < s.data.size := hlt
        unfold secOf
        rw [List.getD_eq_getElem?_getD, List.getElem?_map, Array.getElem?_toList, Array.getElem?_eq_getElem hk']
        rfl
      have hb256 : L.getD k 0 < 256 := by rw [← hb]; exact s[k].toNat_lt
      have hst := timesPart_step L c k hkL
      have hlen := timesPart_len L c k hk
      obtain ⟨y, hy⟩ : ∃ y, L.getD k 0 = y := ⟨_, rfl⟩
      rw [hy] at hb hb256 hst
      have HM := Lib.hid (mul_walk w.heap.size y c wr hT hb256 hc)
      obtain ⟨m, hm⟩ : ∃ m, mulT y c = m := ⟨_, rfl⟩
      rw [hm] at hst HM
      obtain ⟨x0, hx0⟩ : ∃ x, (cellsS (timesPart L c k)).toArray[k]? = some x := ⟨_, Array.getElem?_eq_getElem (by simp [cellsS_len]; omega)⟩
      have c1 : ∀ n, (wr.drewN n).cell? ⟨w1.heap.size, k, none⟩ = some x0 := fun n => by rw [cell_blk (w := wr.drewN n) hg]; exact hx0
      have f1 : ∀ n, (wr.drewN n).frozen? ⟨w1.heap.size, k, none⟩ = false := fun n => free_blk (w := wr.drewN n) hg _
      have RX := Lib.hid (fun n => show TimesRel w w.heap.size w1.heap.size c L (num ((k : Int) + 1)) ((wr.setCell ⟨w1.heap.size, k, none⟩ (.int .u8 (m : Int))).drewN n) from
        ⟨k + 1, by omega, by go_num, by
          have h := set_blk hg k (.int .u8 (m : Int))
          rw [← hst]
          rw [show cellsS ((timesPart L c k).set k m) = (cellsS (timesPart L c k)).set k (.int .u8 (m : Int)) from by simp [cellsS, List.map_set]]
          rw [List.setIfInBounds_toArray] at h
          exact h, by
          obtain ⟨cs, h1, h2⟩ := hT
          exact ⟨cs, (set_far (w := wr) (a := ⟨w1.heap.size, k, none⟩) (b := w.heap.size) (by have := block_lt h1; have := block_lt hg; show w.heap.size ≠ w1.heap.size; exact HNE.out) _).trans h1, h2⟩, (he.set (p := ⟨w1.heap.size, k, none⟩) HG.out _).drewN n⟩)
      clear hg hT he hst hlen hkL hx0 hm hy hk
      have hki : (k : Int) < s.size := by omega
      go_wp2_with fail
      refine HM.out.mono ?_
      rintro e2 w2 ⟨rfl, n, rfl⟩
      clear HM
      have c2 := c1 n
      have f2 := f1 n
      clear c1 f1
      go_wp2_with fail
      go_roundw
      case rel => exact RX.out n
      case measure => simp [intOf]; omega
    · obtain rfl : k = s.size := by have := HL.out.1; omega
      have hg2 : wr.heap[w1.heap.size]? = some (.cells (cellsS (timesL L c)).toArray 5) := by
        rw [← HL.out.1, timesPart_all] at hg
        exact hg
      have hcv := run_text wr w1.heap.size s.size (timesL L c) (timesL_lt L c) (fun j v hv => by rw [cell_blk hg2]; simpa using hv)
      rw [timesL_len, HL.out.1] at hcv
      have R := Lib.hid he
      clear hg hT he hg2
      go_wp2_with fail
      go_ret
      exact ⟨rfl, R.out⟩

end Go.Proofs.YtdilchcnfnfdiaaGreatDoor
