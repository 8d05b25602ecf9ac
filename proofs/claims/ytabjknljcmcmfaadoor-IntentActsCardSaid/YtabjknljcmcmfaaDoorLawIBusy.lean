/- IntentBusy: the walk. -/
import Derived.Test.YtabjknljcmcmfaaDoorIntOps
namespace Go.Proofs.YtabjknljcmcmfaaDoor
open Go.RowKit

/-- The bytes of an argument. -/
def ByteArg (w : World) (A : Option Addr) (len : Nat) (z : Nat → Nat) : Prop := ∀ i, i < len → z i ≤ 255 ∧ ∃ x, A = some x ∧ w.cell? (x.add i) = some (.int .u8 (z i : Nat))

theorem start_getD_same {busy : List Int} {k n : Nat} (hk : k < busy.length) (h : busy.getD k 0 = (n : Int)) (hn : n ≤ 1000) : (startBusy busy k).getD k 0 = ((n + 1 : Nat) : Int) := by
  unfold startBusy
  rw [h, IntWalk.wrap64_in _ ⟨by omega, by omega⟩]
  simp [List.getD_eq_getElem?_getD, hk]
theorem start_getD_other {busy : List Int} {k r : Nat} (hr : r ≠ k) : (startBusy busy r).getD k 0 = busy.getD k 0 := by
  unfold startBusy
  simp [List.getD_eq_getElem?_getD, List.getElem?_set_ne hr]
theorem or_testBit (x r k : Nat) : (x ||| 2 ^ r).testBit k = (x.testBit k || decide (r = k)) := by
  rw [Nat.testBit_or, Nat.testBit_two_pow]

/-- Behind i of the rows: n of them are of the region k. -/
def BusyAt (W : World) (m bz k n : Nat) (b : Bool) (wr : World) : Prop := ∃ (stain : Nat) (busy : List Int), MapV wr m bz 256 stain busy ∧ busy.getD k 0 = (n : Int) ∧ stain.testBit k = b ∧ Ext W wr
theorem BusyAt.ext {W w w' : World} {m bz k n : Nat} {b : Bool} (h : BusyAt W m bz k n b w) (e : Ext w w') : BusyAt W m bz k n b w' := by
  obtain ⟨s, y, hm, h1, h2, h3⟩ := h
  exact ⟨s, y, hm.ext e, h1, h2, h3.trans e⟩

theorem hit_walk {W w : World} {m bz k n row : Nat} {b : Bool} (h : BusyAt W m bz k n b w) (hm : W.heap.size ≤ m) (hbz : W.heap.size ≤ bz) (hk : k < 64) (hr : row ≤ 255) (hn : n ≤ 1000) :
    Calls Tryd.prog 11 #[ptr m, num row] w fun e w' => (∃ f, e = .returned (.tuple #[.bool f, num 0])) ∧ (Calls Tryd.prog 12 #[ptr m, num row] w' fun e w'' => e = .returned (.bool true) ∧ BusyAt W m bz k (if row / 4 = k then n + 1 else n) (b || decide (row / 4 = k)) w'') ∧ Ext W w' := by
  obtain ⟨s, y, hv, h1, h2, h3⟩ := h
  have hl : y.length = 64 := hv.len
  refine (start_walk hv row (by omega)).mono ?_
  rintro e w1 ⟨rfl, hv1, k1⟩
  have e1 := h3.keeps k1 (fun i h => by rcases h with h | h <;> omega)
  refine ⟨⟨_, rfl⟩, (stale_walk hv1 row (by omega)).mono ?_, e1⟩
  rintro e w2 ⟨rfl, e2⟩
  refine ⟨by rw [or_testBit]; simp, _, _, hv1.ext e2, ?_, by rw [or_testBit, h2], e1.trans e2⟩
  by_cases hrk : row / 4 = k
  · subst hrk
    rw [if_pos rfl]
    exact start_getD_same (by omega) h1 hn
  · rw [if_neg hrk, start_getD_other hrk]
    exact h1

/-- One less is under way. -/
theorem less_walk {W w : World} {m bz k n j : Nat} {b : Bool} (h : BusyAt W m bz k (n + 1) b w) (hm : W.heap.size ≤ m) (hbz : W.heap.size ≤ bz) (hk : k < 64) (hj : j < 4) (hn : n ≤ 1000) :
    Calls Tryd.prog 14 #[ptr m, num k] w fun e w' => e = .returned (num 5) ∧ Ext W w' ∧ (Calls Tryd.prog 12 #[ptr m, num ((k * 4 : Nat) : Int)] w' fun e w'' => e = .returned (.bool b) ∧ Ext W w'' ∧
      Calls Tryd.prog 15 #[ptr m, num ((k * 4 + j : Nat) : Int)] w'' fun e w3 => e = .returned (num 0) ∧ BusyAt W m bz k n b w3) := by
  obtain ⟨s, y, hv, h1, h2, h3⟩ := h
  have hl : y.length = 64 := hv.len
  have hk64 : k < regs 256 := hk
  refine (clear_busy hv k hk64 (by omega)).mono ?_
  rintro e w1 ⟨rfl, e1⟩
  refine ⟨rfl, h3.trans e1, (stale_walk (hv.ext e1) (k * 4) (by omega)).mono ?_⟩
  rintro e w2 ⟨rfl, e2⟩
  rw [show k * 4 / 4 = k by omega, h2]
  refine ⟨rfl, (h3.trans e1).trans e2, ?_⟩
  have hq : (k * 4 + j) / 4 = k := by omega
  refine (done_walk ((hv.ext e1).ext e2) (k * 4 + j) (by omega) (by rw [hq, h1]; omega)).mono ?_
  rintro e w3 ⟨rfl, hv3, k3⟩
  rw [hq, h1, IntWalk.wrap64_in _ ⟨by omega, by omega⟩] at hv3
  refine ⟨rfl, s, _, hv3, ?_, h2, ((h3.trans e1).trans e2).keeps k3 (fun i h => by rcases h with h | h <;> omega)⟩
  rw [List.getD_eq_getElem?_getD, List.getElem?_set_self (by omega)]
  simp

theorem last_walk {W w : World} {m bz k : Nat} {b : Bool} (h : BusyAt W m bz k 0 b w) (hm : W.heap.size ≤ m) (hbz : W.heap.size ≤ bz) (hk : k < 64) :
    Calls Tryd.prog 15 #[ptr m, num ((k * 4 : Nat) : Int)] w fun e w' => e = .returned (num 3) ∧ (Calls Tryd.prog 12 #[ptr m, num ((k * 4 : Nat) : Int)] w' fun e w'' => e = .returned (.bool b) ∧
      Calls Tryd.prog 14 #[ptr m, num k] w'' fun e w3 => e = .returned (num 0) ∧ Calls Tryd.prog 12 #[ptr m, num ((k * 4 : Nat) : Int)] w3 fun e w4 => e = .returned (.bool false) ∧ Ext W w4) := by
  obtain ⟨s, y, hv, h1, h2, h3⟩ := h
  have hk64 : k < regs 256 := hk
  have hq : k * 4 / 4 = k := by omega
  refine (done_none hv (k * 4) (by omega) (by rw [hq]; exact h1)).mono ?_
  rintro e w1 ⟨rfl, e1⟩
  refine ⟨rfl, (stale_walk (hv.ext e1) (k * 4) (by omega)).mono ?_⟩
  rintro e w2 ⟨rfl, e2⟩
  rw [hq, h2]
  refine ⟨rfl, (clear_walk ((hv.ext e1).ext e2) k hk64 h1).mono ?_⟩
  rintro e w3 ⟨rfl, hv3, k3⟩
  refine ⟨rfl, (stale_walk hv3 (k * 4) (by omega)).mono ?_⟩
  rintro e w4 ⟨rfl, e4⟩
  rw [hq, clr_bit s k k hk hk]
  exact ⟨by simp, (((h3.trans e1).trans e2).keeps k3 (fun i h => by rcases h with h | h <;> omega)).trans e4⟩

set_option maxRecDepth 100000 in
theorem ibusy_long (A : Option Addr) (len cap : Nat) (g : Int) (w : World) (ht : Tab 0 w) (hg : 0 < w.heap.size) (hl : 200 < len) :
    Calls Tryd.prog 4 #[.slice A len cap, .int .u8 g] w fun e w' => e = .returned (.bool true) ∧ Below w.heap.size w w' := by
  have S := Lib.hid (shown_walk ht hg)
  clear ht hg
  go_enter Tryd.func4, Tryd.ntmps4
  go_wp2_with fail
  refine S.out.mono ?_
  rintro e w' ⟨rfl, b⟩
  have B := Lib.hid b
  clear b S
  go_wp2_with fail
  go_ret
  exact ⟨rfl, B.out⟩

def BusyRel (W : World) (m bz k len : Nat) (i c : Value) (wr : World) : Prop := ∃ j n : Nat, j ≤ len ∧ n ≤ j ∧ i = num j ∧ c = num n ∧ BusyAt W m bz k n (decide (0 < n)) wr
def LessRel (W : World) (m bz k n : Nat) (b : Bool) (i : Value) (wr : World) : Prop := ∃ j : Nat, j ≤ n ∧ i = num j ∧ BusyAt W m bz k (n - j) b wr

set_option maxRecDepth 100000 in
set_option maxHeartbeats 4000000 in
theorem ibusy_walk (A : Option Addr) (len cap : Nat) (z : Nat → Nat) (g : Nat) {w : World} (ht : Tab 0 w) (hg : 0 < w.heap.size) (hl : len ≤ 200) (hg8 : g ≤ 255) (hz : ByteArg w A len z) :
    Calls Tryd.prog 4 #[.slice A len cap, .int .u8 g] w fun e w' => e = .returned (.bool true) ∧ Below w.heap.size w w' := by
  obtain ⟨k, hk⟩ : ∃ k : Nat, k = g % 64 := ⟨_, rfl⟩
  have hk64 : k < 64 := by omega
  have HK := Lib.hid (show (g : Int) % 64 = (k : Int) by omega)
  have HZ := Lib.hid hz
  have S := Lib.hid (shown_walk ht hg)
  clear ht hg hk hz
  go_enter Tryd.func4, Tryd.ntmps4
  go_wp2_with fail
  refine S.out.mono ?_
  rintro e w1 ⟨rfl, e1⟩
  have HN := Lib.hid (new_walk 256 w1 (by decide) (by decide))
  have E1 := Lib.hid e1
  clear S e1
  go_wp2_with fail
  refine HN.out.mono ?_
  rintro e w2 ⟨m, bz, rfl, hm, l1, l2, e2⟩
  have hs1 := E1.out.size
  have hmW : w.heap.size ≤ m := by omega
  have hbW : w.heap.size ≤ bz := by omega
  have B0 := Lib.hid (show BusyAt w m bz k 0 (decide (0 < 0)) w2 from ⟨0, _, hm, by rw [List.getD_eq_getElem?_getD, List.getElem?_replicate, if_pos (show k < regs 256 from hk64)]; rfl, by simp, E1.out.trans e2⟩)
  have HL := Lib.hid (And.intro hmW hbW)
  clear HN hm l1 l2 e2 hs1 hmW hbW E1
  go_wp2_with fail
  rw [HK.out]
  clear HK
  go_loopw [8, 7] (fun i c wr => BusyRel w m bz k len i c wr) (fun i _ _ => len - (intOf i).toNat)
  case atStart => exact ⟨0, 0, Nat.zero_le _, Nat.le_refl _, rfl, rfl, B0.out⟩
  case round =>
    obtain ⟨j, n, hj, hn, rfl, rfl, hb⟩ := hrel
    clear B0
    by_cases hlt : j < len
    · obtain ⟨hz1, x, rfl, hc⟩ := HZ.out j hlt
      have hext : Ext w wr := by obtain ⟨_, _, _, _, _, h⟩ := hb; exact h
      have hcr := hext.cell hc
      have HH := Lib.hid (hit_walk hb HL.out.1 HL.out.2 hk64 hz1 (by omega))
      have C0 := Lib.hid hc
      clear hc hb hext HZ
      generalize z j = y at hcr HH C0 hz1
      go_wp2_with fail
      refine HH.out.mono ?_
      rintro e w3 ⟨⟨f, rfl⟩, HS, e3⟩
      have hcr3 := e3.cell C0.out
      have HS' := Lib.hid HS
      clear HS HH hcr
      go_wp2_with fail
      refine HS'.out.mono ?_
      rintro e w4 ⟨rfl, hb4⟩
      have hcr4 : w4.cell? (x.add j) = some (.int .u8 (y : Nat)) := by
        obtain ⟨_, _, _, _, _, h⟩ := hb4
        exact h.cell C0.out
      have B4 := Lib.hid hb4
      clear HS' hb4 hcr3 C0 e3
      by_cases hyk : y / 4 = k
      · have ht : ((y : Int) / 4 == (k : Int)) = true := by
          have : (y : Int) / 4 = (k : Int) := by omega
          simpa using this
        have B5 := Lib.hid (show BusyAt w m bz k (n + 1) (decide (0 < n + 1)) w4 by
          have h := B4.out
          rw [if_pos hyk, decide_eq_true hyk, Bool.or_true] at h
          rw [decide_eq_true (by omega)]
          exact h)
        clear B4 hyk
        go_wp2_with fail
        go_roundw
        case rel => exact ⟨j + 1, n + 1, by omega, by omega, by go_num, by go_num, B5.out⟩
        case measure => simp [intOf]; omega
      · have ht : ((y : Int) / 4 == (k : Int)) = false := by
          have : (y : Int) / 4 ≠ (k : Int) := by omega
          simpa using this
        have B5 := Lib.hid (show BusyAt w m bz k n (decide (0 < n)) w4 by
          have h := B4.out
          rw [if_neg hyk, decide_eq_false hyk, Bool.or_false] at h
          exact h)
        clear B4 hyk
        go_wp2_with fail
        go_roundw
        case rel => exact ⟨j + 1, n, by omega, by omega, by go_num, rfl, B5.out⟩
        case measure => simp [intOf]; omega
    · have B5 := Lib.hid hb
      have hn200 : n ≤ 200 := by omega
      clear hb HZ
      go_wp2_with fail
      go_loopw [11] (fun i wx => LessRel w m bz k n (decide (0 < n)) i wx) (fun i _ => n - (intOf i).toNat)
      case atStart => exact ⟨0, Nat.zero_le _, rfl, B5.out⟩
      case round =>
        obtain ⟨j, hj, rfl, hb⟩ := hrel
        clear B5
        by_cases hlt : j < n
        · obtain ⟨d, hd⟩ : ∃ d, n - j = d + 1 := ⟨n - j - 1, by omega⟩
          have hd' : n - (j + 1) = d := by omega
          rw [hd, decide_eq_true (show 0 < n by omega)] at hb
          have H1 := Lib.hid (less_walk hb HL.out.1 HL.out.2 hk64 (Nat.mod_lt j (show 0 < 4 by decide)) (by omega))
          have HD := Lib.hid hd'
          clear hb hd hd'
          go_wp2_with fail
          refine H1.out.mono ?_
          rintro e w3 ⟨rfl, e3, h3⟩
          have H3 := Lib.hid h3
          clear H1 h3 e3
          go_wp2_with fail
          rw [show (k : Int) * 4 = ((k * 4 : Nat) : Int) by omega]
          refine H3.out.mono ?_
          rintro e w4 ⟨rfl, e4, h4⟩
          have H4 := Lib.hid h4
          clear H3 h4 e4
          go_wp2_with fail
          rw [show (k : Int) * 4 + (j : Int) % 4 = ((k * 4 + j % 4 : Nat) : Int) by omega]
          refine H4.out.mono ?_
          rintro e w5 ⟨rfl, h5⟩
          have H5 := Lib.hid h5
          clear H4 h5
          go_wp2_with fail
          go_roundw
          case rel => exact ⟨j + 1, by omega, by go_num, by rw [HD.out, decide_eq_true (show 0 < n by omega)]; exact H5.out⟩
          case measure => simp [intOf]; omega
        · rw [show n - j = 0 by omega] at hb
          obtain ⟨b, hbn⟩ : ∃ b, decide (0 < n) = b := ⟨_, rfl⟩
          rw [hbn] at hb
          have H1 := Lib.hid (last_walk hb HL.out.1 HL.out.2 hk64)
          clear hb
          cases b
          · have hx : ¬ (0 : Int) < (n : Int) := by have := of_decide_eq_false hbn; omega
            clear hbn
            go_wp2_with fail
            rw [show (k : Int) * 4 = ((k * 4 : Nat) : Int) by omega]
            refine H1.out.mono ?_
            rintro e w3 ⟨rfl, h3⟩
            have H3 := Lib.hid h3
            clear H1 h3
            go_wp2_with fail
            refine H3.out.mono ?_
            rintro e w4 ⟨rfl, h4⟩
            have H4 := Lib.hid h4
            clear H3 h4
            go_wp2_with fail
            refine H4.out.mono ?_
            rintro e w5 ⟨rfl, h5⟩
            have H5 := Lib.hid h5
            clear H4 h5
            go_wp2_with fail
            refine H5.out.mono ?_
            rintro e w6 ⟨rfl, e6⟩
            have E6 := Lib.hid e6
            clear H5 e6
            go_wp2
            go_ret
            exact ⟨rfl, E6.out⟩
          · have hx : (0 : Int) < (n : Int) := by have := of_decide_eq_true hbn; omega
            clear hbn
            go_wp2_with fail
            rw [show (k : Int) * 4 = ((k * 4 : Nat) : Int) by omega]
            refine H1.out.mono ?_
            rintro e w3 ⟨rfl, h3⟩
            have H3 := Lib.hid h3
            clear H1 h3
            go_wp2_with fail
            refine H3.out.mono ?_
            rintro e w4 ⟨rfl, h4⟩
            have H4 := Lib.hid h4
            clear H3 h4
            go_wp2_with fail
            refine H4.out.mono ?_
            rintro e w5 ⟨rfl, h5⟩
            have H5 := Lib.hid h5
            clear H4 h5
            go_wp2_with fail
            refine H5.out.mono ?_
            rintro e w6 ⟨rfl, e6⟩
            have E6 := Lib.hid e6
            clear H5 e6
            go_wp2
            go_ret
            exact ⟨rfl, E6.out⟩

end Go.Proofs.YtabjknljcmcmfaaDoor
