/- Layer 15: Read. -/
import Derived.Test.YtllomgkdplpecaaPlanShown
namespace Go.Proofs.Ytllomgkdplpecaa
open Go.RowKit

def readOf (n k : Nat) (lo : List Int) : List Int × Nat :=
  if lo.contains (k : Int) = false then ([(k : Int)], 0) else if 2 < lo.length then ([], 60) else (wants n (fun _ i => !(lsOf n lo).getD i false), 0)

theorem Own.one (w : World) (B : Nat) (x : Int) (hB : B ≤ w.heap.size) : Own (w.alloc (.cells #[num x] 3)) B (.slice (some ⟨w.heap.size, 0, none⟩) 1 1) [x] := w.ownsRow_lit #[num x] 1 hB (by decide) rfl

set_option maxRecDepth 100000 in
set_option maxHeartbeats 800000 in
theorem read_walk {w : World} {n k : Nat} {v : Value} {lo : List Int} (h2 : 2 ≤ n) (h8 : n ≤ 8) (hk : k < n + 2) (hv : RdI w v lo) (hg : GoodLost n lo) :
    Calls Try.prog 12 #[num n, num k, v] w fun e w' => ∃ rv, e = .returned (.tuple #[rv, num (readOf n k lo).2]) ∧ Own w' w.heap.size rv (readOf n k lo).1 ∧ Ext w w' := by
  obtain ⟨A, cap, rfl, hc, hA⟩ := id hv
  have hmin : min (n : Int) 10 = (n : Int) := by omega
  have hmax : max (n : Int) 0 = (n : Int) := by omega
  have hmk : ∀ W : World, (Instr.makeSlice 22 (.int .i64 (n : Int)) (.int .i64 (n : Int))).run Try.prog W = .ok (.slice (some ⟨W.heap.size, 0, none⟩) n n) (W.alloc (.cells (Array.replicate n (Value.bool false)) 4)) := fun W => by simpa using make_bools n (by omega) W
  have e1 := (Ext.refl w).alloc (.cells (Array.replicate n (Value.bool false)) 4)
  have r1 : RdB (w.alloc (.cells (Array.replicate n (Value.bool false)) 4)) (.slice (some ⟨w.heap.size, 0, none⟩) n n) (List.replicate n false) := ⟨some ⟨w.heap.size, 0, none⟩, n, by simp, by simp, fun i hi => ⟨_, rfl, by
    rw [zero_add, cell_blk (alloc_new w _)]
    simp at hi
    simp [hi]⟩⟩
  have HM := Lib.hid (made_walk h2 h8 r1 (by simp) (hv.ext e1) hg)
  have E1 := Lib.hid e1
  have few := hg.few
  clear hA hv r1 e1
  go_enter Try.func12, Try.ntmps12
  go_wp2_with fail
  refine HM.out.mono ?_
  rintro e w2 ⟨lv, rfl, r, e2⟩
  obtain ⟨A2, cap2, rfl, hc2, hA2⟩ := id r.lo
  obtain ⟨x, rfl, hx⟩ := hA2 k (by rw [lsOf_len]; exact hk)
  rw [lsOf_get lo hk] at hx
  have BX := Lib.hid (boxed r)
  have E2 := Lib.hid (E1.out.trans e2)
  have hx' := BX.out.ext.cell hx
  have hl1 : k < (lsOf n lo).length := by rw [lsOf_len]; exact hk
  have hl2 : (lsOf n lo).length ≤ 10 := by rw [lsOf_len]; omega
  have hkn : ¬ ((n : Int) + 1 < (k : Int)) := by omega
  have HRD := Lib.hid (show readOf n k lo = if lo.contains (k : Int) = false then ([(k : Int)], 0) else if 2 < lo.length then ([], 60) else (wants n (fun _ i => !(lsOf n lo).getD i false), 0) from rfl)
  have HWH := Lib.hid (fun (W : World) (rr : RowV W n (.slice (some ⟨w.heap.size, 0, none⟩) n n) (.slice (some x) (lsOf n lo).length cap2) (List.replicate n false) (lsOf n lo)) => whole_walk rr)
  clear HM hA2 r e2 hx hg E1
  generalize lsOf n lo = ls at *
  cases hcon : lo.contains (k : Int) with
  | false =>
    rw [hcon] at hx'
    have HR := Lib.hid (show readOf n k lo = ([(k : Int)], 0) by rw [HRD.out, hcon]; rfl)
    have O := Lib.hid (Own.one (w2.alloc (.cells #[.int .i64 n, .slice (some ⟨w.heap.size, 0, none⟩) n n, .slice (some x) ls.length cap2] 41)) w.heap.size k (E2.out.trans BX.out.ext).size)
    have E3 := Lib.hid ((E2.out.trans BX.out.ext).alloc (.cells #[num k] 3))
    clear HRD hcon HWH
    go_wp2
    go_ret2
    refine ⟨.slice (some ⟨w2.heap.size + 1, 0, none⟩) 1 1, by rw [HR.out]; rfl, ?_, E3.out⟩
    rw [HR.out]
    have o := O.out
    rw [size_alloc] at o
    exact o
  | true =>
    rw [hcon] at hx'
    by_cases hlo : 2 < lo.length
    · have HR := Lib.hid (show readOf n k lo = ([], 60) by rw [HRD.out, hcon, if_pos hlo]; rfl)
      have E3 := Lib.hid (E2.out.trans BX.out.ext)
      clear HRD hcon HWH
      go_wp2
      go_ret2
      exact ⟨.slice none 0 0, by rw [HR.out]; rfl, by rw [HR.out]; exact Own.nil _ _, E3.out⟩
    · have HR := Lib.hid (show readOf n k lo = (wants n (fun _ i => !ls.getD i false), 0) by rw [HRD.out, hcon, if_neg hlo]; rfl)
      have E3 := Lib.hid (E2.out.trans BX.out.ext)
      have HW := Lib.hid (HWH.out _ BX.out.row)
      clear HRD hcon HWH
      go_wp2_with fail
      refine HW.out.mono ?_
      rintro e w3 ⟨rv, rfl, hrv, e3⟩
      have O := Lib.hid (hrv.mono E3.out.size)
      have E4 := Lib.hid (E3.out.trans e3)
      clear HW hrv e3 E3 BX
      go_wp2
      go_ret2
      exact ⟨_, by rw [HR.out]; rfl, by rw [HR.out]; exact O.out, E4.out⟩

end Go.Proofs.Ytllomgkdplpecaa
