/- gf: Xor. -/
import Derived.Test.YtdilchcnfnfdiaaGreatDoorTGf
namespace Go.Proofs.YtdilchcnfnfdiaaGreatDoor
open Go.RowKit

theorem cell_blkF {w : World} {b : Nat} {cs : Array Value} {t : TypeId} {fr : Nat × Nat} (h : w.heap[b]? = some (.cells cs t fr)) (i : Nat) : w.cell? ⟨b, i, none⟩ = cs[i]? := cell_of_row w b i cs t fr h
theorem free_blkF {w : World} {b : Nat} {cs : Array Value} {t : TypeId} {n : Nat} (h : w.heap[b]? = some (.cells cs t (n, n + 1))) {i : Nat} (hi : i < n) : w.frozen? ⟨b, i, none⟩ = false := by
  simp [World.frozen?, h]
  omega
theorem set_blkF {w : World} {b : Nat} {cs : Array Value} {t : TypeId} {fr : Nat × Nat} (h : w.heap[b]? = some (.cells cs t fr)) (i : Nat) (u : Value) :
    (w.setCell ⟨b, i, none⟩ u).heap[b]? = some (.cells (cs.setIfInBounds i u) t fr) := by
  simp [World.setCell, Array.getElem?_modify, h]

def xorPart (A B : List Nat) (k : Nat) : List Nat := (List.range A.length).map fun j => if j < k then A.getD j 0 ^^^ B.getD j 0 else A.getD j 0
theorem xorPart_len (A B : List Nat) (k : Nat) : (xorPart A B k).length = A.length := by simp [xorPart]
theorem xorPart_at (A B : List Nat) (k : Nat) {j : Nat} (hj : j < A.length) : (xorPart A B k).getD j 0 = if j < k then A.getD j 0 ^^^ B.getD j 0 else A.getD j 0 := by simp [xorPart, hj]
theorem getD_ext {a b : List Nat} (hl : a.length = b.length) (h : ∀ j, j < a.length → a.getD j 0 = b.getD j 0) : a = b := by
  apply List.ext_getElem hl
  intro j h1 h2
  have := h j h1
  simpa [h1, h2] using this
theorem getD_out {a : List Nat} {j : Nat} (h : a.length ≤ j) : a.getD j 0 = 0 := by
  rw [List.getD_eq_getElem?_getD, List.getElem?_eq_none h]
  rfl
theorem xorPart_all {A B : List Nat} (h : B.length ≤ A.length) : xorPart A B B.length = xorL A B := by
  refine getD_ext (by rw [xorPart_len, xorL_len]; omega) (fun j hj => ?_)
  rw [xorPart_len] at hj
  rw [xorPart_at A B _ hj, xorL_at]
  split
  · rfl
  · rw [getD_out (a := B) (by omega), Nat.xor_zero]
/-- The bytes that are being changed. -/
def XorAt (g : Nat) (A B : List Nat) (k : Nat) (W : World) : Prop :=
  ∃ cs n, W.heap[g]? = some (.cells cs 5 (n, n + 1)) ∧ cs.size = n ∧ A.length ≤ n ∧ ∀ j, j < A.length → cs[j]? = some (.int .u8 ((xorPart A B k).getD j 0 : Int))
theorem XorAt.step {g : Nat} {A B : List Nat} {k : Nat} {W : World} (h : XorAt g A B k W) (hk : k < A.length) : XorAt g A B (k + 1) (W.setCell ⟨g, k, none⟩ (.int .u8 (A.getD k 0 ^^^ B.getD k 0 : Nat))) := by
  obtain ⟨cs, n, h1, h2, h3, h4⟩ := h
  refine ⟨_, n, set_blkF h1 k _, by rw [Array.size_setIfInBounds]; exact h2, h3, fun j hj => ?_⟩
  rw [xorPart_at A B _ hj]
  by_cases e : j = k
  · subst e
    rw [Array.getElem?_setIfInBounds_self_of_lt (by omega), if_pos (by omega)]
  · rw [Array.getElem?_setIfInBounds_ne (by omega), h4 j hj, xorPart_at A B _ hj]
    by_cases e2 : j < k
    · rw [if_pos e2, if_pos (by omega)]
    · rw [if_neg e2, if_neg (by omega)]
theorem XorAt.drew {g : Nat} {A B : List Nat} {k : Nat} {W : World} (h : XorAt g A B k W) : XorAt g A B k W.drew := h
def XorRel (w : World) (A B : List Nat) (i : Value) (wr : World) : Prop := ∃ k : Nat, k ≤ B.length ∧ i = num k ∧ XorAt w.heap.size A B k wr ∧ Ext w wr
theorem XorAt.start (w : World) (s : ByteArray) (B : List Nat) (cap : Nat) : XorAt w.heap.size (secOf s) B 0 (w.drew.alloc (.cells (bytesRow s cap) 5 ((bytesRow s cap).size, (bytesRow s cap).size + 1))) := by
  refine ⟨_, _, alloc_new w.drew _, rfl, ?_, fun j hj => ?_⟩
  · rw [secOf_len]
    unfold bytesRow
    rw [Array.size_append, Array.size_map]
    show s.data.size ≤ _
    omega
  · rw [secOf_len] at hj
    have hj' : j < s.data.size := hj
    rw [xorPart_at _ _ _ (by rw [secOf_len]; exact hj), if_neg (by omega), bytesRow_at s cap j hj']
    unfold secOf
    rw [List.getD_eq_getElem?_getD, List.getElem?_map, Array.getElem?_toList, Array.getElem?_eq_getElem hj']
    rfl
theorem sec_at (s : ByteArray) (k : Nat) (h : k < s.size) : s[k].toNat = (secOf s).getD k 0 := by
  have hk' : k < s.data.size := h
  unfold secOf
  rw [List.getD_eq_getElem?_getD, List.getElem?_map, Array.getElem?_toList, Array.getElem?_eq_getElem hk']
  rfl
theorem XorAt.conv {g cap : Nat} {A B : List Nat} {k : Nat} {W : World} (h : XorAt g A B k W) (hlt : ∀ x ∈ xorPart A B k, x < 256) : (convert 34 9 (.slice (some ⟨g, 0, none⟩) A.length cap)).run Tryz.prog W = .ok (.string (textOf (xorPart A B k))) W := by
  obtain ⟨cs, n, h1, h2, h3, h4⟩ := h
  have := run_text W g cap (xorPart A B k) hlt (fun j v hv => by
    have hj : j < (xorPart A B k).length := by
      have := (List.getElem?_eq_some_iff.1 hv).1
      rwa [cellsS_len] at this
    rw [cell_blkF h1, h4 j (by rw [← xorPart_len A B k]; exact hj), ← hv]
    simp [cellsS, hj])
  rwa [xorPart_len] at this
def xorT (a b : ByteArray) : ByteArray := textOf (xorL (secOf a) (secOf b))

set_option maxRecDepth 100000 in
set_option maxHeartbeats 4000000 in
theorem xor_walk (a b : ByteArray) (w : World) (ha : a.size ≤ 1000) (hb : b.size ≤ 1000) :
    Calls Tryz.prog 31 #[.string a, .string b] w fun e w' => e = .returned (.string (xorT a b)) ∧ Ext w w' := by
  unfold xorT
  have hai : (a.size : Int) ≤ 1000 := by omega
  have hbi : (b.size : Int) ≤ 1000 := by omega
  have kc := fun (s : ByteArray) (W : World) => run_bytes_of_string (P := Tryz.prog) W 9 34 5 s Tryz.underlying9 Tryz.underlying34 Tryz.underlying5
  by_cases hlt : a.size < b.size
  · have hli : (a.size : Int) < b.size := by omega
    have hsl : (secOf a).length ≤ (secOf b).length := by rw [secOf_len, secOf_len]; omega
    have HXY := Lib.hid (show textOf (xorL (secOf a) (secOf b)) = textOf (xorL (secOf b) (secOf a)) from by rw [xorL_comm])
    obtain ⟨cap, hcap⟩ : ∃ cap, grownCap w b.size 0 5 = cap := ⟨_, rfl⟩
    have hcl : b.size ≤ cap := by rw [← hcap]; exact grownCap_ge ..
    have kx := kc b w
    rw [hcap] at kx
    have R0 := Lib.hid (show XorRel w (secOf b) (secOf a) (num 0) (w.drew.alloc (.cells (bytesRow b cap) 5 ((bytesRow b cap).size, (bytesRow b cap).size + 1))) from
      ⟨0, Nat.zero_le _, rfl, XorAt.start w b _ cap, (Ext.refl w).drew.alloc _⟩)
    have HSL := Lib.hid hsl
    clear kc hsl hcap
    go_enter Tryz.func31, Tryz.ntmps31
    go_wp2_with fail
    go_loopw [18] (fun i wr => XorRel w (secOf b) (secOf a) i wr) (fun i _ => a.size - (intOf i).toNat)
    case atStart => exact R0.out
    case round =>
      obtain ⟨k, hk, rfl, hx, he⟩ := hrel
      clear R0 kx
      rw [secOf_len] at hk
      by_cases hkl : k < a.size
      · have hkx : k < (secOf b).length := by have h := HSL.out; rw [secOf_len] at h; omega
        have hkX : (k : Int) < b.size := by rw [secOf_len] at hkx; omega
        have hq := sec_at a k hkl
        have hq2 : a[k].toNat < 256 := a[k].toNat_lt
        have hst := hx.step hkx
        obtain ⟨cs, n, h1, h2, h3, h4⟩ := hx
        have h5 := h4 k hkx
        rw [xorPart_at _ _ _ hkx, if_neg (Nat.lt_irrefl k)] at h5
        have hp2 : (secOf b).getD k 0 < 256 := by
          rw [List.getD_eq_getElem?_getD, List.getElem?_eq_getElem hkx]
          exact secOf_lt b _ (List.getElem_mem hkx)
        obtain ⟨p, hp⟩ : ∃ p, (secOf b).getD k 0 = p := ⟨_, rfl⟩
        obtain ⟨q, hq0⟩ : ∃ q, (secOf a).getD k 0 = q := ⟨_, rfl⟩
        rw [hp, hq0] at hst
        rw [hp] at h5 hp2
        rw [hq0] at hq
        rw [hq] at hq2
        have c1 : wr.drew.cell? ⟨w.heap.size, k, none⟩ = some (.int .u8 (p : Int)) := by rw [cell_blkF (w := wr.drew) h1]; exact h5
        have f1 : wr.drew.frozen? ⟨w.heap.size, k, none⟩ = false := free_blkF (w := wr.drew) h1 (by omega)
        have hxo : bits BinOp.xor IntKind.u8 (p : Int) (q : Int) = ((p ^^^ q : Nat) : Int) := u8_xor_nat p q hp2 hq2
        obtain ⟨m, hm⟩ : ∃ m, p ^^^ q = m := ⟨_, rfl⟩
        rw [hm] at hxo hst
        have RX := Lib.hid (show XorRel w (secOf b) (secOf a) (num ((k : Int) + 1)) (wr.setCell ⟨w.heap.size, k, none⟩ (.int .u8 (m : Int))).drew from
          ⟨k + 1, by rw [secOf_len]; omega, by go_num, hst, (he.set (p := ⟨w.heap.size, k, none⟩) (Nat.le_refl _) _).drew⟩)
        have hki : (k : Int) < a.size := by omega
        have hk0 : (0 : Int) ≤ k := by omega
        clear hst h1 h2 h3 h4 h5 hp hq0 hm he hkx hq2 hp2
        go_wp2_with fail
        go_still_tail 9, (by kernel_rfl)
        go_wp2_with fail
        go_roundw
        case rel => exact RX.out
        case measure => simp [intOf]; omega
      · obtain rfl : k = a.size := by omega
        have hcv := hx.conv (cap := cap) (by
          rw [← secOf_len, xorPart_all HSL.out]
          exact xorL_lt (secOf_lt b) (secOf_lt a))
        rw [← secOf_len a, xorPart_all HSL.out, secOf_len b] at hcv
        have R := Lib.hid he
        clear hx he
        go_wp2_with fail
        go_ret
        exact ⟨by rw [HXY.out]; rfl, R.out⟩
  · have hli : ¬ (a.size : Int) < b.size := by omega
    have hsl : (secOf b).length ≤ (secOf a).length := by rw [secOf_len, secOf_len]; omega
    have HXY := Lib.hid (show textOf (xorL (secOf a) (secOf b)) = textOf (xorL (secOf a) (secOf b)) from rfl)
    obtain ⟨cap, hcap⟩ : ∃ cap, grownCap w a.size 0 5 = cap := ⟨_, rfl⟩
    have hcl : a.size ≤ cap := by rw [← hcap]; exact grownCap_ge ..
    have kx := kc a w
    rw [hcap] at kx
    have R0 := Lib.hid (show XorRel w (secOf a) (secOf b) (num 0) (w.drew.alloc (.cells (bytesRow a cap) 5 ((bytesRow a cap).size, (bytesRow a cap).size + 1))) from
      ⟨0, Nat.zero_le _, rfl, XorAt.start w a _ cap, (Ext.refl w).drew.alloc _⟩)
    have HSL := Lib.hid hsl
    clear kc hsl hcap
    go_enter Tryz.func31, Tryz.ntmps31
    go_wp2_with fail
    go_loopw [18] (fun i wr => XorRel w (secOf a) (secOf b) i wr) (fun i _ => b.size - (intOf i).toNat)
    case atStart => exact R0.out
    case round =>
      obtain ⟨k, hk, rfl, hx, he⟩ := hrel
      clear R0 kx
      rw [secOf_len] at hk
      by_cases hkl : k < b.size
      · have hkx : k < (secOf a).length := by have h := HSL.out; rw [secOf_len] at h; omega
        have hkX : (k : Int) < a.size := by rw [secOf_len] at hkx; omega
        have hq := sec_at b k hkl
        have hq2 : b[k].toNat < 256 := b[k].toNat_lt
        have hst := hx.step hkx
        obtain ⟨cs, n, h1, h2, h3, h4⟩ := hx
        have h5 := h4 k hkx
        rw [xorPart_at _ _ _ hkx, if_neg (Nat.lt_irrefl k)] at h5
        have hp2 : (secOf a).getD k 0 < 256 := by
          rw [List.getD_eq_getElem?_getD, List.getElem?_eq_getElem hkx]
          exact secOf_lt a _ (List.getElem_mem hkx)
        obtain ⟨p, hp⟩ : ∃ p, (secOf a).getD k 0 = p := ⟨_, rfl⟩
        obtain ⟨q, hq0⟩ : ∃ q, (secOf b).getD k 0 = q := ⟨_, rfl⟩
        rw [hp, hq0] at hst
        rw [hp] at h5 hp2
        rw [hq0] at hq
        rw [hq] at hq2
        have c1 : wr.drew.cell? ⟨w.heap.size, k, none⟩ = some (.int .u8 (p : Int)) := by rw [cell_blkF (w := wr.drew) h1]; exact h5
        have f1 : wr.drew.frozen? ⟨w.heap.size, k, none⟩ = false := free_blkF (w := wr.drew) h1 (by omega)
        have hxo : bits BinOp.xor IntKind.u8 (p : Int) (q : Int) = ((p ^^^ q : Nat) : Int) := u8_xor_nat p q hp2 hq2
        obtain ⟨m, hm⟩ : ∃ m, p ^^^ q = m := ⟨_, rfl⟩
        rw [hm] at hxo hst
        have RX := Lib.hid (show XorRel w (secOf a) (secOf b) (num ((k : Int) + 1)) (wr.setCell ⟨w.heap.size, k, none⟩ (.int .u8 (m : Int))).drew from
          ⟨k + 1, by rw [secOf_len]; omega, by go_num, hst, (he.set (p := ⟨w.heap.size, k, none⟩) (Nat.le_refl _) _).drew⟩)
        have hki : (k : Int) < b.size := by omega
        have hk0 : (0 : Int) ≤ k := by omega
        clear hst h1 h2 h3 h4 h5 hp hq0 hm he hkx hq2 hp2
        go_wp2_with fail
        go_still_tail 9, (by kernel_rfl)
        go_wp2_with fail
        go_roundw
        case rel => exact RX.out
        case measure => simp [intOf]; omega
      · obtain rfl : k = b.size := by omega
        have hcv := hx.conv (cap := cap) (by
          rw [← secOf_len, xorPart_all HSL.out]
          exact xorL_lt (secOf_lt a) (secOf_lt b))
        rw [← secOf_len b, xorPart_all HSL.out, secOf_len a] at hcv
        have R := Lib.hid he
        clear hx he
        go_wp2_with fail
        go_ret
        exact ⟨rfl, R.out⟩

end Go.Proofs.YtdilchcnfnfdiaaGreatDoor
