/- IntentMerges: the walk. -/
import Derived.Test.YtabjknljcmcmfaaDoorIntBytes
import Derived.Test.YtabjknljcmcmfaaDoorLawIBusy
import Derived.Test.YtabjknljcmcmfaaDoorClass
namespace Go.Proofs.YtabjknljcmcmfaaDoor
open Go.RowKit

theorem lt_bitLenAux : ∀ (f x : Nat), x < 2 ^ f → x < 2 ^ Lib.bitLenAux f x
  | 0, x, h => by simpa [Lib.bitLenAux] using h
  | f + 1, x, h => by
    unfold Lib.bitLenAux
    by_cases h0 : x = 0
    · rw [if_pos h0, h0]; decide
    · rw [if_neg h0]
      have := lt_bitLenAux f (x / 2) (by rw [Nat.pow_succ] at h; omega)
      rw [Nat.add_comm, Nat.pow_succ]
      omega
theorem bitLen_iff (x k : Nat) (hk : k ≤ 64) (hx : x < two64) : Lib.bitLen x ≤ k ↔ x < 2 ^ k :=
  ⟨fun h => Nat.lt_of_lt_of_le (lt_bitLenAux 64 x hx) (Nat.pow_le_pow_right (n := 2) (show 0 < 2 by decide) h), fun h => Lib.bitLen_le x k hk h⟩

/-- Two maps of n rows in memory. -/
structure TwoMaps (W0 : World) (n m bz k bk sa sb : Nat) (W : World) : Prop where
  a : ∃ busy, MapV W m bz n sa busy
  b : ∃ busy, MapV W k bk n sb busy
  la : sa < 2 ^ regs n
  lb : sb < 2 ^ regs n
  ext : Ext W0 W
structure Apart (W0 : World) (m bz k bk : Nat) : Prop where
  m0 : W0.heap.size ≤ m
  bz0 : W0.heap.size ≤ bz
  k0 : W0.heap.size ≤ k
  bk0 : W0.heap.size ≤ bk
  mnk : m ≠ k
  mbk : m ≠ bk
  bzk : bz ≠ k
  bzbk : bz ≠ bk
def AnyMaps (W0 : World) (n m bz k bk : Nat) (W : World) : Prop := ∃ sa sb, TwoMaps W0 n m bz k bk sa sb W

section
variable {W0 W : World} {n m bz k bk sa sb : Nat} (h : TwoMaps W0 n m bz k bk sa sb W)
include h
theorem TwoMaps.later {W' : World} (e : Ext W W') : TwoMaps W0 n m bz k bk sa sb W' := by
  obtain ⟨⟨b1, h1⟩, ⟨b2, h2⟩, h3, h4, h5⟩ := h
  exact ⟨⟨b1, h1.ext e⟩, ⟨b2, h2.ext e⟩, h3, h4, h5.trans e⟩
theorem TwoMaps.regsA : Calls Tryd.prog 10 #[ptr m] W fun e w' => e = .returned (num (regs n : Nat)) ∧ w' = W := by
  obtain ⟨⟨b1, h1⟩, _⟩ := h
  exact regions_walk h1
theorem TwoMaps.regsB : Calls Tryd.prog 10 #[ptr k] W fun e w' => e = .returned (num (regs n : Nat)) ∧ w' = W := by
  obtain ⟨_, ⟨b1, h1⟩, _⟩ := h
  exact regions_walk h1
theorem TwoMaps.markA (d : Apart W0 m bz k bk) (r : Nat) (hr : r < regs n) : Calls Tryd.prog 13 #[ptr m, num r] W fun e w' => e = .returned (num 0) ∧ TwoMaps W0 n m bz k bk (sa ||| 2 ^ r) sb w' := by
  obtain ⟨⟨b1, h1⟩, ⟨b2, h2⟩, h3, h4, h5⟩ := h
  refine (mark_walk h1 r hr).mono ?_
  rintro e w' ⟨rfl, hm, hk⟩
  refine ⟨rfl, ⟨_, hm⟩, ⟨_, h2.keep hk (fun h => ?_) (fun h => ?_)⟩, Nat.or_lt_two_pow h3 (Nat.pow_lt_pow_right (by decide) hr), h4, h5.keeps hk (fun i h => ?_)⟩
  · rcases h with h | h
    · exact d.mnk h.symm
    · exact d.bzk h.symm
  · rcases h with h | h
    · exact d.mbk h.symm
    · exact d.bzbk h.symm
  · rcases h with rfl | rfl
    · exact d.m0
    · exact d.bz0
theorem TwoMaps.markB (d : Apart W0 m bz k bk) (r : Nat) (hr : r < regs n) : Calls Tryd.prog 13 #[ptr k, num r] W fun e w' => e = .returned (num 0) ∧ TwoMaps W0 n m bz k bk sa (sb ||| 2 ^ r) w' := by
  obtain ⟨⟨b1, h1⟩, ⟨b2, h2⟩, h3, h4, h5⟩ := h
  refine (mark_walk h2 r hr).mono ?_
  rintro e w' ⟨rfl, hm, hk⟩
  refine ⟨rfl, ⟨_, h1.keep hk (fun h => ?_) (fun h => ?_)⟩, ⟨_, hm⟩, h3, Nat.or_lt_two_pow h4 (Nat.pow_lt_pow_right (by decide) hr), h5.keeps hk (fun i h => ?_)⟩
  · rcases h with h | h
    · exact d.mnk h
    · exact d.mbk h
  · rcases h with h | h
    · exact d.bzk h
    · exact d.bzbk h
  · rcases h with rfl | rfl
    · exact d.k0
    · exact d.bk0
theorem TwoMaps.bytesA : Calls Tryd.prog 18 #[ptr m] W fun e w' => e = .returned (.string (str8 sa)) ∧ Ext W w' := by
  obtain ⟨⟨b1, h1⟩, _⟩ := h
  exact bytes_walk h1
theorem TwoMaps.smallA (hn : n ≤ 256) : sa < two64 := Nat.lt_of_lt_of_le h.la (Nat.pow_le_pow_right (n := 2) (j := 64) (show 0 < 2 by decide) (regs_le hn))
theorem TwoMaps.smallB (hn : n ≤ 256) : sb < two64 := Nat.lt_of_lt_of_le h.lb (Nat.pow_le_pow_right (n := 2) (j := 64) (show 0 < 2 by decide) (regs_le hn))
theorem TwoMaps.mergeB (d : Apart W0 m bz k bk) (hn : n ≤ 256) : Calls Tryd.prog 17 #[ptr k, .string (str8 sa)] W fun e w' => e = .returned (num 0) ∧ TwoMaps W0 n m bz k bk sa (sb ||| sa) w' ∧ Keeps (mapF k bk) W w' := by
  have hsa := h.smallA hn
  obtain ⟨⟨b1, h1⟩, ⟨b2, h2⟩, h3, h4, h5⟩ := h
  have hle : leNum (byteOf (str8 sa)) 8 = sa := by
    have e : ∀ k, k ≤ 8 → leNum (byteOf (str8 sa)) k = leNum (byteAt sa) k := by
      intro k
      induction k with
      | zero => intro _; rfl
      | succ k ih => intro hk; rw [leNum, leNum, ih (by omega), byteOf_str8 sa k (by omega)]
    rw [e 8 (Nat.le_refl _), leNum_byteAt sa hsa]
  have hc : (str8 sa).size = 8 ∧ Lib.bitLen (leNum (byteOf (str8 sa)) 8) ≤ regs n := ⟨str8_size sa, by rw [hle]; exact (bitLen_iff sa (regs n) (regs_le hn) hsa).2 h3⟩
  have hw := merge_walk h2 (str8 sa)
  rw [mergeE, if_pos hc, mergeSt, if_pos hc, hle] at hw
  refine hw.mono ?_
  rintro e w' ⟨rfl, hm, hk⟩
  refine ⟨rfl, ⟨⟨_, h1.keep hk (fun h => ?_) (fun h => ?_)⟩, ⟨_, hm⟩, h3, Nat.or_lt_two_pow h4 h3, h5.keeps hk (fun i h => ?_)⟩, hk⟩
  · rcases h with h | h
    · exact d.mnk h
    · exact d.mbk h
  · rcases h with h | h
    · exact d.bzk h
    · exact d.bzbk h
  · rcases h with rfl | rfl
    · exact d.k0
    · exact d.bk0
theorem TwoMaps.dirtyB (ht : Tab 0 W) (hg : 0 < W.heap.size) : Calls Tryd.prog 16 #[ptr k] W fun e W' => ∃ v, e = .returned v ∧ Own W' W.heap.size v (bitsI sb) ∧ Ext W W' := by
  obtain ⟨_, ⟨b1, h1⟩, _⟩ := h
  exact dirty_walk h1 ht hg
theorem TwoMaps.staleA (r : Nat) (hr : r < regs n) : Calls Tryd.prog 12 #[ptr m, num ((r * 4 : Nat) : Int)] W fun e w' => e = .returned (.bool (sa.testBit r)) ∧ Ext W w' := by
  obtain ⟨⟨b1, h1⟩, _⟩ := h
  have := stale_walk h1 (r * 4) (by unfold regs at hr; have := h1.row1; omega)
  rw [show r * 4 / 4 = r by omega] at this
  exact this
theorem TwoMaps.staleB (r : Nat) (hr : r < regs n) : Calls Tryd.prog 12 #[ptr k, num ((r * 4 : Nat) : Int)] W fun e w' => e = .returned (.bool (sb.testBit r)) ∧ Ext W w' := by
  obtain ⟨_, ⟨b1, h1⟩, _⟩ := h
  have := stale_walk h1 (r * 4) (by unfold regs at hr; have := h1.row1; omega)
  rw [show r * 4 / 4 = r by omega] at this
  exact this
end

/-! ### Over the class -/
section
variable {W0 : World} {n m bz k bk : Nat} (W : In (AnyMaps W0 n m bz k bk))
theorem any_regsA : Calls Tryd.prog 10 #[ptr m] W.val fun e w'' => e = .returned (num (regs n : Nat)) ∧ ∃ W' : In (AnyMaps W0 n m bz k bk), w'' = W'.val := by
  obtain ⟨sa, sb, h⟩ := W.is
  exact calls_class h.regsA (fun e w' r => ⟨r.1, by rw [r.2]; exact ⟨sa, sb, h⟩⟩)
theorem any_regsB : Calls Tryd.prog 10 #[ptr k] W.val fun e w'' => e = .returned (num (regs n : Nat)) ∧ ∃ W' : In (AnyMaps W0 n m bz k bk), w'' = W'.val := by
  obtain ⟨sa, sb, h⟩ := W.is
  exact calls_class h.regsB (fun e w' r => ⟨r.1, by rw [r.2]; exact ⟨sa, sb, h⟩⟩)
theorem any_markA (d : Apart W0 m bz k bk) (r : Nat) (hr : r < regs n) : Calls Tryd.prog 13 #[ptr m, num r] W.val fun e w'' => e = .returned (num 0) ∧ ∃ W' : In (AnyMaps W0 n m bz k bk), w'' = W'.val := by
  obtain ⟨sa, sb, h⟩ := W.is
  exact calls_class (h.markA d r hr) (fun e w' r => ⟨r.1, _, _, r.2⟩)
theorem any_markB (d : Apart W0 m bz k bk) (r : Nat) (hr : r < regs n) : Calls Tryd.prog 13 #[ptr k, num r] W.val fun e w'' => e = .returned (num 0) ∧ ∃ W' : In (AnyMaps W0 n m bz k bk), w'' = W'.val := by
  obtain ⟨sa, sb, h⟩ := W.is
  exact calls_class (h.markB d r hr) (fun e w' r => ⟨r.1, _, _, r.2⟩)
end
theorem AnyMaps.drew {W0 W : World} {n m bz k bk : Nat} (h : AnyMaps W0 n m bz k bk W) : AnyMaps W0 n m bz k bk W.drew := by
  obtain ⟨sa, sb, h⟩ := h
  exact ⟨sa, sb, h.later (Ext.refl _).drew⟩
theorem AnyMaps.ext {W0 W : World} {n m bz k bk : Nat} (h : AnyMaps W0 n m bz k bk W) : Ext W0 W := by
  obtain ⟨sa, sb, h⟩ := h
  exact h.ext

set_option maxRecDepth 100000 in
theorem imerges_long (rows : Nat) (A : Option Addr) (len cap : Nat) (A' : Option Addr) (len' cap' : Nat) (w : World) (ht : Tab 0 w) (hg : 0 < w.heap.size) (hl : 100 < len ∨ 100 < len') :
    Calls Tryd.prog 5 #[.int .u8 rows, .slice A len cap, .slice A' len' cap'] w fun e w' => e = .returned (.bool true) ∧ Below w.heap.size w w' := by
  have S := Lib.hid (shown_walk ht hg)
  clear ht hg
  by_cases h1 : 100 < len
  · clear hl
    go_enter Tryd.func5, Tryd.ntmps5
    go_wp2_with fail
    refine S.out.mono ?_
    rintro e w' ⟨rfl, b⟩
    have B := Lib.hid b
    clear b S
    go_wp2_with fail
    go_ret
    exact ⟨rfl, B.out⟩
  · have h2 : 100 < len' := by omega
    clear hl
    go_enter Tryd.func5, Tryd.ntmps5
    go_wp2_with fail
    refine S.out.mono ?_
    rintro e w' ⟨rfl, b⟩
    have B := Lib.hid b
    clear b S
    go_wp2_with fail
    go_ret
    exact ⟨rfl, B.out⟩

end Go.Proofs.YtabjknljcmcmfaaDoor
