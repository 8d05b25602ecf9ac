/- A drive, whatever it holds: Write, Flush, wipe. -/
import Derived.Test.YtdilchcnfnfdiaaGreatDoorTSmallA
namespace Go.Proofs.YtdilchcnfnfdiaaGreatDoor
open Go.RowKit

/-- A drive with whatever pending since W0. -/
def DB.Pnd (x : DB) (W0 w : World) (n L : Nat) : Prop := ∃ lim safe wr bad, lim ≤ L ∧ Pend W0 x.d x.sf x.m x.sp n lim safe wr bad w
theorem DB.Calm.pnd {x : DB} {w : World} {n L : Nat} (h : x.Calm w n L) : x.Pnd w w n L := by
  obtain ⟨lim, safe, bad, hl, hc⟩ := h
  exact ⟨lim, safe, _, bad, hl, hc.pend⟩
theorem DB.Pnd.ext {x : DB} {W0 w w' : World} {n L : Nat} (h : x.Pnd W0 w n L) (e : Ext w w') : x.Pnd W0 w' n L := by
  obtain ⟨lim, safe, wr, bad, hl, hp⟩ := h
  exact ⟨lim, safe, wr, bad, hl, hp.ext e⟩
theorem DB.Pnd.keeps {x : DB} {W0 w : World} {n L : Nat} (h : x.Pnd W0 w n L) : Keeps x.F W0 w := by
  obtain ⟨lim, safe, wr, bad, hl, hp⟩ := h
  exact hp.keeps
theorem pwrite_walk {x : DB} {W0 w : World} {n L : Nat} (h : x.Pnd W0 w n L) (hL : L < 100000) (i : Nat) (s : ByteArray) (hs : s.size = 64) (hi : i < n) :
    Calls Tryz.prog 42 #[x.val, num i, .string s] w fun e w' => e = .returned (num 0) ∧ x.Pnd W0 w' n (L + 1) := by
  obtain ⟨lim, safe, wr, bad, hl, hp⟩ := h
  exact (write_walk hp i s hs hi (by omega)).mono fun _ _ ⟨h1, h2⟩ => ⟨h1, _, _, _, _, by omega, h2⟩
theorem pflush_walk {x : DB} {W0 w : World} {n L : Nat} (h : x.Pnd W0 w n L) :
    Calls Tryz.prog 43 #[x.val] w fun e w' => e = .returned (num 0) ∧ x.Calm w' n L ∧ Keeps x.F W0 w' := by
  obtain ⟨lim, safe, wr, bad, hl, hp⟩ := h
  exact (flush_walk hp).mono fun _ _ ⟨h1, h2, h3⟩ => ⟨h1, ⟨_, _, _, hl, h2⟩, h3⟩

def WipeRel (x : DB) (w : World) (n L : Nat) (i : Value) (wr : World) : Prop := ∃ k : Nat, k ≤ 4 ∧ i = num k ∧ x.Pnd w wr n (L + k)
set_option maxRecDepth 100000 in
theorem wipe_walk {x : DB} {w : World} {n L : Nat} (h : x.Calm w n L) (hL : L + 4 < 100000) (hn : 4 ≤ n) :
    Calls Tryz.prog 77 #[x.val] w fun e w' => e = .returned (num 0) ∧ x.Calm w' n (L + 4) ∧ Keeps x.F w w' := by
  have HS := Lib.hid h.pnd
  have HR := fun W => Lib.hid (repeat_walk W)
  have hzs := Lib.hid zeroT_size
  obtain ⟨Z, hZ⟩ : ∃ Z, zeroT = Z := ⟨_, rfl⟩
  rw [hZ] at HR hzs
  clear h hZ
  go_enter Tryz.func77, Tryz.ntmps77
  go_wp2_with fail
  go_loopw [4] (fun i wr => WipeRel x w n L i wr) (fun i _ => 4 - (intOf i).toNat)
  case atStart => exact ⟨0, by omega, rfl, HS.out⟩
  case round =>
    obtain ⟨k, hk, rfl, hp⟩ := hrel
    clear HS
    by_cases hlt : k < 4
    · have hki : (k : Int) < 4 := by omega
      have HP := Lib.hid hp
      clear hp
      go_wp2_with fail
      refine (HR _).out.mono ?_
      rintro e1 w1 ⟨rfl, he1⟩
      have HW := Lib.hid (pwrite_walk (HP.out.ext he1) (by omega) k Z hzs.out (by omega))
      clear HR HP he1
      go_wp2_with fail
      refine HW.out.mono ?_
      rintro e2 w2 ⟨rfl, hp2⟩
      have R := Lib.hid hp2
      clear HW hp2
      go_wp2_with fail
      go_roundw
      case rel => exact ⟨k + 1, by omega, by go_num, R.out⟩
      case measure => simp [intOf]; omega
    · obtain rfl : k = 4 := by omega
      have HF := Lib.hid (pflush_walk hp)
      clear hp
      go_wp2_with fail
      refine HF.out.mono ?_
      rintro e1 w1 ⟨rfl, hc⟩
      have R := Lib.hid hc
      clear HF hc
      go_wp2_with fail
      go_ret
      exact ⟨rfl, R.out⟩

end Go.Proofs.YtdilchcnfnfdiaaGreatDoor
