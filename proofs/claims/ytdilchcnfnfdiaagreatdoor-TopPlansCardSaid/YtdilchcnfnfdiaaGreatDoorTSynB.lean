/- syndrome: Delta. gf: Mul by two, at powers of two. -/
import Derived.Test.YtdilchcnfnfdiaaGreatDoorTSynA
namespace Go.Proofs.YtdilchcnfnfdiaaGreatDoor
open Go.RowKit

def timesT (s : ByteArray) (c : Nat) : ByteArray := textOf (timesL (secOf s) c)
theorem timesT_size (s : ByteArray) (c : Nat) : (timesT s c).size = s.size := by rw [timesT, textOf_size, timesL_len, secOf_len]
theorem secOf_timesT (s : ByteArray) (c : Nat) : secOf (timesT s c) = timesL (secOf s) c := secOf_textOf (timesL_lt _ _)
set_option maxRecDepth 100000 in
theorem delta_walk (a b : ByteArray) (i : Nat) (w : World) (ha : a.size ≤ 1000) (hb : b.size ≤ 1000) (hi : i < 255) :
    Calls Tryz.prog 30 #[.string a, .string b, num i] w fun e w' => e = .returned (.tuple #[strv (xorT a b), strv (timesT (xorT a b) (expL i))]) ∧ Ext w w' := by
  have hl : addT [a, b] = xorT a b := by
    show xorT (xorT ByteArray.empty a) b = _
    rw [xorT_nil]
  have b0 := alloc_new w (.cells #[strv a, strv b] 9)
  have HA := Lib.hid (added_walk (w.alloc (.cells #[strv a, strv b] 9)) (.slice (some ⟨w.heap.size, 0, none⟩) 2 2) [a, b] ⟨_, 2, rfl, Nat.le_refl _, fun j hj => ⟨_, rfl, by
    rw [zero_add, cell_blk b0]
    have hj : j < 2 := hj
    have : j = 0 ∨ j = 1 := by omega
    rcases this with rfl | rfl <;> rfl⟩⟩ (show 2 ≤ 1000 by decide) (fun x hx => by
    rcases List.mem_cons.1 hx with rfl | hx
    · exact ha
    · rcases List.mem_singleton.1 hx with rfl
      exact hb))
  rw [hl] at HA
  have hsz : (xorT a b).size ≤ 1000 := by rw [xorT_size]; omega
  obtain ⟨D, hD⟩ : ∃ D, xorT a b = D := ⟨_, rfl⟩
  rw [hD] at HA hsz ⊢
  have HX := fun W => Lib.hid (exp_walk i W hi)
  have HT := fun W => Lib.hid (times_walk D (expL i) W hsz (expL_in i).2)
  unfold timesT
  generalize expL i = c at HX HT ⊢
  clear hl b0 hD ha hb hsz
  go_enter Tryz.func30, Tryz.ntmps30
  go_wp2_with fail
  refine HA.out.mono ?_
  rintro e1 w1 ⟨rfl, he1⟩
  have E1 := Lib.hid (((Ext.refl w).alloc _).trans he1)
  clear HA he1
  go_wp2_with fail
  refine (HX _).out.mono ?_
  rintro e2 w2 ⟨rfl, he2⟩
  have E2 := Lib.hid (E1.out.trans he2)
  clear HX he2 E1
  go_wp2_with fail
  refine (HT _).out.mono ?_
  rintro e3 w3 ⟨rfl, he3⟩
  have E3 := Lib.hid (E2.out.trans he3)
  clear HT he3 E2
  go_wp2_with fail
  go_ret2
  exact ⟨rfl, E3.out⟩

def Mul2Rel (a0 a1 a2 : Int) (w : World) (a b n : Value) (wr : World) : Prop := wr = w ∧ ((a = .int .u8 a0 ∧ b = .int .u8 2 ∧ n = .int .u8 0) ∨ (a = .int .u8 a1 ∧ b = .int .u8 1 ∧ n = .int .u8 0) ∨ (a = .int .u8 a2 ∧ b = .int .u8 0 ∧ n = .int .u8 a1))
theorem mul2_0 (w : World) : Calls Tryz.prog 40 #[.int .u8 1, .int .u8 2] w fun e w' => e = .returned (.int .u8 2) ∧ w' = w := by
  go_enter Tryz.func40, Tryz.ntmps40
  go_wp2_with fail
  go_loopw [0, 1, 5] (fun a b n wr => Mul2Rel 1 2 4 w a b n wr) (fun _ b _ _ => (intOf b).toNat)
  case atStart => exact ⟨rfl, .inl ⟨rfl, rfl, rfl⟩⟩
  case round =>
    obtain ⟨rfl, h⟩ := hrel
    rcases h with ⟨rfl, rfl, rfl⟩ | ⟨rfl, rfl, rfl⟩ | ⟨rfl, rfl, rfl⟩
    · go_wp2_with fail
      go_roundw
      case rel => exact ⟨rfl, .inr (.inl ⟨rfl, rfl, rfl⟩)⟩
      case measure => decide
    · go_wp2_with fail
      go_roundw
      case rel => exact ⟨rfl, .inr (.inr ⟨rfl, rfl, rfl⟩)⟩
      case measure => decide
    · go_wp2_with fail
      go_ret
      exact ⟨rfl, rfl⟩
theorem mul2_1 (w : World) : Calls Tryz.prog 40 #[.int .u8 2, .int .u8 2] w fun e w' => e = .returned (.int .u8 4) ∧ w' = w := by
  go_enter Tryz.func40, Tryz.ntmps40
  go_wp2_with fail
  go_loopw [0, 1, 5] (fun a b n wr => Mul2Rel 2 4 8 w a b n wr) (fun _ b _ _ => (intOf b).toNat)
  case atStart => exact ⟨rfl, .inl ⟨rfl, rfl, rfl⟩⟩
  case round =>
    obtain ⟨rfl, h⟩ := hrel
    rcases h with ⟨rfl, rfl, rfl⟩ | ⟨rfl, rfl, rfl⟩ | ⟨rfl, rfl, rfl⟩
    · go_wp2_with fail
      go_roundw
      case rel => exact ⟨rfl, .inr (.inl ⟨rfl, rfl, rfl⟩)⟩
      case measure => decide
    · go_wp2_with fail
      go_roundw
      case rel => exact ⟨rfl, .inr (.inr ⟨rfl, rfl, rfl⟩)⟩
      case measure => decide
    · go_wp2_with fail
      go_ret
      exact ⟨rfl, rfl⟩
theorem mul2_2 (w : World) : Calls Tryz.prog 40 #[.int .u8 4, .int .u8 2] w fun e w' => e = .returned (.int .u8 8) ∧ w' = w := by
  go_enter Tryz.func40, Tryz.ntmps40
  go_wp2_with fail
  go_loopw [0, 1, 5] (fun a b n wr => Mul2Rel 4 8 16 w a b n wr) (fun _ b _ _ => (intOf b).toNat)
  case atStart => exact ⟨rfl, .inl ⟨rfl, rfl, rfl⟩⟩
  case round =>
    obtain ⟨rfl, h⟩ := hrel
    rcases h with ⟨rfl, rfl, rfl⟩ | ⟨rfl, rfl, rfl⟩ | ⟨rfl, rfl, rfl⟩
    · go_wp2_with fail
      go_roundw
      case rel => exact ⟨rfl, .inr (.inl ⟨rfl, rfl, rfl⟩)⟩
      case measure => decide
    · go_wp2_with fail
      go_roundw
      case rel => exact ⟨rfl, .inr (.inr ⟨rfl, rfl, rfl⟩)⟩
      case measure => decide
    · go_wp2_with fail
      go_ret
      exact ⟨rfl, rfl⟩
theorem mul2_3 (w : World) : Calls Tryz.prog 40 #[.int .u8 8, .int .u8 2] w fun e w' => e = .returned (.int .u8 16) ∧ w' = w := by
  go_enter Tryz.func40, Tryz.ntmps40
  go_wp2_with fail
  go_loopw [0, 1, 5] (fun a b n wr => Mul2Rel 8 16 32 w a b n wr) (fun _ b _ _ => (intOf b).toNat)
  case atStart => exact ⟨rfl, .inl ⟨rfl, rfl, rfl⟩⟩
  case round =>
    obtain ⟨rfl, h⟩ := hrel
    rcases h with ⟨rfl, rfl, rfl⟩ | ⟨rfl, rfl, rfl⟩ | ⟨rfl, rfl, rfl⟩
    · go_wp2_with fail
      go_roundw
      case rel => exact ⟨rfl, .inr (.inl ⟨rfl, rfl, rfl⟩)⟩
      case measure => decide
    · go_wp2_with fail
      go_roundw
      case rel => exact ⟨rfl, .inr (.inr ⟨rfl, rfl, rfl⟩)⟩
      case measure => decide
    · go_wp2_with fail
      go_ret
      exact ⟨rfl, rfl⟩
theorem mul2_4 (w : World) : Calls Tryz.prog 40 #[.int .u8 16, .int .u8 2] w fun e w' => e = .returned (.int .u8 32) ∧ w' = w := by
  go_enter Tryz.func40, Tryz.ntmps40
  go_wp2_with fail
  go_loopw [0, 1, 5] (fun a b n wr => Mul2Rel 16 32 64 w a b n wr) (fun _ b _ _ => (intOf b).toNat)
  case atStart => exact ⟨rfl, .inl ⟨rfl, rfl, rfl⟩⟩
  case round =>
    obtain ⟨rfl, h⟩ := hrel
    rcases h with ⟨rfl, rfl, rfl⟩ | ⟨rfl, rfl, rfl⟩ | ⟨rfl, rfl, rfl⟩
    · go_wp2_with fail
      go_roundw
      case rel => exact ⟨rfl, .inr (.inl ⟨rfl, rfl, rfl⟩)⟩
      case measure => decide
    · go_wp2_with fail
      go_roundw
      case rel => exact ⟨rfl, .inr (.inr ⟨rfl, rfl, rfl⟩)⟩
      case measure => decide
    · go_wp2_with fail
      go_ret
      exact ⟨rfl, rfl⟩
theorem mul2_5 (w : World) : Calls Tryz.prog 40 #[.int .u8 32, .int .u8 2] w fun e w' => e = .returned (.int .u8 64) ∧ w' = w := by
  go_enter Tryz.func40, Tryz.ntmps40
  go_wp2_with fail
  go_loopw [0, 1, 5] (fun a b n wr => Mul2Rel 32 64 128 w a b n wr) (fun _ b _ _ => (intOf b).toNat)
  case atStart => exact ⟨rfl, .inl ⟨rfl, rfl, rfl⟩⟩
  case round =>
    obtain ⟨rfl, h⟩ := hrel
    rcases h with ⟨rfl, rfl, rfl⟩ | ⟨rfl, rfl, rfl⟩ | ⟨rfl, rfl, rfl⟩
    · go_wp2_with fail
      go_roundw
      case rel => exact ⟨rfl, .inr (.inl ⟨rfl, rfl, rfl⟩)⟩
      case measure => decide
    · go_wp2_with fail
      go_roundw
      case rel => exact ⟨rfl, .inr (.inr ⟨rfl, rfl, rfl⟩)⟩
      case measure => decide
    · go_wp2_with fail
      go_ret
      exact ⟨rfl, rfl⟩
theorem mul2_6 (w : World) : Calls Tryz.prog 40 #[.int .u8 64, .int .u8 2] w fun e w' => e = .returned (.int .u8 128) ∧ w' = w := by
  go_enter Tryz.func40, Tryz.ntmps40
  go_wp2_with fail
  go_loopw [0, 1, 5] (fun a b n wr => Mul2Rel 64 128 29 w a b n wr) (fun _ b _ _ => (intOf b).toNat)
  case atStart => exact ⟨rfl, .inl ⟨rfl, rfl, rfl⟩⟩
  case round =>
    obtain ⟨rfl, h⟩ := hrel
    rcases h with ⟨rfl, rfl, rfl⟩ | ⟨rfl, rfl, rfl⟩ | ⟨rfl, rfl, rfl⟩
    · go_wp2_with fail
      go_roundw
      case rel => exact ⟨rfl, .inr (.inl ⟨rfl, rfl, rfl⟩)⟩
      case measure => decide
    · go_wp2_with fail
      go_roundw
      case rel => exact ⟨rfl, .inr (.inr ⟨rfl, rfl, rfl⟩)⟩
      case measure => decide
    · go_wp2_with fail
      go_ret
      exact ⟨rfl, rfl⟩
theorem mul2_7 (w : World) : Calls Tryz.prog 40 #[.int .u8 128, .int .u8 2] w fun e w' => e = .returned (.int .u8 29) ∧ w' = w := by
  go_enter Tryz.func40, Tryz.ntmps40
  go_wp2_with fail
  go_loopw [0, 1, 5] (fun a b n wr => Mul2Rel 128 29 58 w a b n wr) (fun _ b _ _ => (intOf b).toNat)
  case atStart => exact ⟨rfl, .inl ⟨rfl, rfl, rfl⟩⟩
  case round =>
    obtain ⟨rfl, h⟩ := hrel
    rcases h with ⟨rfl, rfl, rfl⟩ | ⟨rfl, rfl, rfl⟩ | ⟨rfl, rfl, rfl⟩
    · go_wp2_with fail
      go_roundw
      case rel => exact ⟨rfl, .inr (.inl ⟨rfl, rfl, rfl⟩)⟩
      case measure => decide
    · go_wp2_with fail
      go_roundw
      case rel => exact ⟨rfl, .inr (.inr ⟨rfl, rfl, rfl⟩)⟩
      case measure => decide
    · go_wp2_with fail
      go_ret
      exact ⟨rfl, rfl⟩
theorem mul2_walk (i : Nat) (hi : i < 8) (w : World) : Calls Tryz.prog 40 #[.int .u8 (expL i : Int), .int .u8 2] w fun e w' => e = .returned (.int .u8 (expL (i + 1) : Int)) ∧ w' = w := by
  have : i = 0 ∨ i = 1 ∨ i = 2 ∨ i = 3 ∨ i = 4 ∨ i = 5 ∨ i = 6 ∨ i = 7 := by omega
  rcases this with rfl | rfl | rfl | rfl | rfl | rfl | rfl | rfl
  · exact mul2_0 w
  · exact mul2_1 w
  · exact mul2_2 w
  · exact mul2_3 w
  · exact mul2_4 w
  · exact mul2_5 w
  · exact mul2_6 w
  · exact mul2_7 w

end Go.Proofs.YtdilchcnfnfdiaaGreatDoor
