/- gf: the tables are made. -/
import Derived.Test.YtdilchcnfnfdiaaGreatDoorTOnce
import Derived.Deep.RegionHeld3
import Derived.Deep.Cut
namespace Go.Proofs.YtdilchcnfnfdiaaGreatDoor
open Go.RowKit

theorem addi_walk (a : Addr) (w : World) (hc : w.cell? a = some (.int .i32 0)) (hz : w.frozen? a = false) :
    Calls Tryz.prog 175 #[.pointer (some a), .int .i32 1] w fun e w' => e = .returned (.int .i32 1) ∧ w' = w.setCell a (.int .i32 1) := by
  have hadd := run_call_add (P := Tryz.prog) Tryz.func193 (by kernel_rfl) (by kernel_rfl) (by kernel_rfl) .i32 (by kernel_rfl) (y := 1) (s := 1) hc hz (by simp [go_sem]; rfl)
  go_enter Tryz.func175, Tryz.ntmps175
  go_wp2
  go_ret
  exact ⟨rfl, rfl⟩

/-- Ahead of a power. -/
def MakeRel (w : World) (t : Nat) (d s : Int) (x i : Value) (wr : World) : Prop :=
  ∃ k : Nat, k ≤ 255 ∧ i = num k ∧ x = num (expL k) ∧ ∃ cs, wr.heap[t]? = some (.cells cs 233) ∧ Tab cs k d s 1 ∧ Keeps (fun q => q = t) w wr
theorem xor285 : ∀ x, x < 256 → bits .xor .i64 ((2 * x : Nat) : Int) 285 = (((2 * x) ^^^ 285 : Nat) : Int) := by decide +kernel
set_option maxRecDepth 100000 in
set_option maxHeartbeats 2000000 in
theorem make_walk (t : Nat) {cs : Array Value} {d s : Int} (w : World) (hb : w.heap[t]? = some (.cells cs 233)) (hT : Tab cs 0 d s 0) :
    Calls Tryz.prog 162 #[ptr t] w fun e w' => e = .returned (.tuple #[]) ∧ ∃ cs', w'.heap[t]? = some (.cells cs' 233) ∧ Tab cs' 255 d s 1 ∧ Keeps (fun q => q = t) w w' := by
  have hc3 : w.cell? ⟨t, 3, none⟩ = some (.int .i32 0) := by rw [cell_blk hb]; exact hT.h3
  have HA := Lib.hid (addi_walk ⟨t, 3, none⟩ w hc3 (free_blk hb 3))
  have R0 := Lib.hid (show MakeRel w t d s (num 1) (num 0) (w.setCell ⟨t, 3, none⟩ (.int .i32 1)) from
    ⟨0, by omega, rfl, rfl, _, set_blk hb 3 _, ⟨by rw [Array.size_setIfInBounds]; exact hT.size, by rw [Array.getElem?_setIfInBounds_ne (by omega)]; exact hT.h0, by rw [Array.getElem?_setIfInBounds_ne (by omega)]; exact hT.h1, by rw [Array.getElem?_setIfInBounds_self_of_lt (by rw [hT.size]; omega)], (fun _ h => by cases h), (fun _ h => by cases h)⟩, (Keeps.refl (fun q => q = t) w).set (p := ⟨t, 3, none⟩) (.inl rfl) _⟩)
  clear hb hT hc3
  go_enter Tryz.func162, Tryz.ntmps162
  go_wp2_with fail
  refine HA.out.mono ?_
  rintro e w1 ⟨rfl, rfl⟩
  clear HA
  go_wp2_with fail
  go_loopw [2, 8] (fun x i wr => MakeRel w t d s x i wr) (fun _ i _ => 255 - (intOf i).toNat)
  case atStart => exact R0.out
  case round =>
    obtain ⟨k, hk, rfl, rfl, cs, hb, hT, hK⟩ := hrel
    clear R0
    by_cases hlt : k < 255
    · have hki : (k : Int) < 255 := by omega
      have hin := expL_in k
      have m1 : IntKind.i64.wrap ((k : Int) + 255) = (k : Int) + 255 := by rw [IntKind.wrap_i64]; omega
      have m2 : (0 : Int) ≤ (k : Int) + 255 := by omega
      have m3 : (k : Int) + 255 < 510 := by omega
      have m4 : ((k : Int) + 255).toNat = k + 255 := by omega
      have m5 : (0 : Int) ≤ (k : Int) := by omega
      have m6 : (k : Int) < 510 := by omega
      have m7 : IntKind.u8.wrap ((expL k : Nat) : Int) = ((expL k : Nat) : Int) := by rw [IntKind.wrap_u8]; omega
      obtain ⟨x1, hx1⟩ : ∃ x, cs[4 + k]? = some x := ⟨_, Array.getElem?_eq_getElem (by rw [hT.size]; omega)⟩
      obtain ⟨x2, hx2⟩ : ∃ x, cs[4 + (k + 255)]? = some x := ⟨_, Array.getElem?_eq_getElem (by rw [hT.size]; omega)⟩
      have c1 : wr.drew.cell? ⟨t, 4 + k, none⟩ = some x1 := by rw [cell_blk (drew_blk hb)]; exact hx1
      have c2 : wr.drew.cell? ⟨t, 4 + (k + 255), none⟩ = some x2 := by rw [cell_blk (drew_blk hb)]; exact hx2
      have f1 : wr.drew.frozen? ⟨t, 4 + k, none⟩ = false := free_blk (drew_blk hb) _
      have f2 : wr.drew.frozen? ⟨t, 4 + (k + 255), none⟩ = false := free_blk (drew_blk hb) _
      have HH := Lib.hid (And.intro hb (And.intro hT hK))
      have HX2 := Lib.hid hx2
      clear hb hT hK hx1 hx2
      obtain ⟨E, hE⟩ : ∃ E, expL k = E := ⟨_, rfl⟩
      have HE := Lib.hid hE
      rw [hE] at hin m7
      simp only [hE]
      clear hE
      go_wp2_with fail
      have hA : (wr.setCell ⟨t, 4 + k, none⟩ (.int .u8 (E : Int))).heap[t]? = some (.cells (cs.setIfInBounds (4 + k) (.int .u8 (E : Int))) 233) := set_blk HH.out.1 _ _
      have c3 : (wr.setCell ⟨t, 4 + k, none⟩ (.int .u8 (E : Int))).drew.cell? ⟨t, 4 + (k + 255), none⟩ = some x2 := by rw [cell_blk (drew_blk hA), Array.getElem?_setIfInBounds_ne (by omega)]; exact HX2.out
      have f3 : (wr.setCell ⟨t, 4 + k, none⟩ (.int .u8 (E : Int))).drew.frozen? ⟨t, 4 + (k + 255), none⟩ = false := free_blk (drew_blk hA) _
      clear hA c2 f2
      go_region_held3 (fun _ => True) (trivial) (fail)
      clear m1 m2 m3 m4 m7 c1 f1 c3 f3
      obtain ⟨w2, hw2⟩ : ∃ w2, ((wr.setCell ⟨t, 4 + k, none⟩ (.int .u8 (E : Int))).setCell ⟨t, 4 + (k + 255), none⟩ (.int .u8 (E : Int))).drew = w2 := ⟨_, rfl⟩
      have b2 : w2.heap[t]? = some (.cells ((cs.setIfInBounds (4 + k) (.int .u8 (E : Int))).setIfInBounds (4 + (k + 255)) (.int .u8 (E : Int))) 233) := by rw [← hw2]; exact drew_blk (set_blk (set_blk HH.out.1 _ _) _ _)
      have K2 : Keeps (fun q => q = t) w w2 := by rw [← hw2]; exact ((HH.out.2.2.set (p := ⟨t, 4 + k, none⟩) (.inl rfl) _).set (p := ⟨t, 4 + (k + 255), none⟩) (.inl rfl) _).drew
      obtain ⟨x3, hx3⟩ : ∃ x, ((cs.setIfInBounds (4 + k) (.int .u8 (E : Int))).setIfInBounds (4 + (k + 255)) (.int .u8 (E : Int)))[514 + E]? = some x := ⟨_, Array.getElem?_eq_getElem (by simp [HH.out.2.1.size]; omega)⟩
      have c4 : w2.cell? ⟨t, 514 + E, none⟩ = some x3 := by rw [cell_blk b2]; exact hx3
      have f4 : w2.frozen? ⟨t, 514 + E, none⟩ = false := free_blk b2 _
      have n1 : (0 : Int) ≤ (E : Int) := by omega
      have n2 : (E : Int) < 256 := by omega
      have RX := Lib.hid (fun (x : Value) (hx : x = num (stp E)) => show MakeRel w t d s x (num ((k : Int) + 1)) (w2.setCell ⟨t, 514 + E, none⟩ (num k)) from
        ⟨k + 1, by omega, by go_num, by rw [hx, ← HE.out]; rfl, _, set_blk b2 _ _, by have h := HH.out.2.1.step hlt; rw [HE.out] at h; exact h, K2.set (p := ⟨t, 514 + E, none⟩) (.inl rfl) _⟩)
      clear b2 K2 hx3 HH HX2 HE
      rw [hw2]
      clear hw2
      have hxo := xor285 E hin.2
      by_cases hbig : 255 < 2 * E
      · have hbi : (255 : Int) < 2 * (E : Int) := by omega
        go_wp2_with fail
        go_roundw
        case rel => exact RX.out _ (by
          unfold stp
          rw [if_pos hbig, ← hxo, show ((2 * E : Nat) : Int) = (E : Int) * 2 by omega])
        case measure => simp [intOf]; omega
      · have hbi : ¬ (255 : Int) < 2 * (E : Int) := by omega
        go_wp2_with fail
        go_roundw
        case rel => exact RX.out _ (by
          unfold stp
          rw [if_neg hbig, show ((2 * E : Nat) : Int) = (E : Int) * 2 by omega])
        case measure => simp [intOf]; omega
    · obtain rfl : k = 255 := by omega
      have R := Lib.hid (And.intro hb (And.intro hT hK))
      clear hb hT hK
      go_wp2_with fail
      go_end0
      exact ⟨rfl, _, R.out.1, R.out.2.1, R.out.2.2⟩

/-- doSlow, not yet done, the lock free: the tables are made. -/
theorem runs_make (args : Array Value) (W : World) : (callFunc 162 args).run Tryz.prog W = .ok (.enter 162 args) W := Tryz.runs 162 Tryz.func162 (by kernel_rfl) rfl args W
set_option maxRecDepth 100000 in
set_option maxHeartbeats 2000000 in
theorem slow_walk (t : Nat) {cs : Array Value} (w : World) (hb : w.heap[t]? = some (.cells cs 233)) (hT : Tab cs 0 0 0 0) :
    Calls Tryz.prog 174 #[ptr t, .func (.func 162) #[ptr t] #[]] w fun e w' => e = .returned (.tuple #[]) ∧ ∃ cs', w'.heap[t]? = some (.cells cs' 233) ∧ Tab cs' 255 1 0 1 ∧ Keeps (fun q => q = t) w w' := by
  have c1 : w.cell? ⟨t, 1, none⟩ = some (.int .i32 0) := by rw [cell_blk hb]; exact hT.h1
  have b1 : (w.setCell ⟨t, 1, none⟩ (.int .i32 1)).heap[t]? = some (.cells (cs.setIfInBounds 1 (.int .i32 1)) 233) := set_blk hb _ _
  have T1 : Tab (cs.setIfInBounds 1 (.int .i32 1)) 0 0 1 0 := ⟨by rw [Array.size_setIfInBounds]; exact hT.size, by rw [Array.getElem?_setIfInBounds_ne (by omega)]; exact hT.h0, by rw [Array.getElem?_setIfInBounds_self_of_lt (by rw [hT.size]; omega)], by rw [Array.getElem?_setIfInBounds_ne (by omega)]; exact hT.h3, (fun _ h => by cases h), (fun _ h => by cases h)⟩
  have c0 : (w.setCell ⟨t, 1, none⟩ (.int .i32 1)).cell? ⟨t, 0, none⟩ = some (.int .u32 0) := by rw [cell_blk b1]; exact T1.h0
  have hl := run_call_load (P := Tryz.prog) Tryz.func189 (by kernel_rfl) (by kernel_rfl) (by kernel_rfl) .u32 (by kernel_rfl) c0
  have hnot : ∀ (x : Bool) (w : World), (Op.unary .not (.bool x)).run Tryz.prog w = .ok (.bool (!x)) w := fun _ _ => rfl
  have HL := Lib.hid (lock_free ⟨t, 1, none⟩ w c1 (free_blk hb 1))
  have HM := Lib.hid (make_walk t (w.setCell ⟨t, 1, none⟩ (.int .i32 1)) b1 T1)
  have K0 := Lib.hid ((Keeps.refl (fun q => q = t) w).set (p := ⟨t, 1, none⟩) (.inl rfl) (.int .i32 1))
  have hrun := runs_make
  clear hb hT c1 b1 T1
  go_enter_defers Tryz.func174, Tryz.ntmps174
  go_wp2_with fail
  refine HL.out.mono ?_
  rintro e1 w1 ⟨rfl, rfl⟩
  clear HL
  go_wp2_with (go_at_call 173; go_in)
  refine HM.out.mono ?_
  rintro e3 w3 ⟨rfl, cs', hb3, hT3, hK3⟩
  have R3 := Lib.hid (And.intro hb3 (And.intro hT3 hK3))
  have s0 : w3.cell? ⟨t, 0, none⟩ = some (.int .u32 0) := by rw [cell_blk hb3]; exact hT3.h0
  have s1 : (w3.drew.setCell ⟨t, 0, none⟩ (.int .u32 1)).cell? ⟨t, 1, none⟩ = some (.int .i32 1) := by rw [cell_blk (set_blk (drew_blk hb3) 0 _), Array.getElem?_setIfInBounds_ne (by omega)]; exact hT3.h1
  have HS := Lib.hid (store_deferred ⟨t, 0, none⟩ (.int .u32 0) .returning w3 s0 (free_blk hb3 0))
  have HU := fun u => Lib.hid (unlock_deferred ⟨t, 1, none⟩ u (w3.drew.setCell ⟨t, 0, none⟩ (.int .u32 1)) s1 (free_blk (set_blk (drew_blk hb3) 0 _) 1))
  clear HM hl c0 hrun hb3 hT3 hK3 s0 s1
  go_wp2_with fail
  try go_end0
  refine leaves_cons (f := 192) (args := #[.pointer (some ⟨t, 0, none⟩), .bool true]) (by simp) (by simp [go_sem]) ?_
  refine HS.out.mono ?_
  rintro e4 u' w4 ⟨rfl, rfl, rfl⟩
  refine leaves_cons (f := 191) (args := #[.pointer (some ⟨t, 1, none⟩)]) (by simp [settle]) (by simp [go_sem]) ?_
  refine (HU _).out.mono ?_
  rintro e5 u' w5 ⟨rfl, rfl, rfl⟩
  have RF := Lib.hid (show ∃ cs', ((w3.drew.setCell ⟨t, 0, none⟩ (.int .u32 1)).setCell ⟨t, 1, none⟩ (.int .i32 0)).heap[t]? = some (.cells cs' 233) ∧ Tab cs' 255 1 0 1 ∧ Keeps (fun q => q = t) w ((w3.drew.setCell ⟨t, 0, none⟩ (.int .u32 1)).setCell ⟨t, 1, none⟩ (.int .i32 0)) from by
    obtain ⟨h1, h2, h3⟩ := R3.out
    have hs := h2.size
    refine ⟨_, set_blk (set_blk (drew_blk h1) 0 _) 1 _, ⟨by rw [Array.size_setIfInBounds, Array.size_setIfInBounds]; exact hs, ?_, ?_, ?_, fun i hi => ⟨?_, ?_⟩, fun i hi => ?_⟩, ?_⟩
    · rw [Array.getElem?_setIfInBounds_ne (by omega), Array.getElem?_setIfInBounds_self_of_lt (by omega)]
    · rw [Array.getElem?_setIfInBounds_self_of_lt (by rw [Array.size_setIfInBounds]; omega)]
    · rw [Array.getElem?_setIfInBounds_ne (by omega), Array.getElem?_setIfInBounds_ne (by omega)]; exact h2.h3
    · rw [Array.getElem?_setIfInBounds_ne (by omega), Array.getElem?_setIfInBounds_ne (by omega)]; exact (h2.exp i hi).1
    · rw [Array.getElem?_setIfInBounds_ne (by omega), Array.getElem?_setIfInBounds_ne (by omega)]; exact (h2.exp i hi).2
    · rw [Array.getElem?_setIfInBounds_ne (by omega), Array.getElem?_setIfInBounds_ne (by omega)]; exact h2.log i hi
    · exact (((K0.out.trans h3 (fun _ h => .inl h)).drew).set (p := ⟨t, 0, none⟩) (.inl rfl) _).set (p := ⟨t, 1, none⟩) (.inl rfl) _)
  simp [Leaves, settle, results, Tryz.results174]
  exact RF.out

end Go.Proofs.YtdilchcnfnfdiaaGreatDoor
