/- sync.Once, in one goroutine: its parts (after the kit's Lazy texts). -/
import Derived.Test.YtdilchcnfnfdiaaGreatDoorTSeal
import Derived.Test.YtdilchcnfnfdiaaGreatDoorTGfP
import Derived.Tactics
import Derived.Tactics2
import Derived.Defers
import Derived.Laws.Pointers
import Derived.Laws.LoneSync
import Derived.RegionTactic
import Derived.RegionCalls
import Derived.Laws.NewBlocks
namespace Go.Proofs.YtdilchcnfnfdiaaGreatDoor
open Go.RowKit

theorem rDisable (w : World) : (callFunc 205 #[]).run Tryz.prog w = .ok (.value (.tuple #[])) w := run_call_mark0 Tryz.func205 (by kernel_rfl) (by kernel_rfl) (by kernel_rfl) .disable (by kernel_rfl) w
theorem rEnable (w : World) : (callFunc 207 #[]).run Tryz.prog w = .ok (.value (.tuple #[])) w := run_call_mark0 Tryz.func207 (by kernel_rfl) (by kernel_rfl) (by kernel_rfl) .enable (by kernel_rfl) w
theorem rAcquire (a : Addr) (w : World) : (callFunc 208 #[.pointer (some a)]).run Tryz.prog w = .ok (.value (.tuple #[])) w := run_call_marked Tryz.func208 (by kernel_rfl) (by kernel_rfl) (by kernel_rfl) .acquire (by kernel_rfl) a w
theorem rMerge (a : Addr) (w : World) : (callFunc 210 #[.pointer (some a)]).run Tryz.prog w = .ok (.value (.tuple #[])) w := run_call_marked Tryz.func210 (by kernel_rfl) (by kernel_rfl) (by kernel_rfl) .releaseMerge (by kernel_rfl) a w

set_option maxRecDepth 100000 in
theorem store_deferred (a : Addr) (x : Value) (u : FrameMode) (w : World) (hc : w.cell? a = some x) (hz : w.frozen? a = false) :
    CallsD Tryz.prog 192 #[.pointer (some a), .bool true] u w fun e u' w' => u' = u ∧ (e = .returned (.tuple #[]) ∧ w' = w.drew.setCell a (.int .u32 1)) := by
  have hc' : w.drew.cell? a = some x := by go_simp
  have hz' : w.drew.frozen? a = false := by go_simp
  have hst := run_call_store (P := Tryz.prog) Tryz.func202 (by kernel_rfl) (by kernel_rfl) (by kernel_rfl) (by kernel_rfl) (k := .u32) (y := 1) hc' hz'
  go_enter_d Tryz.func192, Tryz.ntmps192
  go_wp2
  go_region_calls
  all_goals (go_end0; exact ⟨rfl, rfl⟩)
set_option maxRecDepth 100000 in
theorem unlock_deferred (a : Addr) (u : FrameMode) (w : World) (hc : w.cell? a = some (.int .i32 1)) (hz : w.frozen? a = false) :
    CallsD Tryz.prog 191 #[.pointer (some a)] u w fun e u' w' => u' = u ∧ (e = .returned (.tuple #[]) ∧ w' = w.setCell a (.int .i32 0)) := by
  have hd := rDisable
  have he := rEnable
  have hr := rMerge
  have hadd := run_call_add (P := Tryz.prog) Tryz.func193 (by kernel_rfl) (by kernel_rfl) (by kernel_rfl) .i32 (by kernel_rfl) (y := -1) (s := 0) hc hz (by simp [go_sem]; rfl)
  have hcv := run_convert_to_unsafe (P := Tryz.prog) (src := 298) (dst := 254) Tryz.underlying298 Tryz.underlying254 (by kernel_rfl) hc
  go_enter_d Tryz.func191, Tryz.ntmps191
  go_wp2
  go_end0
  go_wp2
  go_end0
  exact ⟨rfl, rfl⟩
set_option maxRecDepth 100000 in
theorem lock_free (a : Addr) (w : World) (hc : w.cell? a = some (.int .i32 0)) (hz : w.frozen? a = false) :
    Calls Tryz.prog 190 #[.pointer (some a)] w fun e w' => e = .returned (.tuple #[]) ∧ w' = w.setCell a (.int .i32 1) := by
  have hd := rDisable
  have he := rEnable
  have ha := rAcquire
  have hcas := run_call_cas_hit (P := Tryz.prog) Tryz.func206 (by kernel_rfl) (by kernel_rfl) (by kernel_rfl) .i32 (by kernel_rfl) (y := 1) hc hz
  have hc' : (w.setCell a (.int .i32 1)).cell? a = some (.int .i32 1) := World.cell?_setCell_same w a _ hc
  have hcv := run_convert_to_unsafe (P := Tryz.prog) (src := 298) (dst := 254) Tryz.underlying298 Tryz.underlying254 (by kernel_rfl) hc'
  go_enter Tryz.func190, Tryz.ntmps190
  go_wp2
  first | go_end0 | (simp only [Exit.inBlock, Exit.then]; refine bodyPost_ret (results_none rfl _ _ _) rfl ?_) | refine bodyPost_ret (results_none rfl _ _ _) rfl ?_
  go_wp2
  go_end0
  exact ⟨rfl, rfl⟩

/-- The tables in memory: of k powers what is laid. -/
structure Tab (cs : Array Value) (k : Nat) (d s m : Int) : Prop where
  size : cs.size = 770
  h0 : cs[0]? = some (.int .u32 d)
  h1 : cs[1]? = some (.int .i32 s)
  h3 : cs[3]? = some (.int .i32 m)
  exp : ∀ i, i < k → cs[4 + i]? = some (.int .u8 (expL i : Int)) ∧ cs[4 + (i + 255)]? = some (.int .u8 (expL i : Int))
  log : ∀ i, i < k → cs[514 + expL i]? = some (.int .i64 (i : Int))
theorem zero_size : Tryz.zeroCells233.size = 770 := by kernel_rfl
theorem Tab.zero : Tab Tryz.zeroCells233 0 0 0 0 := ⟨zero_size, by kernel_rfl, by kernel_rfl, by kernel_rfl, (fun _ h => by cases h), (fun _ h => by cases h)⟩
/-- One power more. -/
theorem Tab.step {cs : Array Value} {k : Nat} {d s m : Int} (h : Tab cs k d s m) (hk : k < 255) :
    Tab (((cs.setIfInBounds (4 + k) (.int .u8 (expL k : Int))).setIfInBounds (4 + (k + 255)) (.int .u8 (expL k : Int))).setIfInBounds (514 + expL k) (.int .i64 (k : Int))) (k + 1) d s m := by
  have he := expL_in k
  have hs := h.size
  refine ⟨by simp [hs], ?_, ?_, ?_, fun i hi => ⟨?_, ?_⟩, fun i hi => ?_⟩
  · rw [Array.getElem?_setIfInBounds_ne (by omega), Array.getElem?_setIfInBounds_ne (by omega), Array.getElem?_setIfInBounds_ne (by omega)]; exact h.h0
  · rw [Array.getElem?_setIfInBounds_ne (by omega), Array.getElem?_setIfInBounds_ne (by omega), Array.getElem?_setIfInBounds_ne (by omega)]; exact h.h1
  · rw [Array.getElem?_setIfInBounds_ne (by omega), Array.getElem?_setIfInBounds_ne (by omega), Array.getElem?_setIfInBounds_ne (by omega)]; exact h.h3
  · rw [Array.getElem?_setIfInBounds_ne (by omega), Array.getElem?_setIfInBounds_ne (by omega)]
    by_cases e : i = k
    · subst e
      rw [Array.getElem?_setIfInBounds_self_of_lt (by omega)]
    · rw [Array.getElem?_setIfInBounds_ne (by omega)]
      exact (h.exp i (by omega)).1
  · rw [Array.getElem?_setIfInBounds_ne (by omega)]
    by_cases e : i = k
    · subst e
      rw [Array.getElem?_setIfInBounds_self_of_lt (by simp; omega)]
    · rw [Array.getElem?_setIfInBounds_ne (by omega), Array.getElem?_setIfInBounds_ne (by omega)]
      exact (h.exp i (by omega)).2
  · by_cases e : i = k
    · subst e
      rw [Array.getElem?_setIfInBounds_self_of_lt (by simp; omega)]
    · have hne : expL k ≠ expL i := fun h' => e (expL_inj hk (by omega) h').symm
      have hi2 := expL_in i
      rw [Array.getElem?_setIfInBounds_ne (by omega), Array.getElem?_setIfInBounds_ne (by omega), Array.getElem?_setIfInBounds_ne (by omega)]
      exact h.log i (by omega)

end Go.Proofs.YtdilchcnfnfdiaaGreatDoor
