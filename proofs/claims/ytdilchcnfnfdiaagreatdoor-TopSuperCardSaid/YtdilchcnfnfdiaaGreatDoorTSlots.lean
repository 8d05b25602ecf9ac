/- slots: Both, Load, Next. -/
import Derived.Test.YtdilchcnfnfdiaaGreatDoorTSDec
import Derived.Test.YtdilchcnfnfdiaaGreatDoorTShown
import Derived.Deep.Cut
namespace Go.Proofs.YtdilchcnfnfdiaaGreatDoor
open Go.RowKit

theorem results_cells2 {P : Program} {fn : Func} {a t b u : Nat} {tmps : Array Value} {x y : Addr} {vx vy : Value} {w : World} (h : fn.results = #[.cell a t, .cell b u]) (hx : tmps.getD a undef = .pointer (some x)) (hy : tmps.getD b undef = .pointer (some y))
    (h1 : (loadVar t x).run P w = .ok vx w) (h2 : (loadVar u y).run P w = .ok vy w) : (results fn tmps).run P w = .ok (.tuple #[vx, vy]) w := by
  rw [Array.getD_eq_getD_getElem?] at hx hy
  unfold results
  rw [h]
  simp [asAddr, hx, hy, h1, h2]
theorem results_cell_tmp {P : Program} {fn : Func} {a t u : Nat} {tmps : Array Value} {x : Addr} {vx : Value} {w : World} (h : fn.results = #[.cell a t, .tmp u]) (hx : tmps.getD a undef = .pointer (some x))
    (h1 : (loadVar t x).run P w = .ok vx w) : (results fn tmps).run P w = .ok (.tuple #[vx, tmps.getD u undef]) w := by
  rw [Array.getD_eq_getD_getElem?] at hx
  unfold results
  rw [h]
  simp [asAddr, hx, h1]
/-- A superblock in numbers. -/
structure Sup where
  u : Nat
  e : Nat
  role : Nat
  cols : Nat
  chunk : Nat
  rows : Nat
  built : Nat
def Sup.cells (s : Sup) : Array Value := supC s.u s.e s.role s.cols s.chunk s.rows s.built
def Sup.sec (s : Sup) : Sec := supS s.u s.e s.role s.cols s.chunk s.rows s.built
structure Sup.Fine (s : Sup) : Prop where
  hu : s.u ≠ 0
  hu2 : s.u < two64
  he : s.e < two64
  h1 : 4 ≤ s.cols
  h2 : s.cols ≤ 10
  h3 : 1 ≤ s.chunk
  h4 : s.chunk ≤ 4
  h5 : 1 ≤ s.rows
  h6 : s.rows ≤ 256
  h7 : s.role < s.cols
  h8 : s.built ≤ s.rows
theorem Sup.decode {s : Sup} (h : s.Fine) (w : World) : Calls Tryz.prog 94 #[.string (textOf s.sec)] w fun r w' => r = .returned (.tuple #[.agg s.cells, num 0]) ∧ Ext w w' :=
  sdecode_walk s.u s.e s.role s.cols s.chunk s.rows s.built w h.hu h.hu2 h.he h.h1 h.h2 h.h3 h.h4 h.h5 h.h6 h.h7 h.h8
def zeroC : Array Value := #[.int .u64 0, .int .u64 0, num 0, num 0, num 0, num 0, .bool false, num 0, num 0, num 0]
def catC (A B : Array Value) : Array Value := (A.toList ++ B.toList).toArray
/-- What a slot gives: nothing, or a superblock. -/
def slotC : Option Sup → Array Value
  | none => zeroC
  | some s => s.cells
/-- What Read gives of slot i: an error, a text that does not open, or a superblock's. -/
def SlotIs (safe : Nat → Sec) (bad : Int → Bool) (i : Nat) : Option Sup → Prop
  | none => bad i = true ∨ (bad i = false ∧ openB (safe i) = false)
  | some s => bad i = false ∧ safe i = s.sec ∧ s.Fine

theorem slotC_form (a : Option Sup) : ∃ x0 x1 x2 x3 x4 x5 x6 x7 x8 x9, slotC a = #[x0, x1, x2, x3, x4, x5, x6, x7, x8, x9] := by
  cases a with
  | none => exact ⟨_, _, _, _, _, _, _, _, _, _, rfl⟩
  | some s => exact ⟨_, _, _, _, _, _, _, _, _, _, rfl⟩
theorem slotC_one (a : Option Sup) : ∀ v ∈ (slotC a).toList, v.oneCell' = true := by
  intro v hv
  cases a with
  | none => simp only [slotC, zeroC, List.mem_cons, List.not_mem_nil, or_false] at hv; rcases hv with rfl | rfl | rfl | rfl | rfl | rfl | rfl | rfl | rfl | rfl <;> rfl
  | some s => simp only [slotC, Sup.cells, supC, List.mem_cons, List.not_mem_nil, or_false] at hv; rcases hv with rfl | rfl | rfl | rfl | rfl | rfl | rfl | rfl | rfl | rfl <;> rfl
def BothAt (w : World) (C : Array Value) (x y : Bool) (wr : World) : Prop :=
  wr.heap[w.heap.size]? = some (.cells C 101) ∧ wr.heap[w.heap.size + 1]? = some (.cells #[.bool x, .bool y] 102) ∧ Ext w wr
-- (LEM
theorem both_store0 {w wf : World} {x y : Bool} {y0 y1 y2 y3 y4 y5 y6 y7 y8 y9 y10 y11 y12 y13 y14 y15 y16 y17 y18 y19 : Value} (h : BothAt w #[y0, y1, y2, y3, y4, y5, y6, y7, y8, y9, y10, y11, y12, y13, y14, y15, y16, y17, y18, y19] x y wf) (v0 v1 v2 v3 v4 v5 v6 v7 v8 v9 : Value) : BothAt w #[v0, v1, v2, v3, v4, v5, v6, v7, v8, v9, y10, y11, y12, y13, y14, y15, y16, y17, y18, y19] x y ((((((((((wf.setCell ⟨w.heap.size, 0, none⟩ v0).setCell ⟨w.heap.size, 1, none⟩ v1).setCell ⟨w.heap.size, 2, none⟩ v2).setCell ⟨w.heap.size, 3, none⟩ v3).setCell ⟨w.heap.size, 4, none⟩ v4).setCell ⟨w.heap.size, 5, none⟩ v5).setCell ⟨w.heap.size, 6, none⟩ v6).setCell ⟨w.heap.size, 7, none⟩ v7).setCell ⟨w.heap.size, 8, none⟩ v8).setCell ⟨w.heap.size, 9, none⟩ v9) := by
  obtain ⟨h0, g0, e0⟩ := h
  have h1 : (wf.setCell ⟨w.heap.size, 0, none⟩ v0).heap[w.heap.size]? = some (.cells #[v0, y1, y2, y3, y4, y5, y6, y7, y8, y9, y10, y11, y12, y13, y14, y15, y16, y17, y18, y19] 101) := set_blk h0 0 v0
  have g1 : (wf.setCell ⟨w.heap.size, 0, none⟩ v0).heap[w.heap.size + 1]? = some (.cells #[.bool x, .bool y] 102) := (set_far (a := ⟨w.heap.size, 0, none⟩) (by show w.heap.size + 1 ≠ w.heap.size; omega) v0).trans g0
  have e1 : Ext w (wf.setCell ⟨w.heap.size, 0, none⟩ v0) := e0.set (p := ⟨w.heap.size, 0, none⟩) (Nat.le_refl _) v0
  have h2 : ((wf.setCell ⟨w.heap.size, 0, none⟩ v0).setCell ⟨w.heap.size, 1, none⟩ v1).heap[w.heap.size]? = some (.cells #[v0, v1, y2, y3, y4, y5, y6, y7, y8, y9, y10, y11, y12, y13, y14, y15, y16, y17, y18, y19] 101) := set_blk h1 1 v1
  have g2 : ((wf.setCell ⟨w.heap.size, 0, none⟩ v0).setCell ⟨w.heap.size, 1, none⟩ v1).heap[w.heap.size + 1]? = some (.cells #[.bool x, .bool y] 102) := (set_far (a := ⟨w.heap.size, 1, none⟩) (by show w.heap.size + 1 ≠ w.heap.size; omega) v1).trans g1
  have e2 : Ext w ((wf.setCell ⟨w.heap.size, 0, none⟩ v0).setCell ⟨w.heap.size, 1, none⟩ v1) := e1.set (p := ⟨w.heap.size, 1, none⟩) (Nat.le_refl _) v1
  have h3 : (((wf.setCell ⟨w.heap.size, 0, none⟩ v0).setCell ⟨w.heap.size, 1, none⟩ v1).setCell ⟨w.heap.size, 2, none⟩ v2).heap[w.heap.size]? = some (.cells #[v0, v1, v2, y3, y4, y5, y6, y7, y8, y9, y10, y11, y12, y13, y14, y15, y16, y17, y18, y19] 101) := set_blk h2 2 v2
  have g3 : (((wf.setCell ⟨w.heap.size, 0, none⟩ v0).setCell ⟨w.heap.size, 1, none⟩ v1).setCell ⟨w.heap.size, 2, none⟩ v2).heap[w.heap.size + 1]? = some (.cells #[.bool x, .bool y] 102) := (set_far (a := ⟨w.heap.size, 2, none⟩) (by show w.heap.size + 1 ≠ w.heap.size; omega) v2).trans g2
  have e3 : Ext w (((wf.setCell ⟨w.heap.size, 0, none⟩ v0).setCell ⟨w.heap.size, 1, none⟩ v1).setCell ⟨w.heap.size, 2, none⟩ v2) := e2.set (p := ⟨w.heap.size, 2, none⟩) (Nat.le_refl _) v2
  have h4 : ((((wf.setCell ⟨w.heap.size, 0, none⟩ v0).setCell ⟨w.heap.size, 1, none⟩ v1).setCell ⟨w.heap.size, 2, none⟩ v2).setCell ⟨w.heap.size, 3, none⟩ v3).heap[w.heap.size]? = some (.cells #[v0, v1, v2, v3, y4, y5, y6, y7, y8, y9, y10, y11, y12, y13, y14, y15, y16, y17, y18, y19] 101) := set_blk h3 3 v3
  have g4 : ((((wf.setCell ⟨w.heap.size, 0, none⟩ v0).setCell ⟨w.heap.size, 1, none⟩ v1).setCell ⟨w.heap.size, 2, none⟩ v2).setCell ⟨w.heap.size, 3, none⟩ v3).heap[w.heap.size + 1]? = some (.cells #[.bool x, .bool y] 102) := (set_far (a := ⟨w.heap.size, 3, none⟩) (by show w.heap.size + 1 ≠ w.heap.size; omega) v3).trans g3
  have e4 : Ext w ((((wf.setCell ⟨w.heap.size, 0, none⟩ v0).setCell ⟨w.heap.size, 1, none⟩ v1).setCell ⟨w.heap.size, 2, none⟩ v2).setCell ⟨w.heap.size, 3, none⟩ v3) := e3.set (p := ⟨w.heap.size, 3, none⟩) (Nat.le_refl _) v3
  have h5 : (((((wf.setCell ⟨w.heap.size, 0, none⟩ v0).setCell ⟨w.heap.size, 1, none⟩ v1).setCell ⟨w.heap.size, 2, none⟩ v2).setCell ⟨w.heap.size, 3, none⟩ v3).setCell ⟨w.heap.size, 4, none⟩ v4).heap[w.heap.size]? = some (.cells #[v0, v1, v2, v3, v4, y5, y6, y7, y8, y9, y10, y11, y12, y13, y14, y15, y16, y17, y18, y19] 101) := set_blk h4 4 v4
  have g5 : (((((wf.setCell ⟨w.heap.size, 0, none⟩ v0).setCell ⟨w.heap.size, 1, none⟩ v1).setCell ⟨w.heap.size, 2, none⟩ v2).setCell ⟨w.heap.size, 3, none⟩ v3).setCell ⟨w.heap.size, 4, none⟩ v4).heap[w.heap.size + 1]? = some (.cells #[.bool x, .bool y] 102) := (set_far (a := ⟨w.heap.size, 4, none⟩) (by show w.heap.size + 1 ≠ w.heap.size; omega) v4).trans g4
  have e5 : Ext w (((((wf.setCell ⟨w.heap.size, 0, none⟩ v0).setCell ⟨w.heap.size, 1, none⟩ v1).setCell ⟨w.heap.size, 2, none⟩ v2).setCell ⟨w.heap.size, 3, none⟩ v3).setCell ⟨w.heap.size, 4, none⟩ v4) := e4.set (p := ⟨w.heap.size, 4, none⟩) (Nat.le_refl _) v4
  have h6 : ((((((wf.setCell ⟨w.heap.size, 0, none⟩ v0).setCell ⟨w.heap.size, 1, none⟩ v1).setCell ⟨w.heap.size, 2, none⟩ v2).setCell ⟨w.heap.size, 3, none⟩ v3).setCell ⟨w.heap.size, 4, none⟩ v4).setCell ⟨w.heap.size, 5, none⟩ v5).heap[w.heap.size]? = some (.cells #[v0, v1, v2, v3, v4, v5, y6, y7, y8, y9, y10, y11, y12, y13, y14, y15, y16, y17, y18, y19] 101) := set_blk h5 5 v5
  have g6 : ((((((wf.setCell ⟨w.heap.size, 0, none⟩ v0).setCell ⟨w.heap.size, 1, none⟩ v1).setCell ⟨w.heap.size, 2, none⟩ v2).setCell ⟨w.heap.size, 3, none⟩ v3).setCell ⟨w.heap.size, 4, none⟩ v4).setCell ⟨w.heap.size, 5, none⟩ v5).heap[w.heap.size + 1]? = some (.cells #[.bool x, .bool y] 102) := (set_far (a := ⟨w.heap.size, 5, none⟩) (by show w.heap.size + 1 ≠ w.heap.size; omega) v5).trans g5
  have e6 : Ext w ((((((wf.setCell ⟨w.heap.size, 0, none⟩ v0).setCell ⟨w.heap.size, 1, none⟩ v1).setCell ⟨w.heap.size, 2, none⟩ v2).setCell ⟨w.heap.size, 3, none⟩ v3).setCell ⟨w.heap.size, 4, none⟩ v4).setCell ⟨w.heap.size, 5, none⟩ v5) := e5.set (p := ⟨w.heap.size, 5, none⟩) (Nat.le_refl _) v5
  have h7 : (((((((wf.setCell ⟨w.heap.size, 0, none⟩ v0).setCell ⟨w.heap.size, 1, none⟩ v1).setCell ⟨w.heap.size, 2, none⟩ v2).setCell ⟨w.heap.size, 3, none⟩ v3).setCell ⟨w.heap.size, 4, none⟩ v4).setCell ⟨w.heap.size, 5, none⟩ v5).setCell ⟨w.heap.size, 6, none⟩ v6).heap[w.heap.size]? = some (.cells #[v0, v1, v2, v3, v4, v5, v6, y7, y8, y9, y10, y11, y12, y13, y14, y15, y16, y17, y18, y19] 101) := set_blk h6 6 v6
  have g7 : (((((((wf.setCell ⟨w.heap.size, 0, none⟩ v0).setCell ⟨w.heap.size, 1, none⟩ v1).setCell ⟨w.heap.size, 2, none⟩ v2).setCell ⟨w.heap.size, 3, none⟩ v3).setCell ⟨w.heap.size, 4, none⟩ v4).setCell ⟨w.heap.size, 5, none⟩ v5).setCell ⟨w.heap.size, 6, none⟩ v6).heap[w.heap.size + 1]? = some (.cells #[.bool x, .bool y] 102) := (set_far (a := ⟨w.heap.size, 6, none⟩) (by show w.heap.size + 1 ≠ w.heap.size; omega) v6).trans g6
  have e7 : Ext w (((((((wf.setCell ⟨w.heap.size, 0, none⟩ v0).setCell ⟨w.heap.size, 1, none⟩ v1).setCell ⟨w.heap.size, 2, none⟩ v2).setCell ⟨w.heap.size, 3, none⟩ v3).setCell ⟨w.heap.size, 4, none⟩ v4).setCell ⟨w.heap.size, 5, none⟩ v5).setCell ⟨w.heap.size, 6, none⟩ v6) := e6.set (p := ⟨w.heap.size, 6, none⟩) (Nat.le_refl _) v6
  have h8 : ((((((((wf.setCell ⟨w.heap.size, 0, none⟩ v0).setCell ⟨w.heap.size, 1, none⟩ v1).setCell ⟨w.heap.size, 2, none⟩ v2).setCell ⟨w.heap.size, 3, none⟩ v3).setCell ⟨w.heap.size, 4, none⟩ v4).setCell ⟨w.heap.size, 5, none⟩ v5).setCell ⟨w.heap.size, 6, none⟩ v6).setCell ⟨w.heap.size, 7, none⟩ v7).heap[w.heap.size]? = some (.cells #[v0, v1, v2, v3, v4, v5, v6, v7, y8, y9, y10, y11, y12, y13, y14, y15, y16, y17, y18, y19] 101) := set_blk h7 7 v7
  have g8 : ((((((((wf.setCell ⟨w.heap.size, 0, none⟩ v0).setCell ⟨w.heap.size, 1, none⟩ v1).setCell ⟨w.heap.size, 2, none⟩ v2).setCell ⟨w.heap.size, 3, none⟩ v3).setCell ⟨w.heap.size, 4, none⟩ v4).setCell ⟨w.heap.size, 5, none⟩ v5).setCell ⟨w.heap.size, 6, none⟩ v6).setCell ⟨w.heap.size, 7, none⟩ v7).heap[w.heap.size + 1]? = some (.cells #[.bool x, .bool y] 102) := (set_far (a := ⟨w.heap.size, 7, none⟩) (by show w.heap.size + 1 ≠ w.heap.size; omega) v7).trans g7
  have e8 : Ext w ((((((((wf.setCell ⟨w.heap.size, 0, none⟩ v0).setCell ⟨w.heap.size, 1, none⟩ v1).setCell ⟨w.heap.size, 2, none⟩ v2).setCell ⟨w.heap.size, 3, none⟩ v3).setCell ⟨w.heap.size, 4, none⟩ v4).setCell ⟨w.heap.size, 5, none⟩ v5).setCell ⟨w.heap.size, 6, none⟩ v6).setCell ⟨w.heap.size, 7, none⟩ v7) := e7.set (p := ⟨w.heap.size, 7, none⟩) (Nat.le_refl _) v7
  have h9 : (((((((((wf.setCell ⟨w.heap.size, 0, none⟩ v0).setCell ⟨w.heap.size, 1, none⟩ v1).setCell ⟨w.heap.size, 2, none⟩ v2).setCell ⟨w.heap.size, 3, none⟩ v3).setCell ⟨w.heap.size, 4, none⟩ v4).setCell ⟨w.heap.size, 5, none⟩ v5).setCell ⟨w.heap.size, 6, none⟩ v6).setCell ⟨w.heap.size, 7, none⟩ v7).setCell ⟨w.heap.size, 8, none⟩ v8).heap[w.heap.size]? = some (.cells #[v0, v1, v2, v3, v4, v5, v6, v7, v8, y9, y10, y11, y12, y13, y14, y15, y16, y17, y18, y19] 101) := set_blk h8 8 v8
  have g9 : (((((((((wf.setCell ⟨w.heap.size, 0, none⟩ v0).setCell ⟨w.heap.size, 1, none⟩ v1).setCell ⟨w.heap.size, 2, none⟩ v2).setCell ⟨w.heap.size, 3, none⟩ v3).setCell ⟨w.heap.size, 4, none⟩ v4).setCell ⟨w.heap.size, 5, none⟩ v5).setCell ⟨w.heap.size, 6, none⟩ v6).setCell ⟨w.heap.size, 7, none⟩ v7).setCell ⟨w.heap.size, 8, none⟩ v8).heap[w.heap.size + 1]? = some (.cells #[.bool x, .bool y] 102) := (set_far (a := ⟨w.heap.size, 8, none⟩) (by show w.heap.size + 1 ≠ w.heap.size; omega) v8).trans g8
  have e9 : Ext w (((((((((wf.setCell ⟨w.heap.size, 0, none⟩ v0).setCell ⟨w.heap.size, 1, none⟩ v1).setCell ⟨w.heap.size, 2, none⟩ v2).setCell ⟨w.heap.size, 3, none⟩ v3).setCell ⟨w.heap.size, 4, none⟩ v4).setCell ⟨w.heap.size, 5, none⟩ v5).setCell ⟨w.heap.size, 6, none⟩ v6).setCell ⟨w.heap.size, 7, none⟩ v7).setCell ⟨w.heap.size, 8, none⟩ v8) := e8.set (p := ⟨w.heap.size, 8, none⟩) (Nat.le_refl _) v8
  have h10 : ((((((((((wf.setCell ⟨w.heap.size, 0, none⟩ v0).setCell ⟨w.heap.size, 1, none⟩ v1).setCell ⟨w.heap.size, 2, none⟩ v2).setCell ⟨w.heap.size, 3, none⟩ v3).setCell ⟨w.heap.size, 4, none⟩ v4).setCell ⟨w.heap.size, 5, none⟩ v5).setCell ⟨w.heap.size, 6, none⟩ v6).setCell ⟨w.heap.size, 7, none⟩ v7).setCell ⟨w.heap.size, 8, none⟩ v8).setCell ⟨w.heap.size, 9, none⟩ v9).heap[w.heap.size]? = some (.cells #[v0, v1, v2, v3, v4, v5, v6, v7, v8, v9, y10, y11, y12, y13, y14, y15, y16, y17, y18, y19] 101) := set_blk h9 9 v9
  have g10 : ((((((((((wf.setCell ⟨w.heap.size, 0, none⟩ v0).setCell ⟨w.heap.size, 1, none⟩ v1).setCell ⟨w.heap.size, 2, none⟩ v2).setCell ⟨w.heap.size, 3, none⟩ v3).setCell ⟨w.heap.size, 4, none⟩ v4).setCell ⟨w.heap.size, 5, none⟩ v5).setCell ⟨w.heap.size, 6, none⟩ v6).setCell ⟨w.heap.size, 7, none⟩ v7).setCell ⟨w.heap.size, 8, none⟩ v8).setCell ⟨w.heap.size, 9, none⟩ v9).heap[w.heap.size + 1]? = some (.cells #[.bool x, .bool y] 102) := (set_far (a := ⟨w.heap.size, 9, none⟩) (by show w.heap.size + 1 ≠ w.heap.size; omega) v9).trans g9
  have e10 : Ext w ((((((((((wf.setCell ⟨w.heap.size, 0, none⟩ v0).setCell ⟨w.heap.size, 1, none⟩ v1).setCell ⟨w.heap.size, 2, none⟩ v2).setCell ⟨w.heap.size, 3, none⟩ v3).setCell ⟨w.heap.size, 4, none⟩ v4).setCell ⟨w.heap.size, 5, none⟩ v5).setCell ⟨w.heap.size, 6, none⟩ v6).setCell ⟨w.heap.size, 7, none⟩ v7).setCell ⟨w.heap.size, 8, none⟩ v8).setCell ⟨w.heap.size, 9, none⟩ v9) := e9.set (p := ⟨w.heap.size, 9, none⟩) (Nat.le_refl _) v9
  exact ⟨h10, g10, e10⟩
theorem both_store1 {w wf : World} {x y : Bool} {y0 y1 y2 y3 y4 y5 y6 y7 y8 y9 y10 y11 y12 y13 y14 y15 y16 y17 y18 y19 : Value} (h : BothAt w #[y0, y1, y2, y3, y4, y5, y6, y7, y8, y9, y10, y11, y12, y13, y14, y15, y16, y17, y18, y19] x y wf) (v0 v1 v2 v3 v4 v5 v6 v7 v8 v9 : Value) : BothAt w #[y0, y1, y2, y3, y4, y5, y6, y7, y8, y9, v0, v1, v2, v3, v4, v5, v6, v7, v8, v9] x y ((((((((((wf.setCell ⟨w.heap.size, 10, none⟩ v0).setCell ⟨w.heap.size, 11, none⟩ v1).setCell ⟨w.heap.size, 12, none⟩ v2).setCell ⟨w.heap.size, 13, none⟩ v3).setCell ⟨w.heap.size, 14, none⟩ v4).setCell ⟨w.heap.size, 15, none⟩ v5).setCell ⟨w.heap.size, 16, none⟩ v6).setCell ⟨w.heap.size, 17, none⟩ v7).setCell ⟨w.heap.size, 18, none⟩ v8).setCell ⟨w.heap.size, 19, none⟩ v9) := by
  obtain ⟨h0, g0, e0⟩ := h
  have h1 : (wf.setCell ⟨w.heap.size, 10, none⟩ v0).heap[w.heap.size]? = some (.cells #[y0, y1, y2, y3, y4, y5, y6, y7, y8, y9, v0, y11, y12, y13, y14, y15, y16, y17, y18, y19] 101) := set_blk h0 10 v0
  have g1 : (wf.setCell ⟨w.heap.size, 10, none⟩ v0).heap[w.heap.size + 1]? = some (.cells #[.bool x, .bool y] 102) := (set_far (a := ⟨w.heap.size, 10, none⟩) (by show w.heap.size + 1 ≠ w.heap.size; omega) v0).trans g0
  have e1 : Ext w (wf.setCell ⟨w.heap.size, 10, none⟩ v0) := e0.set (p := ⟨w.heap.size, 10, none⟩) (Nat.le_refl _) v0
  have h2 : ((wf.setCell ⟨w.heap.size, 10, none⟩ v0).setCell ⟨w.heap.size, 11, none⟩ v1).heap[w.heap.size]? = some (.cells #[y0, y1, y2, y3, y4, y5, y6, y7, y8, y9, v0, v1, y12, y13, y14, y15, y16, y17, y18, y19] 101) := set_blk h1 11 v1
  have g2 : ((wf.setCell ⟨w.heap.size, 10, none⟩ v0).setCell ⟨w.heap.size, 11, none⟩ v1).heap[w.heap.size + 1]? = some (.cells #[.bool x, .bool y] 102) := (set_far (a := ⟨w.heap.size, 11, none⟩) (by show w.heap.size + 1 ≠ w.heap.size; omega) v1).trans g1
  have e2 : Ext w ((wf.setCell ⟨w.heap.size, 10, none⟩ v0).setCell ⟨w.heap.size, 11, none⟩ v1) := e1.set (p := ⟨w.heap.size, 11, none⟩) (Nat.le_refl _) v1
  have h3 : (((wf.setCell ⟨w.heap.size, 10, none⟩ v0).setCell ⟨w.heap.size, 11, none⟩ v1).setCell ⟨w.heap.size, 12, none⟩ v2).heap[w.heap.size]? = some (.cells #[y0, y1, y2, y3, y4, y5, y6, y7, y8, y9, v0, v1, v2, y13, y14, y15, y16, y17, y18, y19] 101) := set_blk h2 12 v2
  have g3 : (((wf.setCell ⟨w.heap.size, 10, none⟩ v0).setCell ⟨w.heap.size, 11, none⟩ v1).setCell ⟨w.heap.size, 12, none⟩ v2).heap[w.heap.size + 1]? = some (.cells #[.bool x, .bool y] 102) := (set_far (a := ⟨w.heap.size, 12, none⟩) (by show w.heap.size + 1 ≠ w.heap.size; omega) v2).trans g2
  have e3 : Ext w (((wf.setCell ⟨w.heap.size, 10, none⟩ v0).setCell ⟨w.heap.size, 11, none⟩ v1).setCell ⟨w.heap.size, 12, none⟩ v2) := e2.set (p := ⟨w.heap.size, 12, none⟩) (Nat.le_refl _) v2
  have h4 : ((((wf.setCell ⟨w.heap.size, 10, none⟩ v0).setCell ⟨w.heap.size, 11, none⟩ v1).setCell ⟨w.heap.size, 12, none⟩ v2).setCell ⟨w.heap.size, 13, none⟩ v3).heap[w.heap.size]? = some (.cells #[y0, y1, y2, y3, y4, y5, y6, y7, y8, y9, v0, v1, v2, v3, y14, y15, y16, y17, y18, y19] 101) := set_blk h3 13 v3
  have g4 : ((((wf.setCell ⟨w.heap.size, 10, none⟩ v0).setCell ⟨w.heap.size, 11, none⟩ v1).setCell ⟨w.heap.size, 12, none⟩ v2).setCell ⟨w.heap.size, 13, none⟩ v3).heap[w.heap.size + 1]? = some (.cells #[.bool x, .bool y] 102) := (set_far (a := ⟨w.heap.size, 13, none⟩) (by show w.heap.size + 1 ≠ w.heap.size; omega) v3).trans g3
  have e4 : Ext w ((((wf.setCell ⟨w.heap.size, 10, none⟩ v0).setCell ⟨w.heap.size, 11, none⟩ v1).setCell ⟨w.heap.size, 12, none⟩ v2).setCell ⟨w.heap.size, 13, none⟩ v3) := e3.set (p := ⟨w.heap.size, 13, none⟩) (Nat.le_refl _) v3
  have h5 : (((((wf.setCell ⟨w.heap.size, 10, none⟩ v0).setCell ⟨w.heap.size, 11, none⟩ v1).setCell ⟨w.heap.size, 12, none⟩ v2).setCell ⟨w.heap.size, 13, none⟩ v3).setCell ⟨w.heap.size, 14, none⟩ v4).heap[w.heap.size]? = some (.cells #[y0, y1, y2, y3, y4, y5, y6, y7, y8, y9, v0, v1, v2, v3, v4, y15, y16, y17, y18, y19] 101) := set_blk h4 14 v4
  have g5 : (((((wf.setCell ⟨w.heap.size, 10, none⟩ v0).setCell ⟨w.heap.size, 11, none⟩ v1).setCell ⟨w.heap.size, 12, none⟩ v2).setCell ⟨w.heap.size, 13, none⟩ v3).setCell ⟨w.heap.size, 14, none⟩ v4).heap[w.heap.size + 1]? = some (.cells #[.bool x, .bool y] 102) := (set_far (a := ⟨w.heap.size, 14, none⟩) (by show w.heap.size + 1 ≠ w.heap.size; omega) v4).trans g4
  have e5 : Ext w (((((wf.setCell ⟨w.heap.size, 10, none⟩ v0).setCell ⟨w.heap.size, 11, none⟩ v1).setCell ⟨w.heap.size, 12, none⟩ v2).setCell ⟨w.heap.size, 13, none⟩ v3).setCell ⟨w.heap.size, 14, none⟩ v4) := e4.set (p := ⟨w.heap.size, 14, none⟩) (Nat.le_refl _) v4
  have h6 : ((((((wf.setCell ⟨w.heap.size, 10, none⟩ v0).setCell ⟨w.heap.size, 11, none⟩ v1).setCell ⟨w.heap.size, 12, none⟩ v2).setCell ⟨w.heap.size, 13, none⟩ v3).setCell ⟨w.heap.size, 14, none⟩ v4).setCell ⟨w.heap.size, 15, none⟩ v5).heap[w.heap.size]? = some (.cells #[y0, y1, y2, y3, y4, y5, y6, y7, y8, y9, v0, v1, v2, v3, v4, v5, y16, y17, y18, y19] 101) := set_blk h5 15 v5
  have g6 : ((((((wf.setCell ⟨w.heap.size, 10, none⟩ v0).setCell ⟨w.heap.size, 11, none⟩ v1).setCell ⟨w.heap.size, 12, none⟩ v2).setCell ⟨w.heap.size, 13, none⟩ v3).setCell ⟨w.heap.size, 14, none⟩ v4).setCell ⟨w.heap.size, 15, none⟩ v5).heap[w.heap.size + 1]? = some (.cells #[.bool x, .bool y] 102) := (set_far (a := ⟨w.heap.size, 15, none⟩) (by show w.heap.size + 1 ≠ w.heap.size; omega) v5).trans g5
  have e6 : Ext w ((((((wf.setCell ⟨w.heap.size, 10, none⟩ v0).setCell ⟨w.heap.size, 11, none⟩ v1).setCell ⟨w.heap.size, 12, none⟩ v2).setCell ⟨w.heap.size, 13, none⟩ v3).setCell ⟨w.heap.size, 14, none⟩ v4).setCell ⟨w.heap.size, 15, none⟩ v5) := e5.set (p := ⟨w.heap.size, 15, none⟩) (Nat.le_refl _) v5
  have h7 : (((((((wf.setCell ⟨w.heap.size, 10, none⟩ v0).setCell ⟨w.heap.size, 11, none⟩ v1).setCell ⟨w.heap.size, 12, none⟩ v2).setCell ⟨w.heap.size, 13, none⟩ v3).setCell ⟨w.heap.size, 14, none⟩ v4).setCell ⟨w.heap.size, 15, none⟩ v5).setCell ⟨w.heap.size, 16, none⟩ v6).heap[w.heap.size]? = some (.cells #[y0, y1, y2, y3, y4, y5, y6, y7, y8, y9, v0, v1, v2, v3, v4, v5, v6, y17, y18, y19] 101) := set_blk h6 16 v6
  have g7 : (((((((wf.setCell ⟨w.heap.size, 10, none⟩ v0).setCell ⟨w.heap.size, 11, none⟩ v1).setCell ⟨w.heap.size, 12, none⟩ v2).setCell ⟨w.heap.size, 13, none⟩ v3).setCell ⟨w.heap.size, 14, none⟩ v4).setCell ⟨w.heap.size, 15, none⟩ v5).setCell ⟨w.heap.size, 16, none⟩ v6).heap[w.heap.size + 1]? = some (.cells #[.bool x, .bool y] 102) := (set_far (a := ⟨w.heap.size, 16, none⟩) (by show w.heap.size + 1 ≠ w.heap.size; omega) v6).trans g6
  have e7 : Ext w (((((((wf.setCell ⟨w.heap.size, 10, none⟩ v0).setCell ⟨w.heap.size, 11, none⟩ v1).setCell ⟨w.heap.size, 12, none⟩ v2).setCell ⟨w.heap.size, 13, none⟩ v3).setCell ⟨w.heap.size, 14, none⟩ v4).setCell ⟨w.heap.size, 15, none⟩ v5).setCell ⟨w.heap.size, 16, none⟩ v6) := e6.set (p := ⟨w.heap.size, 16, none⟩) (Nat.le_refl _) v6
  have h8 : ((((((((wf.setCell ⟨w.heap.size, 10, none⟩ v0).setCell ⟨w.heap.size, 11, none⟩ v1).setCell ⟨w.heap.size, 12, none⟩ v2).setCell ⟨w.heap.size, 13, none⟩ v3).setCell ⟨w.heap.size, 14, none⟩ v4).setCell ⟨w.heap.size, 15, none⟩ v5).setCell ⟨w.heap.size, 16, none⟩ v6).setCell ⟨w.heap.size, 17, none⟩ v7).heap[w.heap.size]? = some (.cells #[y0, y1, y2, y3, y4, y5, y6, y7, y8, y9, v0, v1, v2, v3, v4, v5, v6, v7, y18, y19] 101) := set_blk h7 17 v7
  have g8 : ((((((((wf.setCell ⟨w.heap.size, 10, none⟩ v0).setCell ⟨w.heap.size, 11, none⟩ v1).setCell ⟨w.heap.size, 12, none⟩ v2).setCell ⟨w.heap.size, 13, none⟩ v3).setCell ⟨w.heap.size, 14, none⟩ v4).setCell ⟨w.heap.size, 15, none⟩ v5).setCell ⟨w.heap.size, 16, none⟩ v6).setCell ⟨w.heap.size, 17, none⟩ v7).heap[w.heap.size + 1]? = some (.cells #[.bool x, .bool y] 102) := (set_far (a := ⟨w.heap.size, 17, none⟩) (by show w.heap.size + 1 ≠ w.heap.size; omega) v7).trans g7
  have e8 : Ext w ((((((((wf.setCell ⟨w.heap.size, 10, none⟩ v0).setCell ⟨w.heap.size, 11, none⟩ v1).setCell ⟨w.heap.size, 12, none⟩ v2).setCell ⟨w.heap.size, 13, none⟩ v3).setCell ⟨w.heap.size, 14, none⟩ v4).setCell ⟨w.heap.size, 15, none⟩ v5).setCell ⟨w.heap.size, 16, none⟩ v6).setCell ⟨w.heap.size, 17, none⟩ v7) := e7.set (p := ⟨w.heap.size, 17, none⟩) (Nat.le_refl _) v7
  have h9 : (((((((((wf.setCell ⟨w.heap.size, 10, none⟩ v0).setCell ⟨w.heap.size, 11, none⟩ v1).setCell ⟨w.heap.size, 12, none⟩ v2).setCell ⟨w.heap.size, 13, none⟩ v3).setCell ⟨w.heap.size, 14, none⟩ v4).setCell ⟨w.heap.size, 15, none⟩ v5).setCell ⟨w.heap.size, 16, none⟩ v6).setCell ⟨w.heap.size, 17, none⟩ v7).setCell ⟨w.heap.size, 18, none⟩ v8).heap[w.heap.size]? = some (.cells #[y0, y1, y2, y3, y4, y5, y6, y7, y8, y9, v0, v1, v2, v3, v4, v5, v6, v7, v8, y19] 101) := set_blk h8 18 v8
  have g9 : (((((((((wf.setCell ⟨w.heap.size, 10, none⟩ v0).setCell ⟨w.heap.size, 11, none⟩ v1).setCell ⟨w.heap.size, 12, none⟩ v2).setCell ⟨w.heap.size, 13, none⟩ v3).setCell ⟨w.heap.size, 14, none⟩ v4).setCell ⟨w.heap.size, 15, none⟩ v5).setCell ⟨w.heap.size, 16, none⟩ v6).setCell ⟨w.heap.size, 17, none⟩ v7).setCell ⟨w.heap.size, 18, none⟩ v8).heap[w.heap.size + 1]? = some (.cells #[.bool x, .bool y] 102) := (set_far (a := ⟨w.heap.size, 18, none⟩) (by show w.heap.size + 1 ≠ w.heap.size; omega) v8).trans g8
  have e9 : Ext w (((((((((wf.setCell ⟨w.heap.size, 10, none⟩ v0).setCell ⟨w.heap.size, 11, none⟩ v1).setCell ⟨w.heap.size, 12, none⟩ v2).setCell ⟨w.heap.size, 13, none⟩ v3).setCell ⟨w.heap.size, 14, none⟩ v4).setCell ⟨w.heap.size, 15, none⟩ v5).setCell ⟨w.heap.size, 16, none⟩ v6).setCell ⟨w.heap.size, 17, none⟩ v7).setCell ⟨w.heap.size, 18, none⟩ v8) := e8.set (p := ⟨w.heap.size, 18, none⟩) (Nat.le_refl _) v8
  have h10 : ((((((((((wf.setCell ⟨w.heap.size, 10, none⟩ v0).setCell ⟨w.heap.size, 11, none⟩ v1).setCell ⟨w.heap.size, 12, none⟩ v2).setCell ⟨w.heap.size, 13, none⟩ v3).setCell ⟨w.heap.size, 14, none⟩ v4).setCell ⟨w.heap.size, 15, none⟩ v5).setCell ⟨w.heap.size, 16, none⟩ v6).setCell ⟨w.heap.size, 17, none⟩ v7).setCell ⟨w.heap.size, 18, none⟩ v8).setCell ⟨w.heap.size, 19, none⟩ v9).heap[w.heap.size]? = some (.cells #[y0, y1, y2, y3, y4, y5, y6, y7, y8, y9, v0, v1, v2, v3, v4, v5, v6, v7, v8, v9] 101) := set_blk h9 19 v9
  have g10 : ((((((((((wf.setCell ⟨w.heap.size, 10, none⟩ v0).setCell ⟨w.heap.size, 11, none⟩ v1).setCell ⟨w.heap.size, 12, none⟩ v2).setCell ⟨w.heap.size, 13, none⟩ v3).setCell ⟨w.heap.size, 14, none⟩ v4).setCell ⟨w.heap.size, 15, none⟩ v5).setCell ⟨w.heap.size, 16, none⟩ v6).setCell ⟨w.heap.size, 17, none⟩ v7).setCell ⟨w.heap.size, 18, none⟩ v8).setCell ⟨w.heap.size, 19, none⟩ v9).heap[w.heap.size + 1]? = some (.cells #[.bool x, .bool y] 102) := (set_far (a := ⟨w.heap.size, 19, none⟩) (by show w.heap.size + 1 ≠ w.heap.size; omega) v9).trans g9
  have e10 : Ext w ((((((((((wf.setCell ⟨w.heap.size, 10, none⟩ v0).setCell ⟨w.heap.size, 11, none⟩ v1).setCell ⟨w.heap.size, 12, none⟩ v2).setCell ⟨w.heap.size, 13, none⟩ v3).setCell ⟨w.heap.size, 14, none⟩ v4).setCell ⟨w.heap.size, 15, none⟩ v5).setCell ⟨w.heap.size, 16, none⟩ v6).setCell ⟨w.heap.size, 17, none⟩ v7).setCell ⟨w.heap.size, 18, none⟩ v8).setCell ⟨w.heap.size, 19, none⟩ v9) := e9.set (p := ⟨w.heap.size, 19, none⟩) (Nat.le_refl _) v9
  exact ⟨h10, g10, e10⟩
-- LEM)
/-- Ahead of the end: what the results hold. -/
def BothS (w : World) (L : List Value) (x y : Bool) (W : World) : Prop :=
  W.rangeAt w.heap.size 0 L ∧ W.there w.heap.size 0 L.length ∧ W.heap[w.heap.size + 1]? = some (.cells #[.bool x, .bool y] 102) ∧ Ext w W
theorem BothS.store {w W : World} {L : List Value} {x y : Bool} (h : BothS w L x y W) : BothS w L x y (W.setCells w.heap.size 0 L) := by
  obtain ⟨h1, h2, h3, h4⟩ := h
  have K := keeps_setCells (F := fun q => q = w.heap.size) (a := W) (g := w.heap.size) rfl L 0 W (Keeps.refl _ W)
  exact ⟨World.rangeAt_setCells_same W _ _ L h2, World.there_setCells h2 _ _ _, K.blk h3 (by show ¬ (w.heap.size + 1 = w.heap.size); omega), Ext.setCells_new w.heap.size (Nat.le_refl _) 0 L h4⟩
theorem BothS.flags {w W : World} {L : List Value} {x y : Bool} (h : BothS w L x y W) : BothS w L x y ((W.setCell ⟨w.heap.size + 1, 0, none⟩ (.bool x)).setCell ⟨w.heap.size + 1, 1, none⟩ (.bool y)) := by
  obtain ⟨h1, h2, h3, h4⟩ := h
  have n1 : w.heap.size ≠ w.heap.size + 1 := by omega
  refine ⟨fun j v hv => ?_, fun j hj => ⟨?_, ?_⟩, set_blk (set_blk h3 0 _) 1 _, (h4.set (p := ⟨w.heap.size + 1, 0, none⟩) (Nat.le_succ _) _).set (p := ⟨w.heap.size + 1, 1, none⟩) (Nat.le_succ _) _⟩
  · rw [World.cell?_setCell_other _ _ _ _ (fun e => n1 (congrArg Addr.block e).symm), World.cell?_setCell_other _ _ _ _ (fun e => n1 (congrArg Addr.block e).symm)]
    exact h1 j v hv
  · rw [World.cell?_setCell_other _ _ _ _ (fun e => n1 (congrArg Addr.block e).symm), World.cell?_setCell_other _ _ _ _ (fun e => n1 (congrArg Addr.block e).symm)]
    exact (h2 j hj).1
  · rw [World.frozen?_setCell, World.frozen?_setCell]
    exact (h2 j hj).2
def BothRel (w : World) (a b : Option Sup) (i : Value) (wr : World) : Prop :=
  (i = num 0 ∧ BothAt w (catC zeroC zeroC) false false wr) ∨ (i = num 1 ∧ BothAt w (catC (slotC a) zeroC) a.isSome false wr) ∨ (i = num 2 ∧ BothAt w (catC (slotC a) (slotC b)) a.isSome b.isSome wr)

set_option maxRecDepth 100000 in
set_option maxHeartbeats 4000000 in
theorem both_walk {w : World} {d sf m sp n lim : Nat} {safe : Nat → Sec} {bad : Int → Bool} (h : Calm w d sf m sp n lim safe bad) (hn : 2 ≤ n) (hlt : ∀ i, i < 2 → ∀ x ∈ safe i, x < 256) (a b : Option Sup) (hs0 : SlotIs safe bad 0 a) (hs1 : SlotIs safe bad 1 b) :
    Calls Tryz.prog 46 #[ptr d] w fun r w' => r = .returned (.tuple #[.agg (catC (slotC a) (slotC b)), .agg #[.bool a.isSome, .bool b.isSome]]) ∧ Ext w w' := by
  have q0 := alloc_new (w.alloc (.cells #[.int .u64 0, .int .u64 0, num 0, num 0, num 0, num 0, .bool false, num 0, num 0, num 0, .int .u64 0, .int .u64 0, num 0, num 0, num 0, num 0, .bool false, num 0, num 0, num 0] 101)) (.cells #[.bool false, .bool false] 102)
  rw [size_alloc] at q0
  have R0 := Lib.hid (show BothRel w a b (num 0) ((w.alloc (.cells #[.int .u64 0, .int .u64 0, num 0, num 0, num 0, num 0, .bool false, num 0, num 0, num 0, .int .u64 0, .int .u64 0, num 0, num 0, num 0, num 0, .bool false, num 0, num 0, num 0] 101)).alloc (.cells #[.bool false, .bool false] 102)) from
    .inl ⟨rfl, alloc_old _ (alloc_new w _), q0, ((Ext.refl w).alloc _).alloc _⟩)
  clear q0
  go_enter Tryz.func46, Tryz.ntmps46
  go_wp2_with fail
  go_loopw [8] (fun i wr => BothRel w a b i wr) (fun i _ => 2 - (intOf i).toNat)
  case atStart => exact R0.out
  case round =>
    rcases hrel with ⟨rfl, q1, q2, he⟩ | ⟨rfl, q1, q2, he⟩ | ⟨rfl, q1, q2, he⟩
    -- (GEN
    · skip
      have HC := h.keep he.to_keeps (fun h => h) (fun h => h) (fun h => h) (fun h => h)
      have hrd := read_walk HC 0 (by omega) (hlt 0 (by decide))
      clear HC R0
      cases a with
      | none =>
        rcases hs0 with hbad | ⟨hbad, hopen⟩
        · simp only [hbad] at hrd
          have HRD := Lib.hid hrd
          clear hrd hbad
          have Q := Lib.hid (And.intro q1 (And.intro q2 he))
          clear q1 q2 he
          go_wp2_with fail
          refine HRD.out.mono ?_
          rintro e1 w1 ⟨rfl, rfl⟩
          clear HRD
          go_wp2_with fail
          go_roundw
          case rel => exact .inr (.inl ⟨rfl, Q.out⟩)
          case measure => decide
        · simp only [hbad] at hrd
          have HRD := Lib.hid hrd
          clear hrd hbad
          have hsz : (textOf (safe 0)).size = 64 := by rw [textOf_size]; exact h.s64 0 (by omega)
          have hop2 : openB (secOf (textOf (safe 0))) = false := by rw [secOf_textOf (hlt 0 (by decide))]; exact hopen
          have HD := fun W => Lib.hid (sdecode_off (textOf (safe 0)) W hsz hop2)
          generalize textOf (safe 0) = T at HRD HD
          clear hsz hop2 hopen
          have Q := Lib.hid (And.intro q1 (And.intro q2 he))
          have f0 : wr.frozen? ⟨w.heap.size + 1, 0, none⟩ = false := free_blk q2 0
          have g0 : wr.cell? ⟨w.heap.size + 1, 0, none⟩ = some (.bool false) := by rw [cell_blk q2]; rfl
          clear q1 q2 he
          go_wp2_with fail
          refine HRD.out.mono ?_
          rintro e1 w1 ⟨rfl, rfl⟩
          clear HRD
          go_wp2_with fail
          refine (HD _).out.mono ?_
          rintro e2 w2 ⟨rfl, he2⟩
          unfold zeroSup
          have q1 := he2.blk Q.out.1
          have q2 := he2.blk Q.out.2.1
          have he := Q.out.2.2.trans he2
          clear Q HD he2
          go_upto_region 7 with (fail)
          obtain ⟨wb, hwb⟩ : ∃ wb, w2.alloc (.cells #[.int .u64 0, .int .u64 0, num 0, num 0, num 0, num 0, .bool false, num 0, num 0, num 0] 41) = wb := ⟨_, rfl⟩
          have eb : Ext w2 wb := by rw [← hwb]; exact (Ext.refl w2).alloc _
          have q1 := eb.blk q1
          have q2 := eb.blk q2
          have he := he.trans eb
          have g0 : wb.cell? ⟨w.heap.size + 1, 0, none⟩ = some (.bool false) := by rw [cell_blk q2]; rfl
          have f0 : wb.frozen? ⟨w.heap.size + 1, 0, none⟩ = false := free_blk q2 0
          have Q := Lib.hid (show BothAt w (#[.int .u64 0, .int .u64 0, num 0, num 0, num 0, num 0, .bool false, num 0, num 0, num 0, .int .u64 0, .int .u64 0, num 0, num 0, num 0, num 0, .bool false, num 0, num 0, num 0])  false  false (wb.setCell ⟨w.heap.size + 1, 0, none⟩ (.bool false)) from
            ⟨(set_far (w := wb) (a := ⟨w.heap.size + 1, 0, none⟩) (b := w.heap.size) (by show w.heap.size ≠ w.heap.size + 1; omega) _).trans q1, set_blk q2 0 _, he.set (p := ⟨w.heap.size + 1, 0, none⟩) (Nat.le_succ _) _⟩)
          clear q1 q2 he eb
          go_wp2_with fail
          go_roundw
          case rel => exact .inr (.inl ⟨rfl, Q.out⟩)
          case measure => decide
      | some sup =>
        obtain ⟨hbad, hsec, hfine⟩ := hs0
        simp only [hbad, hsec] at hrd
        have HRD := Lib.hid hrd
        have HD := fun W => Lib.hid (Sup.decode hfine W)
        unfold Sup.cells supC at HD
        generalize textOf sup.sec = T at HRD HD
        have Q := Lib.hid (And.intro q1 (And.intro q2 he))
        clear hrd hbad hsec hfine q1 q2 he
        go_wp2_with fail
        refine HRD.out.mono ?_
        rintro e1 w1 ⟨rfl, rfl⟩
        clear HRD
        go_wp2_with fail
        refine (HD _).out.mono ?_
        rintro e2 w2 ⟨rfl, he2⟩
        have q1 := he2.blk Q.out.1
        have q2 := he2.blk Q.out.2.1
        have he := Q.out.2.2.trans he2
        clear Q HD he2
        go_upto_region 7 with (fail)
        obtain ⟨wb, hwb⟩ : ∃ wb, w2.alloc (.cells #[.int .u64 (sup.u : Int), .int .u64 (sup.e : Int), natv sup.role, natv sup.cols, natv sup.chunk, natv sup.rows, .bool false, natv sup.built, num 0, num 0] 41) = wb := ⟨_, rfl⟩
        have eb : Ext w2 wb := by rw [← hwb]; exact (Ext.refl w2).alloc _
        have bb : wb.heap[w2.heap.size]? = some (.cells #[.int .u64 (sup.u : Int), .int .u64 (sup.e : Int), natv sup.role, natv sup.cols, natv sup.chunk, natv sup.rows, .bool false, natv sup.built, num 0, num 0] 41) := by rw [← hwb]; exact alloc_new w2 _
        have hne1 : w2.heap.size ≠ w.heap.size := by have := block_lt q1; omega
        have hne2 : w2.heap.size ≠ w.heap.size + 1 := by have := block_lt q2; omega
        have q1 := eb.blk q1
        have q2 := eb.blk q2
        have he := he.trans eb
        have g : wb.cell? ⟨w.heap.size + 1, 0, none⟩ = some (.bool false) := by rw [cell_blk q2]; rfl
        have f : wb.frozen? ⟨w.heap.size + 1, 0, none⟩ = false := free_blk q2 0
        obtain ⟨wf, hwf⟩ : ∃ wf, wb.setCell ⟨w.heap.size + 1, 0, none⟩ (.bool true) = wf := ⟨_, rfl⟩
        have p1 : wf.heap[w.heap.size]? = some (.cells (#[.int .u64 0, .int .u64 0, num 0, num 0, num 0, num 0, .bool false, num 0, num 0, num 0, .int .u64 0, .int .u64 0, num 0, num 0, num 0, num 0, .bool false, num 0, num 0, num 0]) 101) := by rw [← hwf]; exact (set_far (w := wb) (a := ⟨w.heap.size + 1, 0, none⟩) (b := w.heap.size) (by show w.heap.size ≠ w.heap.size + 1; omega) _).trans q1
        have p2 : wf.heap[w.heap.size + 1]? = some (.cells #[.bool true, .bool false] 102) := by rw [← hwf]; exact set_blk q2 0 _
        have p3 : wf.heap[w2.heap.size]? = some (.cells #[.int .u64 (sup.u : Int), .int .u64 (sup.e : Int), natv sup.role, natv sup.cols, natv sup.chunk, natv sup.rows, .bool false, natv sup.built, num 0, num 0] 41) := by rw [← hwf]; exact (set_far (w := wb) (a := ⟨w.heap.size + 1, 0, none⟩) (b := w2.heap.size) hne2 _).trans bb
        have pe : Ext w wf := by rw [← hwf]; exact he.set (p := ⟨w.heap.size + 1, 0, none⟩) (Nat.le_succ _) _
        have hk : wf.cell? ⟨w.heap.size + 1, 0, none⟩ = some (.bool true) := by rw [cell_blk p2]; rfl
        have c0 : wf.cell? ⟨w2.heap.size, 0, none⟩ = some (.int .u64 (sup.u : Int)) := by rw [cell_blk p3]; rfl
        have r0 : wf.cell? ⟨w.heap.size, 0, none⟩ = some (.int .u64 0) := by rw [cell_blk p1]; rfl
        have z0 : wf.frozen? ⟨w.heap.size, 0, none⟩ = false := free_blk p1 0
        have c1 : wf.cell? ⟨w2.heap.size, 1, none⟩ = some (.int .u64 (sup.e : Int)) := by rw [cell_blk p3]; rfl
        have r1 : wf.cell? ⟨w.heap.size, 1, none⟩ = some (.int .u64 0) := by rw [cell_blk p1]; rfl
        have z1 : wf.frozen? ⟨w.heap.size, 1, none⟩ = false := free_blk p1 1
        have c2 : wf.cell? ⟨w2.heap.size, 2, none⟩ = some (natv sup.role) := by rw [cell_blk p3]; rfl
        have r2 : wf.cell? ⟨w.heap.size, 2, none⟩ = some (num 0) := by rw [cell_blk p1]; rfl
        have z2 : wf.frozen? ⟨w.heap.size, 2, none⟩ = false := free_blk p1 2
        have c3 : wf.cell? ⟨w2.heap.size, 3, none⟩ = some (natv sup.cols) := by rw [cell_blk p3]; rfl
        have r3 : wf.cell? ⟨w.heap.size, 3, none⟩ = some (num 0) := by rw [cell_blk p1]; rfl
        have z3 : wf.frozen? ⟨w.heap.size, 3, none⟩ = false := free_blk p1 3
        have c4 : wf.cell? ⟨w2.heap.size, 4, none⟩ = some (natv sup.chunk) := by rw [cell_blk p3]; rfl
        have r4 : wf.cell? ⟨w.heap.size, 4, none⟩ = some (num 0) := by rw [cell_blk p1]; rfl
        have z4 : wf.frozen? ⟨w.heap.size, 4, none⟩ = false := free_blk p1 4
        have c5 : wf.cell? ⟨w2.heap.size, 5, none⟩ = some (natv sup.rows) := by rw [cell_blk p3]; rfl
        have r5 : wf.cell? ⟨w.heap.size, 5, none⟩ = some (num 0) := by rw [cell_blk p1]; rfl
        have z5 : wf.frozen? ⟨w.heap.size, 5, none⟩ = false := free_blk p1 5
        have c6 : wf.cell? ⟨w2.heap.size, 6, none⟩ = some (.bool false) := by rw [cell_blk p3]; rfl
        have r6 : wf.cell? ⟨w.heap.size, 6, none⟩ = some (.bool false) := by rw [cell_blk p1]; rfl
        have z6 : wf.frozen? ⟨w.heap.size, 6, none⟩ = false := free_blk p1 6
        have c7 : wf.cell? ⟨w2.heap.size, 7, none⟩ = some (natv sup.built) := by rw [cell_blk p3]; rfl
        have r7 : wf.cell? ⟨w.heap.size, 7, none⟩ = some (num 0) := by rw [cell_blk p1]; rfl
        have z7 : wf.frozen? ⟨w.heap.size, 7, none⟩ = false := free_blk p1 7
        have c8 : wf.cell? ⟨w2.heap.size, 8, none⟩ = some (num 0) := by rw [cell_blk p3]; rfl
        have r8 : wf.cell? ⟨w.heap.size, 8, none⟩ = some (num 0) := by rw [cell_blk p1]; rfl
        have z8 : wf.frozen? ⟨w.heap.size, 8, none⟩ = false := free_blk p1 8
        have c9 : wf.cell? ⟨w2.heap.size, 9, none⟩ = some (num 0) := by rw [cell_blk p3]; rfl
        have r9 : wf.cell? ⟨w.heap.size, 9, none⟩ = some (num 0) := by rw [cell_blk p1]; rfl
        have z9 : wf.frozen? ⟨w.heap.size, 9, none⟩ = false := free_blk p1 9
        have Q := Lib.hid (show BothAt w (#[.int .u64 (sup.u : Int), .int .u64 (sup.e : Int), natv sup.role, natv sup.cols, natv sup.chunk, natv sup.rows, .bool false, natv sup.built, num 0, num 0, .int .u64 0, .int .u64 0, num 0, num 0, num 0, num 0, .bool false, num 0, num 0, num 0])  true  false ((((((((((wf.setCell ⟨w.heap.size, 0, none⟩ (.int .u64 (sup.u : Int))).setCell ⟨w.heap.size, 1, none⟩ (.int .u64 (sup.e : Int))).setCell ⟨w.heap.size, 2, none⟩ (natv sup.role)).setCell ⟨w.heap.size, 3, none⟩ (natv sup.cols)).setCell ⟨w.heap.size, 4, none⟩ (natv sup.chunk)).setCell ⟨w.heap.size, 5, none⟩ (natv sup.rows)).setCell ⟨w.heap.size, 6, none⟩ (.bool false)).setCell ⟨w.heap.size, 7, none⟩ (natv sup.built)).setCell ⟨w.heap.size, 8, none⟩ (num 0)).setCell ⟨w.heap.size, 9, none⟩ (num 0)) from both_store0 ⟨p1, p2, pe⟩ (.int .u64 (sup.u : Int)) (.int .u64 (sup.e : Int)) (natv sup.role) (natv sup.cols) (natv sup.chunk) (natv sup.rows) (.bool false) (natv sup.built) (num 0) (num 0))
        clear q1 q2 he eb bb p1 p2 p3 pe hne1 hne2
        go_wp2_with fail
        go_roundw
        case rel => exact .inr (.inl ⟨rfl, Q.out⟩)
        case measure => decide
    · skip
      obtain ⟨x0, x1, x2, x3, x4, x5, x6, x7, x8, x9, hxa⟩ := slotC_form a
      rw [hxa] at q1
      have HC := h.keep he.to_keeps (fun h => h) (fun h => h) (fun h => h) (fun h => h)
      have hrd := read_walk HC 1 (by omega) (hlt 1 (by decide))
      clear HC R0
      cases b with
      | none =>
        rcases hs1 with hbad | ⟨hbad, hopen⟩
        · simp only [hbad] at hrd
          have HRD := Lib.hid hrd
          clear hrd hbad
          have Q := Lib.hid (And.intro q1 (And.intro q2 he))
          clear q1 q2 he
          go_wp2_with fail
          refine HRD.out.mono ?_
          rintro e1 w1 ⟨rfl, rfl⟩
          clear HRD
          go_wp2_with fail
          go_roundw
          case rel => exact .inr (.inr ⟨rfl, by rw [hxa]; exact Q.out⟩)
          case measure => decide
        · simp only [hbad] at hrd
          have HRD := Lib.hid hrd
          clear hrd hbad
          have hsz : (textOf (safe 1)).size = 64 := by rw [textOf_size]; exact h.s64 1 (by omega)
          have hop2 : openB (secOf (textOf (safe 1))) = false := by rw [secOf_textOf (hlt 1 (by decide))]; exact hopen
          have HD := fun W => Lib.hid (sdecode_off (textOf (safe 1)) W hsz hop2)
          generalize textOf (safe 1) = T at HRD HD
          clear hsz hop2 hopen
          have Q := Lib.hid (And.intro q1 (And.intro q2 he))
          have f1 : wr.frozen? ⟨w.heap.size + 1, 1, none⟩ = false := free_blk q2 1
          have g1 : wr.cell? ⟨w.heap.size + 1, 1, none⟩ = some (.bool false) := by rw [cell_blk q2]; rfl
          clear q1 q2 he
          go_wp2_with fail
          refine HRD.out.mono ?_
          rintro e1 w1 ⟨rfl, rfl⟩
          clear HRD
          go_wp2_with fail
          refine (HD _).out.mono ?_
          rintro e2 w2 ⟨rfl, he2⟩
          unfold zeroSup
          have q1 := he2.blk Q.out.1
          have q2 := he2.blk Q.out.2.1
          have he := Q.out.2.2.trans he2
          clear Q HD he2
          go_upto_region 7 with (fail)
          obtain ⟨wb, hwb⟩ : ∃ wb, w2.alloc (.cells #[.int .u64 0, .int .u64 0, num 0, num 0, num 0, num 0, .bool false, num 0, num 0, num 0] 41) = wb := ⟨_, rfl⟩
          have eb : Ext w2 wb := by rw [← hwb]; exact (Ext.refl w2).alloc _
          have q1 := eb.blk q1
          have q2 := eb.blk q2
          have he := he.trans eb
          have g1 : wb.cell? ⟨w.heap.size + 1, 1, none⟩ = some (.bool false) := by rw [cell_blk q2]; rfl
          have f1 : wb.frozen? ⟨w.heap.size + 1, 1, none⟩ = false := free_blk q2 1
          have Q := Lib.hid (show BothAt w (#[x0, x1, x2, x3, x4, x5, x6, x7, x8, x9, .int .u64 0, .int .u64 0, num 0, num 0, num 0, num 0, .bool false, num 0, num 0, num 0])  a.isSome  false (wb.setCell ⟨w.heap.size + 1, 1, none⟩ (.bool false)) from
            ⟨(set_far (w := wb) (a := ⟨w.heap.size + 1, 1, none⟩) (b := w.heap.size) (by show w.heap.size ≠ w.heap.size + 1; omega) _).trans q1, set_blk q2 1 _, he.set (p := ⟨w.heap.size + 1, 1, none⟩) (Nat.le_succ _) _⟩)
          clear q1 q2 he eb
          go_wp2_with fail
          go_roundw
          case rel => exact .inr (.inr ⟨rfl, by rw [hxa]; exact Q.out⟩)
          case measure => decide
      | some sup =>
        obtain ⟨hbad, hsec, hfine⟩ := hs1
        simp only [hbad, hsec] at hrd
        have HRD := Lib.hid hrd
        have HD := fun W => Lib.hid (Sup.decode hfine W)
        unfold Sup.cells supC at HD
        generalize textOf sup.sec = T at HRD HD
        have Q := Lib.hid (And.intro q1 (And.intro q2 he))
        clear hrd hbad hsec hfine q1 q2 he
        go_wp2_with fail
        refine HRD.out.mono ?_
        rintro e1 w1 ⟨rfl, rfl⟩
        clear HRD
        go_wp2_with fail
        refine (HD _).out.mono ?_
        rintro e2 w2 ⟨rfl, he2⟩
        have q1 := he2.blk Q.out.1
        have q2 := he2.blk Q.out.2.1
        have he := Q.out.2.2.trans he2
        clear Q HD he2
        go_upto_region 7 with (fail)
        obtain ⟨wb, hwb⟩ : ∃ wb, w2.alloc (.cells #[.int .u64 (sup.u : Int), .int .u64 (sup.e : Int), natv sup.role, natv sup.cols, natv sup.chunk, natv sup.rows, .bool false, natv sup.built, num 0, num 0] 41) = wb := ⟨_, rfl⟩
        have eb : Ext w2 wb := by rw [← hwb]; exact (Ext.refl w2).alloc _
        have bb : wb.heap[w2.heap.size]? = some (.cells #[.int .u64 (sup.u : Int), .int .u64 (sup.e : Int), natv sup.role, natv sup.cols, natv sup.chunk, natv sup.rows, .bool false, natv sup.built, num 0, num 0] 41) := by rw [← hwb]; exact alloc_new w2 _
        have hne1 : w2.heap.size ≠ w.heap.size := by have := block_lt q1; omega
        have hne2 : w2.heap.size ≠ w.heap.size + 1 := by have := block_lt q2; omega
        have q1 := eb.blk q1
        have q2 := eb.blk q2
        have he := he.trans eb
        have g : wb.cell? ⟨w.heap.size + 1, 1, none⟩ = some (.bool false) := by rw [cell_blk q2]; rfl
        have f : wb.frozen? ⟨w.heap.size + 1, 1, none⟩ = false := free_blk q2 1
        obtain ⟨wf, hwf⟩ : ∃ wf, wb.setCell ⟨w.heap.size + 1, 1, none⟩ (.bool true) = wf := ⟨_, rfl⟩
        have p1 : wf.heap[w.heap.size]? = some (.cells (#[x0, x1, x2, x3, x4, x5, x6, x7, x8, x9, .int .u64 0, .int .u64 0, num 0, num 0, num 0, num 0, .bool false, num 0, num 0, num 0]) 101) := by rw [← hwf]; exact (set_far (w := wb) (a := ⟨w.heap.size + 1, 1, none⟩) (b := w.heap.size) (by show w.heap.size ≠ w.heap.size + 1; omega) _).trans q1
        have p2 : wf.heap[w.heap.size + 1]? = some (.cells #[.bool a.isSome, .bool true] 102) := by rw [← hwf]; exact set_blk q2 1 _
        have p3 : wf.heap[w2.heap.size]? = some (.cells #[.int .u64 (sup.u : Int), .int .u64 (sup.e : Int), natv sup.role, natv sup.cols, natv sup.chunk, natv sup.rows, .bool false, natv sup.built, num 0, num 0] 41) := by rw [← hwf]; exact (set_far (w := wb) (a := ⟨w.heap.size + 1, 1, none⟩) (b := w2.heap.size) hne2 _).trans bb
        have pe : Ext w wf := by rw [← hwf]; exact he.set (p := ⟨w.heap.size + 1, 1, none⟩) (Nat.le_succ _) _
        have hk : wf.cell? ⟨w.heap.size + 1, 1, none⟩ = some (.bool true) := by rw [cell_blk p2]; rfl
        have c0 : wf.cell? ⟨w2.heap.size, 0, none⟩ = some (.int .u64 (sup.u : Int)) := by rw [cell_blk p3]; rfl
        have r0 : wf.cell? ⟨w.heap.size, 10, none⟩ = some (.int .u64 0) := by rw [cell_blk p1]; rfl
        have z0 : wf.frozen? ⟨w.heap.size, 10, none⟩ = false := free_blk p1 10
        have c1 : wf.cell? ⟨w2.heap.size, 1, none⟩ = some (.int .u64 (sup.e : Int)) := by rw [cell_blk p3]; rfl
        have r1 : wf.cell? ⟨w.heap.size, 11, none⟩ = some (.int .u64 0) := by rw [cell_blk p1]; rfl
        have z1 : wf.frozen? ⟨w.heap.size, 11, none⟩ = false := free_blk p1 11
        have c2 : wf.cell? ⟨w2.heap.size, 2, none⟩ = some (natv sup.role) := by rw [cell_blk p3]; rfl
        have r2 : wf.cell? ⟨w.heap.size, 12, none⟩ = some (num 0) := by rw [cell_blk p1]; rfl
        have z2 : wf.frozen? ⟨w.heap.size, 12, none⟩ = false := free_blk p1 12
        have c3 : wf.cell? ⟨w2.heap.size, 3, none⟩ = some (natv sup.cols) := by rw [cell_blk p3]; rfl
        have r3 : wf.cell? ⟨w.heap.size, 13, none⟩ = some (num 0) := by rw [cell_blk p1]; rfl
        have z3 : wf.frozen? ⟨w.heap.size, 13, none⟩ = false := free_blk p1 13
        have c4 : wf.cell? ⟨w2.heap.size, 4, none⟩ = some (natv sup.chunk) := by rw [cell_blk p3]; rfl
        have r4 : wf.cell? ⟨w.heap.size, 14, none⟩ = some (num 0) := by rw [cell_blk p1]; rfl
        have z4 : wf.frozen? ⟨w.heap.size, 14, none⟩ = false := free_blk p1 14
        have c5 : wf.cell? ⟨w2.heap.size, 5, none⟩ = some (natv sup.rows) := by rw [cell_blk p3]; rfl
        have r5 : wf.cell? ⟨w.heap.size, 15, none⟩ = some (num 0) := by rw [cell_blk p1]; rfl
        have z5 : wf.frozen? ⟨w.heap.size, 15, none⟩ = false := free_blk p1 15
        have c6 : wf.cell? ⟨w2.heap.size, 6, none⟩ = some (.bool false) := by rw [cell_blk p3]; rfl
        have r6 : wf.cell? ⟨w.heap.size, 16, none⟩ = some (.bool false) := by rw [cell_blk p1]; rfl
        have z6 : wf.frozen? ⟨w.heap.size, 16, none⟩ = false := free_blk p1 16
        have c7 : wf.cell? ⟨w2.heap.size, 7, none⟩ = some (natv sup.built) := by rw [cell_blk p3]; rfl
        have r7 : wf.cell? ⟨w.heap.size, 17, none⟩ = some (num 0) := by rw [cell_blk p1]; rfl
        have z7 : wf.frozen? ⟨w.heap.size, 17, none⟩ = false := free_blk p1 17
        have c8 : wf.cell? ⟨w2.heap.size, 8, none⟩ = some (num 0) := by rw [cell_blk p3]; rfl
        have r8 : wf.cell? ⟨w.heap.size, 18, none⟩ = some (num 0) := by rw [cell_blk p1]; rfl
        have z8 : wf.frozen? ⟨w.heap.size, 18, none⟩ = false := free_blk p1 18
        have c9 : wf.cell? ⟨w2.heap.size, 9, none⟩ = some (num 0) := by rw [cell_blk p3]; rfl
        have r9 : wf.cell? ⟨w.heap.size, 19, none⟩ = some (num 0) := by rw [cell_blk p1]; rfl
        have z9 : wf.frozen? ⟨w.heap.size, 19, none⟩ = false := free_blk p1 19
        have Q := Lib.hid (show BothAt w (#[x0, x1, x2, x3, x4, x5, x6, x7, x8, x9, .int .u64 (sup.u : Int), .int .u64 (sup.e : Int), natv sup.role, natv sup.cols, natv sup.chunk, natv sup.rows, .bool false, natv sup.built, num 0, num 0])  a.isSome  true ((((((((((wf.setCell ⟨w.heap.size, 10, none⟩ (.int .u64 (sup.u : Int))).setCell ⟨w.heap.size, 11, none⟩ (.int .u64 (sup.e : Int))).setCell ⟨w.heap.size, 12, none⟩ (natv sup.role)).setCell ⟨w.heap.size, 13, none⟩ (natv sup.cols)).setCell ⟨w.heap.size, 14, none⟩ (natv sup.chunk)).setCell ⟨w.heap.size, 15, none⟩ (natv sup.rows)).setCell ⟨w.heap.size, 16, none⟩ (.bool false)).setCell ⟨w.heap.size, 17, none⟩ (natv sup.built)).setCell ⟨w.heap.size, 18, none⟩ (num 0)).setCell ⟨w.heap.size, 19, none⟩ (num 0)) from both_store1 ⟨p1, p2, pe⟩ (.int .u64 (sup.u : Int)) (.int .u64 (sup.e : Int)) (natv sup.role) (natv sup.cols) (natv sup.chunk) (natv sup.rows) (.bool false) (natv sup.built) (num 0) (num 0))
        clear q1 q2 he eb bb p1 p2 p3 pe hne1 hne2
        go_wp2_with fail
        go_roundw
        case rel => exact .inr (.inr ⟨rfl, by rw [hxa]; exact Q.out⟩)
        case measure => decide
    -- GEN)
    · clear R0
      have hsz : (catC (slotC a) (slotC b)).toList.length = 20 := by
        obtain ⟨_, _, _, _, _, _, _, _, _, _, e1⟩ := slotC_form a
        obtain ⟨_, _, _, _, _, _, _, _, _, _, e2⟩ := slotC_form b
        rw [e1, e2]
        rfl
      have hon : ∀ v ∈ (catC (slotC a) (slotC b)).toList, v.oneCell' = true := by
        intro v hv
        simp only [catC, List.mem_append] at hv
        rcases hv with hv | hv
        · exact slotC_one a v hv
        · exact slotC_one b v hv
      obtain ⟨L, hL⟩ : ∃ L : List Value, (catC (slotC a) (slotC b)).toList = L := ⟨_, rfl⟩
      have hC : catC (slotC a) (slotC b) = L.toArray := by rw [← hL]
      rw [hL] at hsz hon
      rw [hC] at q1
      have HC := Lib.hid hC
      clear h hn hlt hs0 hs1 hL hC
      go_wp2_with fail
      have hun := Tryz.underlying101
      have hi101 : (Tryz.prog.info? 101).map (·.size) = some L.length := by rw [hsz]; kernel_rfl
      have hi102 : (Tryz.prog.info? 101).map (·.size) = some L.toArray.size := by rw [List.size_toArray, hsz]; kernel_rfl
      have hall : L.toArray.all (·.oneCell') = true := all_oneCell_toArray hon
      have X := Lib.hid (show BothS w L a.isSome b.isSome wr.drew from ⟨fun j v hv => by rw [cell_blk (drew_blk q1), Nat.zero_add]; simpa using hv, fun j hj => ⟨by rw [cell_blk (drew_blk q1), Nat.zero_add, List.getElem?_toArray, List.getElem?_eq_getElem hj]; rfl, by rw [Nat.zero_add]; exact free_blk (drew_blk q1) j⟩, drew_blk q2, he.drew⟩)
      have HI := Lib.hid (And.intro hi101 (And.intro hi102 hall))
      clear q1 q2 he hsz hon hi101 hi102 hall
      refine wp_region_noPanic ?_
      refine wp_region_held_drew (S := fun W => BothS w L a.isSome b.isSome W) (by kernel_rfl) X.out (fun hHeld => ?_)
      generalize World.drew wr = wd at X hHeld ⊢
      refine wpAnyH_take3 (i := 0) (d := 35) (v := .agg L.toArray) rfl rfl (by kernel_rfl) (by kernel_rfl) (by kernel_rfl) (fun _ _ _ h => h) (yieldsIf_load_mid (by rfl) 101 (.tmp 2) rfl w.heap.size 0 rfl L _ (fun W h => h.1) hun rfl HI.out.1) hHeld ?_
      simp only [List.setIfInBounds_toArray, List.set_cons_succ, List.set_cons_zero]
      refine wpAnyH_take3 (i := 1) (d := 36) (v := .agg #[.bool a.isSome, .bool b.isSome]) rfl rfl (by kernel_rfl) (by kernel_rfl) (by kernel_rfl) (fun _ _ _ h => h) (Or.inl ⟨by rfl, ?_⟩) hHeld ?_
      · intro w9 hS9
        have c0 : w9.cell? ⟨w.heap.size + 1, 0, none⟩ = some (.bool a.isSome) := by rw [cell_blk hS9.2.2.1]; rfl
        have c1 : w9.cell? ⟨w.heap.size + 1, 1, none⟩ = some (.bool b.isSome) := by rw [cell_blk hS9.2.2.1]; rfl
        clear hS9
        go_simp
      simp only [List.setIfInBounds_toArray, List.set_cons_succ, List.set_cons_zero]
      refine wpAnyH_ready (rs := [2]) (by kernel_rfl) (by simp) ?_
      refine AllReadyH.cons rfl (fun K9 hK9 => ?_) AllReadyH.nil
      refine wp_store_mid2 rfl _ _ _ rfl w.heap.size 0 L.toArray rfl rfl (by rw [List.size_toArray]; exact X.out.2.1) HI.out.2.1 HI.out.2.2 ?_
      have X := Lib.hid (X.out.store)
      refine hK9.out _ _ ?_ (fun hHeld => ?_)
      · exact X.out
      clear hK9 K9
      revert X hHeld
      generalize World.setCells _ _ _ _ = wz
      intro X hHeld
      have k0 : wz.cell? ⟨w.heap.size + 1, 0, none⟩ = some (.bool a.isSome) := by rw [cell_blk X.out.2.2.1]; rfl
      have k1 : wz.cell? ⟨w.heap.size + 1, 1, none⟩ = some (.bool b.isSome) := by rw [cell_blk X.out.2.2.1]; rfl
      have f0 : wz.frozen? ⟨w.heap.size + 1, 0, none⟩ = false := free_blk X.out.2.2.1 0
      have f1 : wz.frozen? ⟨w.heap.size + 1, 1, none⟩ = false := free_blk X.out.2.2.1 1
      refine wpAnyH_ready (rs := [3]) (by kernel_rfl) (by simp) ?_
      refine AllReadyH.cons rfl (fun K9 hK9 => ?_) AllReadyH.nil
      go_simp
      have X := Lib.hid (X.out.flags)
      refine hK9.out _ _ ?_ (fun hHeld => ?_)
      · exact X.out
      clear hK9 K9 k0 k1 f0 f1
      refine wpAnyH_done (by kernel_rfl) ?_ _
      refine NoPanic.normal ?_
      revert X hHeld
      generalize World.setCell _ _ _ = wy
      intro X hHeld
      have hlv := run_loadVar_mid (P := Tryz.prog) wy w.heap.size 0 101 L _ X.out.1 hun rfl HI.out.1
      have hl2 : (loadVar 102 ⟨w.heap.size + 1, 0, none⟩).run Tryz.prog wy = .ok (.agg #[.bool a.isSome, .bool b.isSome]) wy := run_loadVar_mid (P := Tryz.prog) wy (w.heap.size + 1) 0 102 [.bool a.isSome, .bool b.isSome] _ (fun j v hv => by rw [cell_blk X.out.2.2.1, Nat.zero_add]; simpa using hv) Tryz.underlying102 rfl (by kernel_rfl)
      clear hHeld
      go_wp2_with fail
      refine bodyPost_ret (v := .tuple #[.agg L.toArray, .agg #[.bool a.isSome, .bool b.isSome]]) (results_cells2 Tryz.results46 rfl rfl hlv hl2) rfl ⟨by rw [HC.out], X.out.2.2.2⟩

end Go.Proofs.YtdilchcnfnfdiaaGreatDoor
