/- slots: Next. -/
import Derived.Test.YtdilchcnfnfdiaaGreatDoorTLoad
namespace Go.Proofs.YtdilchcnfnfdiaaGreatDoor
open Go.RowKit

def Sup.at (s : Sup) (e : Nat) : Sup := { s with e := e }
set_option maxRecDepth 100000 in
set_option maxHeartbeats 4000000 in
theorem next_walk {w : World} {d sf m sp n lim : Nat} {safe : Nat → Sec} {bad : Int → Bool} (h : Calm w d sf m sp n lim safe bad) (hn : 2 ≤ n) (hlim : lim < 100000) (hlt : ∀ i, i < 2 → ∀ x ∈ safe i, x < 256) (a b : Option Sup) (hs0 : SlotIs safe bad 0 a) (hs1 : SlotIs safe bad 1 b) (x s : Sup) (hx : pick a b = some x)
    (hf : (s.at (x.e + 1)).Fine) :
    Calls Tryz.prog 14 #[ptr d, .agg s.cells] w fun r w' => r = .returned (.tuple #[.agg (s.at (x.e + 1)).cells, num 0]) ∧ Saved w w' d sf m sp n lim safe bad ((x.e + 1) % 2) (s.at (x.e + 1)).sec := by
  have e0 := ((Ext.refl w).alloc (.cells s.cells 41)).alloc (.cells zeroC 41)
  have b0 := alloc_old (.cells zeroC 41) (alloc_new w (.cells s.cells 41))
  have b1 := alloc_new (w.alloc (.cells s.cells 41)) (.cells zeroC 41)
  rw [size_alloc] at b1
  have h0 := h.keep e0.to_keeps (fun h => h) (fun h => h) (fun h => h) (fun h => h)
  have HL := Lib.hid (load_walk h0 hn hlt a b hs0 hs1 x hx)
  have HX := Lib.hid h0
  have HP := Lib.hid h.pend
  have E0 := Lib.hid e0
  have B0 := Lib.hid (And.intro b0 b1)
  have HE := Lib.hid (show x.e + 1 < two64 from hf.he)
  have hwr : IntKind.u64.wrap ((x.e : Int) + 1) = ((x.e + 1 : Nat) : Int) := by rw [IntKind.wrap_u64]; have := HE.out; unfold two64 at this; omega
  clear h h0 hs0 hs1 hlt e0 b0 b1 hx
  unfold Sup.cells supC at HL E0 B0 HX ⊢
  unfold zeroC at HL E0 B0 HX
  go_enter Tryz.func14, Tryz.ntmps14
  go_wp2_with fail
  refine HL.out.mono ?_
  rintro e1 w1 ⟨rfl, he1⟩
  have E1 := Lib.hid (E0.out.trans he1)
  have q0 := he1.blk B0.out.1
  have q1 := he1.blk B0.out.2
  have HC1 := Lib.hid (HX.out.keep he1.to_keeps (fun h => h) (fun h => h) (fun h => h) (fun h => h))
  go_upto_region 2 with (fail)
  obtain ⟨wb, hwb⟩ : ∃ wb, w1.alloc (.cells #[.int .u64 (x.u : Int), .int .u64 (x.e : Int), natv x.role, natv x.cols, natv x.chunk, natv x.rows, .bool false, natv x.built, num 0, num 0] 41) = wb := ⟨_, rfl⟩
  have eb : Ext w1 wb := by rw [← hwb]; exact (Ext.refl w1).alloc _
  have bb : wb.heap[w1.heap.size]? = some (.cells x.cells 41) := by rw [← hwb]; exact alloc_new w1 _
  have q0 := eb.blk q0
  have q1 := eb.blk q1
  have HCB := Lib.hid (HC1.out.keep eb.to_keeps (fun h => h) (fun h => h) (fun h => h) (fun h => h))
  have kb1 : wb.cell? ⟨w.heap.size, 1, none⟩ = some (.int .u64 (s.e : Int)) := by rw [cell_blk q0]; rfl
  have f1 : wb.frozen? ⟨w.heap.size, 1, none⟩ = false := free_blk q0 1
  have x1 : wb.cell? ⟨w1.heap.size, 1, none⟩ = some (.int .u64 (x.e : Int)) := by rw [cell_blk bb]; rfl
  have EB := Lib.hid (E1.out.trans eb)
  have QB := Lib.hid (And.intro q0 q1)
  clear HL E0 B0 HX he1 E1 q0 q1 HC1 eb bb
  go_upto_region 5 with (fail)
  obtain ⟨wc, hwc⟩ : ∃ wc, (wb.setCell ⟨w.heap.size, 1, none⟩ (.int .u64 (x.e : Int))).setCell ⟨w.heap.size, 1, none⟩ (.int .u64 ((x.e : Int) + 1)) = wc := ⟨_, rfl⟩
  have KC : Keeps (fun q => q = w.heap.size) wb wc := by rw [← hwc]; exact (((Keeps.refl (fun q => q = w.heap.size) wb).set (p := ⟨w.heap.size, 1, none⟩) (.inl rfl) _).set (p := ⟨w.heap.size, 1, none⟩) (.inl rfl) _)
  have bc : wc.heap[w.heap.size]? = some (.cells #[.int .u64 (s.u : Int), .int .u64 ((x.e : Int) + 1), natv s.role, natv s.cols, natv s.chunk, natv s.rows, .bool false, natv s.built, num 0, num 0] 41) := by rw [← hwc]; exact set_blk (set_blk QB.out.1 1 _) 1 _
  have rc : wc.heap[w.heap.size + 1]? = some (.cells #[.int .u64 0, .int .u64 0, num 0, num 0, num 0, num 0, .bool false, num 0, num 0, num 0] 41) := KC.blk QB.out.2 (by show ¬ (w.heap.size + 1 = w.heap.size); omega)
  have ec : Ext w wc := EB.out.keeps KC (fun q hq => by subst hq; exact Nat.le_refl _)
  have nd : ∀ q, drvF d sf m sp q → q < w.heap.size := fun q hq => by
    rcases hq with rfl | rfl | rfl | rfl
    · exact HP.out.l1
    · exact HP.out.l2
    · exact HP.out.l3
    · exact HP.out.l4
  have HCC := HCB.out.keep KC (fun e => by have := HP.out.l1; omega) (fun e => by have := HP.out.l2; omega) (fun e => by have := HP.out.l3; omega) (fun e => by have := HP.out.l4; omega)
  have hs := ssave_walk HCC hn hlim s.u (x.e + 1) s.role s.cols s.chunk s.rows s.built hf.hu hf.hu2 hf.he hf.h1 hf.h2 hf.h3 hf.h4 hf.h5 hf.h6 hf.h7 hf.h8
  unfold supC at hs
  rw [show ((x.e + 1 : Nat) : Int) = (x.e : Int) + 1 from by omega] at hs
  have HS := Lib.hid hs
  have BC := Lib.hid (And.intro bc (And.intro rc ec))
  have ND := Lib.hid nd
  have k0 : wc.cell? ⟨w.heap.size, 0, none⟩ = some (.int .u64 (s.u : Int)) := by rw [cell_blk bc]; rfl
  have k1 : wc.cell? ⟨w.heap.size, 1, none⟩ = some (.int .u64 ((x.e : Int) + 1)) := by rw [cell_blk bc]; rfl
  have k2 : wc.cell? ⟨w.heap.size, 2, none⟩ = some (natv s.role) := by rw [cell_blk bc]; rfl
  have k3 : wc.cell? ⟨w.heap.size, 3, none⟩ = some (natv s.cols) := by rw [cell_blk bc]; rfl
  have k4 : wc.cell? ⟨w.heap.size, 4, none⟩ = some (natv s.chunk) := by rw [cell_blk bc]; rfl
  have k5 : wc.cell? ⟨w.heap.size, 5, none⟩ = some (natv s.rows) := by rw [cell_blk bc]; rfl
  have k6 : wc.cell? ⟨w.heap.size, 6, none⟩ = some (.bool false) := by rw [cell_blk bc]; rfl
  have k7 : wc.cell? ⟨w.heap.size, 7, none⟩ = some (natv s.built) := by rw [cell_blk bc]; rfl
  have k8 : wc.cell? ⟨w.heap.size, 8, none⟩ = some (num 0) := by rw [cell_blk bc]; rfl
  have k9 : wc.cell? ⟨w.heap.size, 9, none⟩ = some (num 0) := by rw [cell_blk bc]; rfl
  clear KC bc rc ec HCC hs QB EB HCB kb1 f1 x1 nd HP hf hwb
  rw [hwc]
  clear hwc
  go_wp2_with fail
  refine HS.out.mono ?_
  rintro e9 w9 ⟨rfl, hsv⟩
  have bc9 := hsv.2.blk BC.out.1 (fun h => by have := ND.out _ h; omega)
  have rc9 := hsv.2.blk BC.out.2.1 (fun h => by have := ND.out _ h; omega)
  have k0 : w9.cell? ⟨w.heap.size, 0, none⟩ = some (.int .u64 (s.u : Int)) := by rw [cell_blk bc9]; rfl
  have r0 : w9.cell? ⟨w.heap.size + 1, 0, none⟩ = some (.int .u64 0) := by rw [cell_blk rc9]; rfl
  have z0 : w9.frozen? ⟨w.heap.size + 1, 0, none⟩ = false := free_blk rc9 0
  have k1 : w9.cell? ⟨w.heap.size, 1, none⟩ = some (.int .u64 ((x.e : Int) + 1)) := by rw [cell_blk bc9]; rfl
  have r1 : w9.cell? ⟨w.heap.size + 1, 1, none⟩ = some (.int .u64 0) := by rw [cell_blk rc9]; rfl
  have z1 : w9.frozen? ⟨w.heap.size + 1, 1, none⟩ = false := free_blk rc9 1
  have k2 : w9.cell? ⟨w.heap.size, 2, none⟩ = some (natv s.role) := by rw [cell_blk bc9]; rfl
  have r2 : w9.cell? ⟨w.heap.size + 1, 2, none⟩ = some (num 0) := by rw [cell_blk rc9]; rfl
  have z2 : w9.frozen? ⟨w.heap.size + 1, 2, none⟩ = false := free_blk rc9 2
  have k3 : w9.cell? ⟨w.heap.size, 3, none⟩ = some (natv s.cols) := by rw [cell_blk bc9]; rfl
  have r3 : w9.cell? ⟨w.heap.size + 1, 3, none⟩ = some (num 0) := by rw [cell_blk rc9]; rfl
  have z3 : w9.frozen? ⟨w.heap.size + 1, 3, none⟩ = false := free_blk rc9 3
  have k4 : w9.cell? ⟨w.heap.size, 4, none⟩ = some (natv s.chunk) := by rw [cell_blk bc9]; rfl
  have r4 : w9.cell? ⟨w.heap.size + 1, 4, none⟩ = some (num 0) := by rw [cell_blk rc9]; rfl
  have z4 : w9.frozen? ⟨w.heap.size + 1, 4, none⟩ = false := free_blk rc9 4
  have k5 : w9.cell? ⟨w.heap.size, 5, none⟩ = some (natv s.rows) := by rw [cell_blk bc9]; rfl
  have r5 : w9.cell? ⟨w.heap.size + 1, 5, none⟩ = some (num 0) := by rw [cell_blk rc9]; rfl
  have z5 : w9.frozen? ⟨w.heap.size + 1, 5, none⟩ = false := free_blk rc9 5
  have k6 : w9.cell? ⟨w.heap.size, 6, none⟩ = some (.bool false) := by rw [cell_blk bc9]; rfl
  have r6 : w9.cell? ⟨w.heap.size + 1, 6, none⟩ = some (.bool false) := by rw [cell_blk rc9]; rfl
  have z6 : w9.frozen? ⟨w.heap.size + 1, 6, none⟩ = false := free_blk rc9 6
  have k7 : w9.cell? ⟨w.heap.size, 7, none⟩ = some (natv s.built) := by rw [cell_blk bc9]; rfl
  have r7 : w9.cell? ⟨w.heap.size + 1, 7, none⟩ = some (num 0) := by rw [cell_blk rc9]; rfl
  have z7 : w9.frozen? ⟨w.heap.size + 1, 7, none⟩ = false := free_blk rc9 7
  have k8 : w9.cell? ⟨w.heap.size, 8, none⟩ = some (num 0) := by rw [cell_blk bc9]; rfl
  have r8 : w9.cell? ⟨w.heap.size + 1, 8, none⟩ = some (num 0) := by rw [cell_blk rc9]; rfl
  have z8 : w9.frozen? ⟨w.heap.size + 1, 8, none⟩ = false := free_blk rc9 8
  have k9 : w9.cell? ⟨w.heap.size, 9, none⟩ = some (num 0) := by rw [cell_blk bc9]; rfl
  have r9 : w9.cell? ⟨w.heap.size + 1, 9, none⟩ = some (num 0) := by rw [cell_blk rc9]; rfl
  have z9 : w9.frozen? ⟨w.heap.size + 1, 9, none⟩ = false := free_blk rc9 9
  have SV := Lib.hid hsv
  clear bc9 rc9 hsv HS
  go_wp2_with fail
  refine bodyPost_ret (v := .tuple #[.agg #[.int .u64 (s.u : Int), .int .u64 ((x.e : Int) + 1), natv s.role, natv s.cols, natv s.chunk, natv s.rows, .bool false, natv s.built, num 0, num 0], num 0]) (by simp [results, Tryz.results14, go_sem, r0, r1, r2, r3, r4, r5, r6, r7, r8, r9]) rfl ⟨rfl, ?_⟩
  have KX := (((((((((((Keeps.refl (fun q => q = w.heap.size + 1) w9).set (p := ⟨w.heap.size + 1, 0, none⟩) (.inl rfl) (.int .u64 (s.u : Int))).set (p := ⟨w.heap.size + 1, 1, none⟩) (.inl rfl) (.int .u64 ((x.e : Int) + 1))).set (p := ⟨w.heap.size + 1, 2, none⟩) (.inl rfl) (natv s.role)).set (p := ⟨w.heap.size + 1, 3, none⟩) (.inl rfl) (natv s.cols)).set (p := ⟨w.heap.size + 1, 4, none⟩) (.inl rfl) (natv s.chunk)).set (p := ⟨w.heap.size + 1, 5, none⟩) (.inl rfl) (natv s.rows)).set (p := ⟨w.heap.size + 1, 6, none⟩) (.inl rfl) (.bool false)).set (p := ⟨w.heap.size + 1, 7, none⟩) (.inl rfl) (natv s.built)).set (p := ⟨w.heap.size + 1, 8, none⟩) (.inl rfl) (num 0)).set (p := ⟨w.heap.size + 1, 9, none⟩) (.inl rfl) (num 0))
  have K1 : Keeps (drvF d sf m sp) w wc := BC.out.2.2.to_keeps.mono (fun _ h => h.elim)
  have K2 := (K1.trans SV.out.2 (fun _ h => .inl h)).trans KX (fun i h => .inr (by subst h; omega))
  refine ⟨SV.out.1.keep KX (fun e => by have := ND.out _ (.inl e.symm); omega) (fun e => by have := ND.out _ (.inr (.inl e.symm)); omega) (fun e => by have := ND.out _ (.inr (.inr (.inl e.symm))); omega) (fun e => by have := ND.out _ (.inr (.inr (.inr e.symm))); omega), K2⟩

end Go.Proofs.YtdilchcnfnfdiaaGreatDoor
