/- An array in memory: its own cells, its drives. An array: members, missing, building, size. An array: building, mark. An array: save. -/
import Derived.Test.YtdilchcnfnfdiaaGreatDoorTPages
import Derived.Test.YtdilchcnfnfdiaaGreatDoorTSEncA
import Derived.Test.YtdilchcnfnfdiaaGreatDoorTInt
import Derived.Test.YtdilchcnfnfdiaaGreatDoorTSupA
import Derived.BigQuiet
namespace Go.Proofs.YtdilchcnfnfdiaaGreatDoor
open Go.RowKit

/-- An array of four columns, chunks of one sector, two rows; nothing of it is missing. -/
def arrC (ev : Nat) (dv bv : Value) (m st : Nat) : Array Value :=
  #[u64v 5, u64v ev, num 4, num 1, num 2, num 0, num 0, dv, bv, .slice none 0 0, .pointer none, .pointer none, ptr m, .map (some st), .bool false, .bool false, num 0, num 0, num 0]

/-- The blocks of the drives. -/
def FF (ds : List DB) (b : Nat) : Prop := ∃ x ∈ ds, x.F b
theorem Keeps.ff {x : DB} {ds : List DB} {w w' : World} (h : Keeps x.F w w') (hx : x ∈ ds) : Keeps (FF ds) w w' := h.mono fun _ hb => .inl ⟨x, hx, hb⟩
theorem Ext.ff {ds : List DB} {w w' : World} (h : Ext w w') : Keeps (FF ds) w w' := Keeps.of_below h
theorem Keeps.ff_trans {ds : List DB} {a b c : World} (h : Keeps (FF ds) a b) (k : Keeps (FF ds) b c) : Keeps (FF ds) a c := h.trans k fun _ hi => .inl hi

theorem apart_of {ds : List DB} (h : ds.Pairwise DB.apart) {x y : DB} (hx : x ∈ ds) (hy : y ∈ ds) (hne : y ≠ x) : y.apart x := by
  rw [List.pairwise_iff_getElem] at h
  obtain ⟨i, hi, rfl⟩ := List.getElem_of_mem hx
  obtain ⟨j, hj, rfl⟩ := List.getElem_of_mem hy
  rcases Nat.lt_trichotomy i j with hij | rfl | hij
  · exact fun b hb hb' => h i j hi hj hij b hb' hb
  · exact absurd rfl hne
  · exact h j i hj hi hij
/-- Something has been done to one of the drives. -/
theorem Fleet.op {w w' : World} {ds : List DB} {n L L' : Nat} (h : Fleet w ds n L) {x : DB} (hx : x ∈ ds) (hc : x.Calm w' n L') (hL : L ≤ L') (K : Keeps x.F w w') : Fleet w' ds n L' := by
  refine ⟨fun y hy => ?_, h.apart⟩
  by_cases e : y = x
  · subst e; exact hc
  · exact ((h.calm y hy).keep K fun b hb hb' => apart_of h.apart hx hy e b hb hb').mono hL

structure ArrV (w : World) (a ev m bz st : Nat) (dv bv : Value) (ds : List DB) (bl : List Nat) : Prop where
  blk : w.heap[a]? = some (.cells (arrC ev dv bv m st) 152)
  drv : OwnM 36 DB.val w 0 dv ds
  blt : OwnM 3 natv w 0 bv bl
  imap : MapV w m bz 2 0 (List.replicate (regs 2) 0)
  ma : m ≠ a
  ba : bz ≠ a
  da : ∀ g, dv.ownBlock = some g → g ≠ a
  la : ∀ g, bv.ownBlock = some g → g ≠ a ∧ g ≠ m ∧ g ≠ bz ∧ dv.ownBlock ≠ some g
  out : ∀ b, FF ds b → b ≠ a ∧ b ≠ m ∧ b ≠ bz ∧ dv.ownBlock ≠ some b ∧ bv.ownBlock ≠ some b
section
variable {w w' : World} {a ev m bz st : Nat} {dv bv : Value} {ds : List DB} {bl : List Nat}
theorem ArrV.keep (h : ArrV w a ev m bz st dv bv ds bl) (K : Keeps (FF ds) w w') : ArrV w' a ev m bz st dv bv ds bl := by
  have o := h.out
  exact ⟨K.blk h.blk (fun hb => (o _ hb).1 rfl), h.drv.keep K (fun g hg hb => (o _ hb).2.2.2.1 hg), h.blt.keep K (fun g hg hb => (o _ hb).2.2.2.2 hg), h.imap.keep K (fun hb => (o _ hb).2.1 rfl) (fun hb => (o _ hb).2.2.1 rfl), h.ma, h.ba, h.da, h.la, h.out⟩
theorem ArrV.ext (h : ArrV w a ev m bz st dv bv ds bl) (e : Ext w w') : ArrV w' a ev m bz st dv bv ds bl := h.keep e.ff
theorem ArrV.cell (h : ArrV w a ev m bz st dv bv ds bl) (i : Nat) : w.cell? ⟨a, i, none⟩ = (arrC ev dv bv m st)[i]? := cell_blk h.blk i
/-- One event on. -/
theorem ArrV.event (h : ArrV w a ev m bz st dv bv ds bl) (ev' : Nat) : ArrV (w.setCell ⟨a, 1, none⟩ (u64v ev')) a ev' m bz st dv bv ds bl := by
  have K : Keeps (fun b => b = a) w (w.setCell ⟨a, 1, none⟩ (u64v ev')) := (Keeps.refl (fun b => b = a) w).set (p := ⟨a, 1, none⟩) (.inl rfl) _
  exact ⟨set_blk h.blk 1 _, h.drv.keep K h.da, h.blt.keep K (fun g hg => (h.la g hg).1), h.imap.keep K h.ma h.ba, h.ma, h.ba, h.da, h.la, h.out⟩
end

set_option maxRecDepth 100000 in
set_option maxHeartbeats 1000000 in
theorem super_walk (role b : Nat) {w : World} {a ev m bz st : Nat} {dv bv : Value} {ds : List DB} {bl : List Nat} (h : ArrV w a ev m bz st dv bv ds bl) :
    Calls Tryz.prog 124 #[ptr a, num role, num b] w fun r w' => r = .returned (.agg (supC 5 ev role 4 1 2 b)) ∧ Ext w w' := by
  have hlt : a < w.heap.size := block_lt h.blk
  obtain ⟨wb, hw⟩ : ∃ wb, w.alloc (.cells #[.int .u64 0, .int .u64 0, num 0, num 0, num 0, num 0, .bool false, num 0, num 0, num 0] 41) = wb := ⟨_, rfl⟩
  have eb : Ext w wb := by rw [← hw]; exact (Ext.refl w).alloc _
  have bb : wb.heap[w.heap.size]? = some (.cells #[.int .u64 0, .int .u64 0, num 0, num 0, num 0, num 0, .bool false, num 0, num 0, num 0] 41) := by rw [← hw]; exact alloc_new w _
  have h2 := h.ext eb
  have k0 : wb.cell? ⟨a, 0, none⟩ = some (u64v 5) := h2.cell 0
  have k1 : wb.cell? ⟨a, 1, none⟩ = some (u64v ev) := h2.cell 1
  have k2 : wb.cell? ⟨a, 2, none⟩ = some (num 4) := h2.cell 2
  have k3 : wb.cell? ⟨a, 3, none⟩ = some (num 1) := h2.cell 3
  have k4 : wb.cell? ⟨a, 4, none⟩ = some (num 2) := h2.cell 4
  have k5 : wb.cell? ⟨a, 5, none⟩ = some (num 0) := h2.cell 5
  have k6 : wb.cell? ⟨a, 6, none⟩ = some (num 0) := h2.cell 6
  have EB := Lib.hid eb
  have BB := Lib.hid bb
  clear h h2 eb bb
  go_enter Tryz.func124, Tryz.ntmps124
  go_wp2_with fail
  go_still_tail 28, (by kernel_rfl)
  change wpList _ _ _ _ _ wb.drew
  have E2 := Lib.hid (EB.out.drew)
  have hb2 : wb.drew.heap[w.heap.size]? = some (.cells #[.int .u64 0, .int .u64 0, num 0, num 0, num 0, num 0, .bool false, num 0, num 0, num 0] 41) := BB.out
  clear BB EB k0 k1 k2 k3 k4 k5 k6
  revert hb2 E2
  generalize wb.drew = w2
  intro E2 hb2
  clear hw wb
  have c0 : w2.cell? ⟨w.heap.size, 0, none⟩ = some (.int .u64 0) := by rw [cell_blk hb2]; rfl
  have f0 : w2.frozen? ⟨w.heap.size, 0, none⟩ = false := free_blk hb2 0
  have c1 : w2.cell? ⟨w.heap.size, 1, none⟩ = some (.int .u64 0) := by rw [cell_blk hb2]; rfl
  have f1 : w2.frozen? ⟨w.heap.size, 1, none⟩ = false := free_blk hb2 1
  have c2 : w2.cell? ⟨w.heap.size, 2, none⟩ = some (num 0) := by rw [cell_blk hb2]; rfl
  have f2 : w2.frozen? ⟨w.heap.size, 2, none⟩ = false := free_blk hb2 2
  have c3 : w2.cell? ⟨w.heap.size, 3, none⟩ = some (num 0) := by rw [cell_blk hb2]; rfl
  have f3 : w2.frozen? ⟨w.heap.size, 3, none⟩ = false := free_blk hb2 3
  have c4 : w2.cell? ⟨w.heap.size, 4, none⟩ = some (num 0) := by rw [cell_blk hb2]; rfl
  have f4 : w2.frozen? ⟨w.heap.size, 4, none⟩ = false := free_blk hb2 4
  have c5 : w2.cell? ⟨w.heap.size, 5, none⟩ = some (num 0) := by rw [cell_blk hb2]; rfl
  have f5 : w2.frozen? ⟨w.heap.size, 5, none⟩ = false := free_blk hb2 5
  have c6 : w2.cell? ⟨w.heap.size, 6, none⟩ = some (.bool false) := by rw [cell_blk hb2]; rfl
  have f6 : w2.frozen? ⟨w.heap.size, 6, none⟩ = false := free_blk hb2 6
  have c7 : w2.cell? ⟨w.heap.size, 7, none⟩ = some (num 0) := by rw [cell_blk hb2]; rfl
  have f7 : w2.frozen? ⟨w.heap.size, 7, none⟩ = false := free_blk hb2 7
  have c8 : w2.cell? ⟨w.heap.size, 8, none⟩ = some (num 0) := by rw [cell_blk hb2]; rfl
  have f8 : w2.frozen? ⟨w.heap.size, 8, none⟩ = false := free_blk hb2 8
  have c9 : w2.cell? ⟨w.heap.size, 9, none⟩ = some (num 0) := by rw [cell_blk hb2]; rfl
  have f9 : w2.frozen? ⟨w.heap.size, 9, none⟩ = false := free_blk hb2 9
  clear hb2
  go_wp2_with fail
  refine bodyPost_ret (v := .agg (supC 5 ev role 4 1 2 b)) (by simp [results, Tryz.results124, go_sem, supC, c0, c1, c2, c3, c4, c5, c6, c7, c8, c9]) rfl ⟨rfl, ?_⟩
  exact ((((((((((E2.out.set (p := ⟨w.heap.size, 0, none⟩) (Nat.le_refl _) _).set (p := ⟨w.heap.size, 1, none⟩) (Nat.le_refl _) _).set (p := ⟨w.heap.size, 2, none⟩) (Nat.le_refl _) _).set (p := ⟨w.heap.size, 3, none⟩) (Nat.le_refl _) _).set (p := ⟨w.heap.size, 4, none⟩) (Nat.le_refl _) _).set (p := ⟨w.heap.size, 5, none⟩) (Nat.le_refl _) _).set (p := ⟨w.heap.size, 6, none⟩) (Nat.le_refl _) _).set (p := ⟨w.heap.size, 7, none⟩) (Nat.le_refl _) _).set (p := ⟨w.heap.size, 8, none⟩) (Nat.le_refl _) _).set (p := ⟨w.heap.size, 9, none⟩) (Nat.le_refl _) _)

end Go.Proofs.YtdilchcnfnfdiaaGreatDoor
namespace Go.Proofs.YtdilchcnfnfdiaaGreatDoor
open Go.RowKit

section
variable {w : World} {a ev m bz st : Nat} {dv bv : Value} {ds : List DB} {bl : List Nat} {L : Nat}
/-- The slice of the drives. -/
theorem ArrV.drvs (h : ArrV w a ev m bz st dv bv ds bl) (hne : ds ≠ []) : ∃ g cap, dv = .slice (some ⟨g, 0, none⟩) ds.length cap ∧ ∀ i, i < ds.length → w.cell? ⟨g, i, none⟩ = some (ds.getD i DB.zero).val := by
  obtain ⟨g, cap, rfl, _, _⟩ := h.drv.shape hne
  refine ⟨g, cap, rfl, fun i hi => h.drv.cell i _ (by simp [hi])⟩
theorem ArrV.blts (h : ArrV w a ev m bz st dv bv ds bl) (hne : bl ≠ []) : ∃ g cap, bv = .slice (some ⟨g, 0, none⟩) bl.length cap ∧ ∀ i, i < bl.length → w.cell? ⟨g, i, none⟩ = some (natv (bl.getD i 0)) := by
  obtain ⟨g, cap, rfl, _, _⟩ := h.blt.shape hne
  refine ⟨g, cap, rfl, fun i hi => h.blt.cell i _ (by simp [hi])⟩
theorem getD_mem {α : Type} {xs : List α} {i : Nat} {d : α} (h : i < xs.length) : xs.getD i d ∈ xs := by
  rw [List.getD_eq_getElem?_getD, List.getElem?_eq_getElem h]
  exact List.getElem_mem h

set_option maxRecDepth 100000 in
theorem members_walk (h : ArrV w a ev m bz st dv bv ds bl) (hf : Fleet w ds 6 L) (hne : ds ≠ []) (hl : ds.length ≤ 1000) :
    Calls Tryz.prog 119 #[ptr a] w fun r w' => ∃ v, r = .returned v ∧ OwnM 36 DB.val w' w.heap.size v ds ∧ Ext w w' := by
  obtain ⟨g, cap, rfl, hc⟩ := h.drvs hne
  have k1 : w.cell? ⟨a, 7, none⟩ = some (.slice (some ⟨g, 0, none⟩) ds.length cap) := h.cell 7
  have HC := Lib.hid (clone_walk w ⟨g, 0, none⟩ cap ds hne hl (fun i hi => by rw [zero_add]; exact hc i hi))
  have HF := Lib.hid hf
  clear h hf hc
  go_enter Tryz.func119, Tryz.ntmps119
  go_wp2_with fail
  refine HC.out.mono ?_
  rintro e w1 ⟨v, rfl, hv, he⟩
  obtain ⟨g2, cap2, rfl, hg2, _⟩ := hv.shape hne
  have HD := Lib.hid (deletef_walk w1 (some ⟨g2, 0, none⟩) cap2 ds 6 L hl (fun i hi => ⟨_, rfl, by rw [zero_add]; exact hv.cell i _ (by simp [hi])⟩) (fun x hx => (HF.out.ext he).calm x hx))
  have R := Lib.hid (And.intro hv he)
  clear HC hv he hg2
  go_wp2_with fail
  refine HD.out.mono ?_
  rintro e w2 ⟨rfl, rfl⟩
  clear HD
  go_wp2_with fail
  go_ret
  exact ⟨_, rfl, R.out⟩

set_option maxRecDepth 100000 in
theorem missing_walk (h : ArrV w a ev m bz st dv bv ds bl) (hf : Fleet w ds 6 L) (hne : ds ≠ []) (hl : ds.length ≤ 1000) :
    Calls Tryz.prog 83 #[ptr a] w fun r w' => r = .returned (.slice none 0 0) ∧ w' = w := by
  obtain ⟨g, cap, rfl, hc⟩ := h.drvs hne
  have hli : (ds.length : Int) ≤ 1000 := by omega
  have k1 : w.cell? ⟨a, 7, none⟩ = some (.slice (some ⟨g, 0, none⟩) ds.length cap) := h.cell 7
  have HC := Lib.hid hc
  have HF := Lib.hid hf
  clear h hf hc
  go_enter Tryz.func83, Tryz.ntmps83
  go_wp2_with fail
  go_loopw [3, 11] (fun l i wr => IndexRel w ds.length i wr ∧ l = .slice none 0 0) (fun _ i _ => ds.length - (intOf i).toNat)
  case atStart => exact ⟨⟨0, Nat.zero_le _, rfl, rfl⟩, rfl⟩
  case round =>
    obtain ⟨⟨j, hj, rfl, rfl⟩, rfl⟩ := hrel
    by_cases hlt : j < ds.length
    · have hcj := HC.out j hlt
      have hm : ds.getD j DB.zero ∈ ds := getD_mem hlt
      obtain ⟨y, hy⟩ : ∃ y, ds.getD j DB.zero = y := ⟨_, rfl⟩
      rw [hy] at hcj hm
      have HA := Lib.hid (alive_walk (HF.out.calm y hm))
      clear hy hm
      go_wp2_with fail
      refine HA.out.mono ?_
      rintro e w2 ⟨rfl, rfl⟩
      clear HA
      go_wp2_with fail
      go_roundw
      case rel => exact ⟨⟨j + 1, by omega, by go_num, rfl⟩, rfl⟩
      case measure => simp [intOf]; omega
    · obtain rfl : j = ds.length := by omega
      go_wp2_with fail
      go_ret
      exact ⟨rfl, rfl⟩

theorem asize_walk (h : ArrV w a ev m bz st dv bv ds bl) : Calls Tryz.prog 82 #[ptr a] w fun r w' => r = .returned (num 4) ∧ Ext w w' := by
  have k2 : w.cell? ⟨a, 2, none⟩ = some (num 4) := h.cell 2
  have k3 : w.cell? ⟨a, 3, none⟩ = some (num 1) := h.cell 3
  have k4 : w.cell? ⟨a, 4, none⟩ = some (num 2) := h.cell 4
  have HS := fun W => Lib.hid (lsize_walk W)
  clear h
  go_enter Tryz.func82, Tryz.ntmps82
  go_wp2_with fail
  refine (HS _).out.mono ?_
  rintro e w1 ⟨rfl, he⟩
  have R := Lib.hid he
  clear HS he
  go_wp2_with fail
  go_ret
  exact ⟨rfl, R.out⟩
end

end Go.Proofs.YtdilchcnfnfdiaaGreatDoor
namespace Go.Proofs.YtdilchcnfnfdiaaGreatDoor
open Go.RowKit

section
variable {w : World} {a ev m bz st : Nat} {dv bv : Value} {ds : List DB} {bl : List Nat} {L : Nat}
def BldRel (w : World) (k : Nat) (l i : Value) (wr : World) : Prop := ∃ j : Nat, j ≤ k ∧ i = num j ∧ l = .slice none 0 0 ∧ Ext w wr
set_option maxRecDepth 100000 in
set_option maxHeartbeats 1000000 in
theorem building_walk (h : ArrV w a ev m bz st dv bv ds bl) (hf : Fleet w ds 6 L) (hne : ds ≠ []) (hl : ds.length ≤ 1000) (hbl : bl = List.replicate ds.length 2) :
    Calls Tryz.prog 84 #[ptr a] w fun r w' => r = .returned (.slice none 0 0) ∧ Ext w w' := by
  obtain ⟨g, cap, rfl, hc⟩ := h.drvs hne
  obtain ⟨g2, cap2, rfl, hc2⟩ := h.blts (by rw [hbl]; intro e; exact hne (List.eq_nil_of_length_eq_zero (by simpa using congrArg List.length e)))
  have hbll : bl.length = ds.length := by rw [hbl]; simp
  have hc3 : ∀ i, i < ds.length → w.cell? ⟨g2, i, none⟩ = some (num 2) := fun i hi => by
    rw [hc2 i (by omega), hbl]
    simp [hi]
  rw [hbll] at h
  have hli : (ds.length : Int) ≤ 1000 := by omega
  have k1 : w.cell? ⟨a, 7, none⟩ = some (.slice (some ⟨g, 0, none⟩) ds.length cap) := h.cell 7
  have HH := Lib.hid h
  have HC := Lib.hid hc
  have HC3 := Lib.hid hc3
  have HF := Lib.hid hf
  clear h hf hc hc2 hc3 hbl hbll hne
  go_enter Tryz.func84, Tryz.ntmps84
  go_wp2_with fail
  go_loopw [3, 11] (fun l i wr => BldRel w ds.length l i wr) (fun _ i _ => ds.length - (intOf i).toNat)
  case atStart => exact ⟨0, Nat.zero_le _, rfl, rfl, Ext.refl w⟩
  case round =>
    obtain ⟨j, hj, rfl, rfl, he⟩ := hrel
    clear k1
    by_cases hlt : j < ds.length
    · have hcj := he.cell (HC.out j hlt)
      have hcb := he.cell (HC3.out j hlt)
      have h2 := HH.out.ext he
      have k8 : wr.cell? ⟨a, 8, none⟩ = some (.slice (some ⟨g2, 0, none⟩) ds.length cap2) := h2.cell 8
      have k4 : wr.cell? ⟨a, 4, none⟩ = some (num 2) := h2.cell 4
      have hm : ds.getD j DB.zero ∈ ds := getD_mem hlt
      obtain ⟨y, hy⟩ : ∃ y, ds.getD j DB.zero = y := ⟨_, rfl⟩
      rw [hy] at hcj hm
      have HA := fun q => Lib.hid (alive_walk (((HF.out.ext he).ext ((Ext.refl wr).drewN q)).calm y hm))
      have HE := Lib.hid he
      clear hy hm h2 he
      go_wp2_with fail
      go_quiet ((go_at_call 69; refine Calls.quiet_of_same (HA _).out))
      clear HA k8 k4 hcj hcb
      go_wp2_with fail
      go_roundw
      case rel => exact ⟨j + 1, by omega, by go_num, rfl, HE.out.drewN nq⟩
      case measure => simp [intOf]; omega
    · obtain rfl : j = ds.length := by omega
      have R := Lib.hid he
      clear he
      go_wp2_with fail
      go_ret
      exact ⟨rfl, R.out⟩

def MarkRel (w : World) (ds : List DB) (L : Nat) (v i : Value) (wr : World) : Prop :=
  ∃ k : Nat, k ≤ ds.length ∧ i = num k ∧ OwnM 36 DB.val wr w.heap.size v ds ∧ Fleet wr ds 6 (L + k) ∧ Keeps (FF ds) w wr
set_option maxRecDepth 100000 in
set_option maxHeartbeats 1000000 in
theorem mark_walk (h : ArrV w a ev m bz st dv bv ds bl) (hf : Fleet w ds 6 L) (hne : ds ≠ []) (hl : ds.length ≤ 1000) (hL : L + ds.length < 100000) (hev : ev < two64) :
    Calls Tryz.prog 80 #[ptr a] w fun r w' => r = .returned (num 0) ∧ Fleet w' ds 6 (L + ds.length) ∧ Keeps (FF ds) w w' := by
  have hli : (ds.length : Int) ≤ 1000 := by omega
  have HM := Lib.hid (members_walk h hf hne hl)
  have HH := Lib.hid h
  have HF := Lib.hid hf
  have HNE := Lib.hid hne
  clear h hf hne
  go_enter Tryz.func80, Tryz.ntmps80
  go_wp2_with fail
  refine HM.out.mono ?_
  rintro e w1 ⟨v, rfl, hv, he⟩
  obtain ⟨g, cap, rfl, hg, hg2⟩ := hv.shape HNE.out
  have A0 := Lib.hid (show MarkRel w ds L (.slice (some ⟨g, 0, none⟩) ds.length cap) (num 0) w1 from ⟨0, Nat.zero_le _, rfl, hv, HF.out.ext he, he.ff⟩)
  clear HM hv he hg2
  go_wp2_with fail
  go_loopw [8] (fun i wr => MarkRel w ds L (.slice (some ⟨g, 0, none⟩) ds.length cap) i wr) (fun i _ => ds.length - (intOf i).toNat)
  case atStart => exact A0.out
  case round =>
    obtain ⟨k, hk, rfl, hv, hfl, hK⟩ := hrel
    clear A0
    by_cases hlt : k < ds.length
    · have hcj := hv.cell k (ds.getD k DB.zero).val (by simp [hlt])
      have hm : ds.getD k DB.zero ∈ ds := getD_mem hlt
      obtain ⟨x, hx⟩ : ∃ x, ds.getD k DB.zero = x := ⟨_, rfl⟩
      rw [hx] at hcj hm
      have h2 := HH.out.keep hK
      have S0 : wr.drew.cell? ⟨a, 1, none⟩ = some (u64v ev) ∧ wr.drew.cell? ⟨a, 12, none⟩ = some (ptr m) := ⟨h2.cell 1, h2.cell 12⟩
      have HB := Lib.hid (bytes_walk (h2.ext (Ext.refl wr).drew).imap)
      have HS := Lib.hid (fun (W : World) (e : Ext wr.drew W) => show W.cell? ⟨a, 1, none⟩ = some (u64v ev) ∧ W.cell? ⟨a, 12, none⟩ = some (ptr m) from ⟨(h2.ext ((Ext.refl wr).drew.trans e)).cell 1, (h2.ext ((Ext.refl wr).drew.trans e)).cell 12⟩)
      have HS2 := Lib.hid (fun (W : World) (e : Keeps (FF ds) wr W) => show W.cell? ⟨a, 1, none⟩ = some (u64v ev) ∧ W.cell? ⟨a, 12, none⟩ = some (ptr m) from ⟨(h2.keep e).cell 1, (h2.keep e).cell 12⟩)
      have HP := fun W (e : Ext wr W) => Lib.hid (psave_walk ((hfl.ext e).calm x hm) (by omega) (by decide) ev (str8 0) hev rfl)
      have HR := Lib.hid (fun (W W' : World) (e : Ext wr W) (hc : x.Calm W' 6 (L + k + 1)) (K : Keeps x.F W W') => show MarkRel w ds L (.slice (some ⟨g, 0, none⟩) ds.length cap) (num ((k : Int) + 1)) W' from
        ⟨k + 1, by omega, by go_num, (hv.ext e).keep K (fun q hq hb => by have := hfl.lt hm hb; have hq : g = q := by simpa [Value.ownBlock] using hq
                                                                          subst hq
                                                                          have := (HF.out.lt hm hb); omega), (hfl.ext e).op hm hc (by omega) K, (hK.ff_trans e.ff).ff_trans (K.ff hm)⟩)
      have HM2 := Lib.hid hm
      clear hx hm h2 hv hfl hK
      go_wp2_with fail
      go_region_held3 (fun W => W.cell? ⟨a, 1, none⟩ = some (u64v ev) ∧ W.cell? ⟨a, 12, none⟩ = some (ptr m)) (first | assumption) (first
        | (go_at_call 121; refine HB.out.mono ?_; rintro e w2 ⟨rfl, he2⟩; have S2 := HS.out w2 he2; have E2 := Lib.hid ((Ext.refl wr).drew.trans he2); have HP2 := HP w2 E2.out; clear he2)
        | (go_at_call 120; refine HP2.out.mono ?_; rintro e w3 ⟨rfl, hc3, hk3⟩; have R3 := Lib.hid (HR.out w2 w3 E2.out hc3 hk3); have S3 := HS2.out w3 (E2.out.ff.ff_trans (hk3.ff HM2.out)); clear hc3 hk3))
      go_wp2_with fail
      go_roundw
      case rel => exact R3.out
      case measure => simp [intOf]; omega
    · obtain rfl : k = ds.length := by omega
      have R := Lib.hid (And.intro hfl hK)
      clear hv hfl hK
      go_wp2_with fail
      go_ret
      exact ⟨rfl, R.out⟩
end

end Go.Proofs.YtdilchcnfnfdiaaGreatDoor
namespace Go.Proofs.YtdilchcnfnfdiaaGreatDoor
open Go.RowKit

theorem psuper_walk {x : DB} {w : World} {L : Nat} (h : x.Calm w 6 L) (hL : L < 100000) (ev role b : Nat) (hev : ev < two64) (hr : role < 4) (hb : b ≤ 2) :
    Calls Tryz.prog 13 #[x.val, .agg (supC 5 ev role 4 1 2 b)] w fun r w' => r = .returned (num 0) ∧ x.Calm w' 6 (L + 1) ∧ Keeps x.F w w' := by
  obtain ⟨lim, safe, bad, hl, hc⟩ := h
  exact (ssave_walk hc (by decide) (by omega) 5 ev role 4 1 2 b (by decide) (by decide) hev (by decide) (by decide) (by decide) (by decide) (by decide) (by decide) hr hb).mono fun _ _ ⟨h1, h2, h3⟩ => ⟨h1, ⟨_, _, _, by omega, h2⟩, h3⟩
set_option maxRecDepth 100000 in
theorem save1_walk {x : DB} {w : World} {L : Nat} (h : x.Calm w 6 L) (hL : L < 100000) (ev role b o : Nat) (hev : ev < two64) (hr : role < 4) (hb : b ≤ 2) :
    Calls Tryz.prog 123 #[x.val, .agg (supC 5 ev role 4 1 2 b), ptr o] w fun r w' => r = .returned (.tuple #[]) ∧ x.Calm w' 6 (L + 1) ∧ Keeps x.F w w' := by
  have HA := fun W (e : Ext w W) => Lib.hid (alive_walk (h.ext e))
  have HS := fun W (e : Ext w W) => Lib.hid (psuper_walk (h.ext e) hL ev role b hev hr hb)
  have e0 := (Ext.refl w).alloc (.cells #[.int .u64 (5 : Nat), .int .u64 (ev : Int), natv role, natv 4, natv 1, natv 2, .bool false, natv b, num 0, num 0] 41)
  have HA1 := HA _ e0
  have HS1 := HS _ e0
  have E0 := Lib.hid e0
  clear h HA HS e0 hev hr hb hL
  unfold supC
  go_enter Tryz.func123, Tryz.ntmps123
  go_wp2_with fail
  refine HA1.out.mono ?_
  rintro e1 w1 ⟨rfl, rfl⟩
  clear HA1
  go_wp2_with fail
  refine HS1.out.mono ?_
  rintro e2 w2 ⟨rfl, hc, hk⟩
  have R := Lib.hid (And.intro hc ((Keeps.of_below (F := x.F) E0.out).trans hk (fun _ h => .inl h)))
  clear HS1 hc hk
  go_wp2_with fail
  go_end0
  exact ⟨rfl, R.out⟩

section
variable {w : World} {a ev m bz st : Nat} {dv bv : Value} {ds : List DB} {bl : List Nat} {L : Nat}
/-- Ahead of a drive that is told. -/
def SvRel (W0 : World) (a ev m bz st : Nat) (dv bv : Value) (ds : List DB) (bl : List Nat) (L o : Nat) (i : Value) (wr : World) : Prop :=
  ∃ k : Nat, k ≤ ds.length ∧ i = num k ∧ ArrV wr a ev m bz st dv bv ds bl ∧ Fleet wr ds 6 (L + k) ∧ wr.heap[o]? = some (.cells #[.bool false] 4) ∧ Keeps (fun b => b = a ∨ FF ds b) W0 wr
set_option maxRecDepth 100000 in
set_option maxHeartbeats 1000000 in
theorem asave_walk (h : ArrV w a ev m bz st dv bv ds bl) (hf : Fleet w ds 6 L) (hne : ds ≠ []) (hl : ds.length ≤ 4) (hbl : bl = List.replicate ds.length 2) (hL : L + ds.length < 100000) (hev : ev ≤ 1000) :
    Calls Tryz.prog 81 #[ptr a] w fun r w' => r = .returned (num 0) ∧ ArrV w' a (ev + 1) m bz st dv bv ds bl ∧ Fleet w' ds 6 (L + ds.length) ∧ Keeps (fun b => b = a ∨ FF ds b) w w' := by
  obtain ⟨g, cap, rfl, hc⟩ := h.drvs hne
  obtain ⟨g2, cap2, rfl, hc2⟩ := h.blts (by rw [hbl]; intro e; exact hne (List.eq_nil_of_length_eq_zero (by simpa using congrArg List.length e)))
  have hbll : bl.length = ds.length := by rw [hbl]; simp
  rw [hbll] at h
  have HBL := Lib.hid hbl
  have hli : (ds.length : Int) ≤ 4 := by omega
  have hevi : (ev : Int) ≤ 1000 := by omega
  have HEV := Lib.hid (show ev + 1 < two64 from Nat.lt_of_le_of_lt (Nat.succ_le_succ hev) (by decide))
  have k1 : w.cell? ⟨a, 1, none⟩ = some (u64v ev) := h.cell 1
  have f1 : w.frozen? ⟨a, 1, none⟩ = false := free_blk h.blk 1
  have hcast : u64v (ev + 1) = .int .u64 ((ev : Int) + 1) := by simp
  obtain ⟨W1, hW1⟩ : ∃ W1, w.setCell ⟨a, 1, none⟩ (.int .u64 ((ev : Int) + 1)) = W1 := ⟨_, rfl⟩
  have h1 : ArrV W1 a (ev + 1) m bz st (.slice (some ⟨g, 0, none⟩) ds.length cap) (.slice (some ⟨g2, 0, none⟩) ds.length cap2) ds bl := by rw [← hW1, ← hcast]; exact h.event (ev + 1)
  have KA0 : Keeps (fun b => b = a) w W1 := by rw [← hW1]; exact (Keeps.refl (fun b => b = a) w).set (p := ⟨a, 1, none⟩) (.inl rfl) _
  have hsz : W1.heap.size = w.heap.size := by rw [← hW1, size_set]
  clear hcast
  have KA : Keeps (fun b => b = a ∨ FF ds b) w W1 := KA0.mono (fun i hi => .inl (.inl hi))
  have e1 : Ext W1 (W1.alloc (.cells #[.bool false] 4)) := (Ext.refl _).alloc _
  have h2 := h1.ext e1
  have KF : Fleet W1 ds 6 L := ⟨fun x hx => (hf.calm x hx).keep KA0 (fun b hb => (h.out b ⟨x, hx, hb⟩).1), hf.apart⟩
  have A0 := Lib.hid (show SvRel w a (ev + 1) m bz st (.slice (some ⟨g, 0, none⟩) ds.length cap) (.slice (some ⟨g2, 0, none⟩) ds.length cap2) ds bl L w.heap.size (num 0) (W1.alloc (.cells #[.bool false] 4)) from
    ⟨0, Nat.zero_le _, rfl, h2, KF.ext e1, by have := alloc_new W1 (.cells #[.bool false] 4); rw [hsz] at this; exact this, KA.alloc _⟩)
  have k7 : (W1.alloc (.cells #[.bool false] 4)).cell? ⟨a, 7, none⟩ = some (.slice (some ⟨g, 0, none⟩) ds.length cap) := h2.cell 7
  have HLT := Lib.hid (fun b (hb : FF ds b) => show b < w.heap.size by obtain ⟨x, hx, hb⟩ := hb; exact hf.lt hx hb)
  clear h h1 h2 e1 KA KA0 KF hf hc hc2 hbl hbll
  go_enter Tryz.func81, Tryz.ntmps81
  go_wp2_with fail
  clear k1 f1 k7 hW1 hsz
  go_loopw [24] (fun i wr => SvRel w a (ev + 1) m bz st (.slice (some ⟨g, 0, none⟩) ds.length cap) (.slice (some ⟨g2, 0, none⟩) ds.length cap2) ds bl L w.heap.size i wr) (fun i _ => ds.length - (intOf i).toNat)
  case atStart => exact A0.out
  case round =>
    obtain ⟨k, hk, rfl, hv, hfl, ho, hK⟩ := hrel
    clear A0
    by_cases hlt : k < ds.length
    · have hcj : wr.cell? ⟨g, k, none⟩ = some (ds.getD k DB.zero).val := hv.drv.cell k (ds.getD k DB.zero).val (by simp [hlt])
      have hcb : wr.cell? ⟨g2, k, none⟩ = some (num 2) := hv.blt.cell k (num 2) (by rw [HBL.out]; simp [hlt])
      have k8 : wr.cell? ⟨a, 8, none⟩ = some (.slice (some ⟨g2, 0, none⟩) ds.length cap2) := hv.cell 8
      have hm : ds.getD k DB.zero ∈ ds := getD_mem hlt
      obtain ⟨x, hx⟩ : ∃ x, ds.getD k DB.zero = x := ⟨_, rfl⟩
      rw [hx] at hcj hm
      have HS := Lib.hid (super_walk k 2 hv)
      have HP := fun W (e : Ext wr W) => Lib.hid (save1_walk ((hfl.ext e).calm x hm) (by omega) (ev + 1) k 2 w.heap.size HEV.out (by omega) (by decide))
      have HR := Lib.hid (fun (W W' : World) (e : Ext wr W) (hc : x.Calm W' 6 (L + k + 1)) (K : Keeps x.F W W') => show SvRel w a (ev + 1) m bz st (.slice (some ⟨g, 0, none⟩) ds.length cap) (.slice (some ⟨g2, 0, none⟩) ds.length cap2) ds bl L w.heap.size (num ((k : Int) + 1)) W' from
        ⟨k + 1, by omega, by go_num, (hv.ext e).keep (K.ff hm), (hfl.ext e).op hm hc (by omega) K, (K.blk (e.blk ho) (fun hb => by have := HLT.out _ ⟨x, hm, hb⟩; omega)), (hK.trans e.to_keeps (fun _ h => h.elim)).trans K (fun i hi => .inl (.inr ⟨x, hm, hi⟩))⟩)
      clear hx hm hv hfl hK ho
      go_wp2_with fail
      refine HS.out.mono ?_
      rintro e2 w2 ⟨rfl, he2⟩
      have HP2 := HP w2 he2
      have HR2 := Lib.hid (fun W' => HR.out w2 W' he2)
      clear HS HP HR he2 hcj hcb k8
      go_wp2_with fail
      refine HP2.out.mono ?_
      rintro e3 w3 ⟨rfl, hc3, hk3⟩
      have R3 := Lib.hid (HR2.out w3 hc3 hk3)
      clear HP2 HR2 hc3 hk3
      go_wp2_with fail
      go_roundw
      case rel => exact R3.out
      case measure => simp [intOf]; omega
    · obtain rfl : k = ds.length := by omega
      have k9 : wr.cell? ⟨a, 9, none⟩ = some (.slice none 0 0) := hv.cell 9
      have k10 : wr.cell? ⟨a, 10, none⟩ = some (.pointer none) := hv.cell 10
      have ko : wr.cell? ⟨w.heap.size, 0, none⟩ = some (.bool false) := by rw [cell_blk ho]; rfl
      have R := Lib.hid (And.intro hv (And.intro hfl hK))
      clear hv hfl hK ho
      go_wp2_with fail
      go_loopw [48] (fun i wx => IndexRel wr 0 i wx) (fun _ _ => 0)
      case atStart => exact ⟨0, Nat.zero_le _, rfl, rfl⟩
      case round =>
        obtain ⟨j, hj, rfl, rfl⟩ := hrel
        obtain rfl : j = 0 := by omega
        go_wp2_with fail
        go_ret
        rw [show bl.length = ds.length by rw [HBL.out]; simp]
        exact ⟨rfl, R.out⟩
end

end Go.Proofs.YtdilchcnfnfdiaaGreatDoor
