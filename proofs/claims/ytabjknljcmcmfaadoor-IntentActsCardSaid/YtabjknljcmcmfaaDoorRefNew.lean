/- Layer 10: the reference's New; New where the rows are not within bounds. -/
import Derived.Test.YtabjknljcmcmfaaDoorRefMap
namespace Go.Proofs.YtabjknljcmcmfaaDoor
open Go.RowKit

/-- The reference's map in the making. -/
structure RefMk (W : World) (n : Nat) (xs : List Bool) (ys : List Int) (v1 v2 : Value) (wr : World) : Prop where
  blk : wr.heap[W.heap.size]? = some (.cells #[num n, v1, v2] 60)
  o1 : OwnB wr (W.heap.size + 1) v1 xs
  o2 : Own wr (W.heap.size + 1) v2 ys
  ap : ∀ g, v1.ownBlock = some g → v2.ownBlock ≠ some g
  ext : Ext W wr

section
variable {W wr w2 : World} {n : Nat} {xs : List Bool} {ys : List Int} {v1 v2 : Value} (h : RefMk W n xs ys v1 v2 wr)
include h
theorem RefMk.stain {o : Obj} {g cap : Nat} {y : Bool} (h1 : OwnB w2 (W.heap.size + 1) (.slice (some ⟨g, 0, none⟩) (xs.length + 1) cap) (xs ++ [y])) (h2 : Keeps (fun k => v1.ownBlock = some k) (wr.alloc o) w2) (h3 : v1.ownBlock = some g ∨ g = (wr.alloc o).heap.size) :
    RefMk W n (xs ++ [y]) ys (.slice (some ⟨g, 0, none⟩) (xs.length + 1) cap) v2 (w2.setCell ⟨W.heap.size, 1, none⟩ (.slice (some ⟨g, 0, none⟩) (xs.length + 1) cap)) := by
  have b1 := h2.blk (alloc_old o h.blk) (fun e => by have := (h.o1.lt e).1; omega)
  have ks := (Keeps.refl (fun i => i = W.heap.size) w2).set (p := ⟨W.heap.size, 1, none⟩) (.inl rfl) (.slice (some ⟨g, 0, none⟩) (xs.length + 1) cap)
  have oa := h.o2.keep (F := fun _ => False) ((Keeps.refl _ wr).alloc o) (fun _ _ h => h)
  refine ⟨set_blk b1 1 _, h1.keep ks (fun g' hg' e => by have := (h1.lt hg').1; omega), (oa.keep h2 (fun g' hg' e => h.ap g' e hg')).keep ks (fun g' hg' e => by have := (oa.lt hg').1; omega), ?_, ?_⟩
  · intro g' hg' e
    obtain rfl : g = g' := by simpa [Value.ownBlock] using hg'
    rcases h3 with h3 | h3
    · exact h.ap g h3 e
    · have := (h.o2.lt e).2
      rw [size_alloc] at h3
      omega
  · exact (((h.ext.alloc o).keeps h2 (fun i hi => by have := (h.o1.lt hi).1; omega))).set (p := ⟨W.heap.size, 1, none⟩) (Nat.le_refl _) _
theorem RefMk.busy {o : Obj} {g cap : Nat} {y : Int} (h1 : Own w2 (W.heap.size + 1) (.slice (some ⟨g, 0, none⟩) (ys.length + 1) cap) (ys ++ [y])) (h2 : Keeps (fun k => v2.ownBlock = some k) (wr.alloc o) w2) (h3 : v2.ownBlock = some g ∨ g = (wr.alloc o).heap.size) :
    RefMk W n xs (ys ++ [y]) v1 (.slice (some ⟨g, 0, none⟩) (ys.length + 1) cap) (w2.setCell ⟨W.heap.size, 2, none⟩ (.slice (some ⟨g, 0, none⟩) (ys.length + 1) cap)) := by
  have b1 := h2.blk (alloc_old o h.blk) (fun e => by have := (h.o2.lt e).1; omega)
  have ks := (Keeps.refl (fun i => i = W.heap.size) w2).set (p := ⟨W.heap.size, 2, none⟩) (.inl rfl) (.slice (some ⟨g, 0, none⟩) (ys.length + 1) cap)
  have oa := h.o1.keep (F := fun _ => False) ((Keeps.refl _ wr).alloc o) (fun _ _ h => h)
  refine ⟨set_blk b1 2 _, (oa.keep h2 (fun g' hg' e => h.ap g' hg' e)).keep ks (fun g' hg' e => by have := (oa.lt hg').1; omega), h1.keep ks (fun g' hg' e => by have := (h1.lt hg').1; omega), ?_, ?_⟩
  · intro g' hg' e
    obtain rfl : g = g' := by simpa [Value.ownBlock] using e
    rcases h3 with h3 | h3
    · exact h.ap g hg' h3
    · have := (h.o1.lt hg').2
      rw [size_alloc] at h3
      omega
  · exact (((h.ext.alloc o).keeps h2 (fun i hi => by have := (h.o2.lt hi).1; omega))).set (p := ⟨W.heap.size, 2, none⟩) (Nat.le_refl _) _
end
theorem RefMk.kept1 {W wr w2 : World} {n : Nat} {xs : List Bool} {ys : List Int} {v1 v2 : Value} {o : Obj} (h : RefMk W n xs ys v1 v2 wr) (h2 : Keeps (fun k => v1.ownBlock = some k) (wr.alloc o) w2) : w2.heap[W.heap.size]? = some (.cells #[num n, v1, v2] 60) :=
  h2.blk (alloc_old o h.blk) (fun e => by have := (h.o1.lt e).1; omega)
theorem RefMk.kept2 {W wr w2 : World} {n : Nat} {xs : List Bool} {ys : List Int} {v1 v2 : Value} {o : Obj} (h : RefMk W n xs ys v1 v2 wr) (h2 : Keeps (fun k => v2.ownBlock = some k) (wr.alloc o) w2) : w2.heap[W.heap.size]? = some (.cells #[num n, v1, v2] 60) :=
  h2.blk (alloc_old o h.blk) (fun e => by have := (h.o2.lt e).1; omega)
theorem RefMk.next {W wr : World} {n : Nat} {xs : List Bool} {ys : List Int} {v1 v2 : Value} (h : RefMk W n xs ys v1 v2 wr) :
    Own (wr.alloc (.cells #[num 0] 3)) (W.heap.size + 1) v2 ys ∧ (wr.alloc (.cells #[num 0] 3)).heap[wr.heap.size]? = some (.cells #[num 0] 3) ∧ W.heap.size + 1 ≤ (wr.alloc (.cells #[num 0] 3)).heap.size :=
  ⟨h.o2.keep (F := fun _ => False) ((Keeps.refl _ wr).alloc _) (fun _ _ h => h), alloc_new wr _, by rw [size_alloc]; have := block_lt h.blk; omega⟩
theorem RefMk.done {W wr : World} {n : Nat} {v1 v2 : Value} (h : RefMk W n (List.replicate (regs n) false) (List.replicate (regs n) 0) v1 v2 wr) (h1 : 1 ≤ n) (h2 : n ≤ 256) :
    ∃ g1 g2, RefV wr W.heap.size g1 g2 n 0 (List.replicate (regs n) 0) ∧ W.heap.size ≤ g1 ∧ W.heap.size ≤ g2 := by
  have hr : 0 < regs n := by unfold regs; omega
  rcases h.o1.2 with ⟨e, hn⟩ | ⟨g1, cap1, cur1, e, hb1, hg1, hc1, hx1, hs1, ht1⟩
  · simp at hn; omega
  rcases h.o2.2 with ⟨e', hn⟩ | ⟨g2, cap2, cur2, e', hb2, hg2, hc2, hx2, hs2, ht2⟩
  · simp at hn; omega
  have a1 : v1.ownBlock = some g1 := by rw [e]; rfl
  have a2 : v2.ownBlock = some g2 := by rw [e']; rfl
  have hne : g1 ≠ g2 := fun hh => h.ap g1 a1 (by rw [hh]; exact a2)
  have hblk := h.blk
  rw [e, e', List.length_replicate, List.length_replicate] at hblk
  refine ⟨g1, g2, ⟨⟨cap1, cap2, hblk⟩, ⟨_, hg1, fun i hi => ?_⟩, ⟨_, hg2, fun i hi => ?_⟩, by omega, by omega, hne, h1, h2, by simp⟩, by omega, by omega⟩
  · have h3 : (bools (List.replicate (regs n) false))[i]? = some (.bool false) := by simp [bools, hi]
    rw [← ht1, List.getElem?_take] at h3
    split at h3
    · simpa using h3
    · cases h3
  · have h3 : (nums (List.replicate (regs n) 0))[i]? = some (num 0) := by simp [nums, hi]
    rw [← ht2, List.getElem?_take] at h3
    split at h3
    · simpa [hi] using h3
    · cases h3

def RefNewRel (W : World) (n : Nat) (i : Value) (wr : World) : Prop := ∃ (k : Nat) (v1 v2 : Value), k ≤ regs n ∧ i = num k ∧ RefMk W n (List.replicate k false) (List.replicate k 0) v1 v2 wr

set_option maxRecDepth 100000 in
set_option maxHeartbeats 1000000 in
theorem refNew_walk (n : Nat) (w : World) (h1 : 1 ≤ n) (h2 : n ≤ 256) :
    Calls Tryd.prog 20 #[num n] w fun e w' => ∃ g1 g2, e = .returned (ptr w.heap.size) ∧ RefV w' w.heap.size g1 g2 n 0 (List.replicate (regs n) 0) ∧ w.heap.size ≤ g1 ∧ w.heap.size ≤ g2 ∧ Ext w w' := by
  obtain ⟨p, hp⟩ : ∃ p, (n - 1) / 4 = p := ⟨_, rfl⟩
  have hpr : regs n = p + 1 := by unfold regs; omega
  have HR := Lib.hid (fun W : World => by
    have := refRegion_walk (n - 1) W (by omega)
    rw [hp] at this
    exact this)
  have HP := Lib.hid hpr
  have hp64 : p < 64 := by omega
  have hn : (n : Int) - 1 = ((n - 1 : Nat) : Int) := by omega
  have B0 := alloc_new w (.cells #[num n, .slice none 0 0, .slice none 0 0] 60)
  have M0 := Lib.hid (show RefMk w n [] [] (.slice none 0 0) (.slice none 0 0) (w.alloc (.cells #[num n, .slice none 0 0, .slice none 0 0] 60)) from
    ⟨B0, World.ownsRow_nil _ _ _ _, Own.nil _ _, (fun g h => by cases h), (Ext.refl w).alloc _⟩)
  clear hp hpr B0
  go_enter Tryd.func20, Tryd.ntmps20
  go_wp2_with fail
  go_loopw [4] (fun i wr => RefNewRel w n i wr) (fun i _ => regs n - (intOf i).toNat)
  case atStart => exact ⟨0, _, _, Nat.zero_le _, rfl, M0.out⟩
  case round =>
    clear M0
    obtain ⟨k, v1, v2, hk, rfl, hm⟩ := hrel
    obtain ⟨xs, hxs⟩ : ∃ xs, List.replicate k false = xs := ⟨_, rfl⟩
    obtain ⟨ys, hys⟩ : ∃ ys : List Int, List.replicate k 0 = ys := ⟨_, rfl⟩
    have hxl : xs.length ≤ 64 := by rw [← hxs]; simp; have := HP.out; omega
    have hyl : ys.length ≤ 64 := by rw [← hys]; simp; have := HP.out; omega
    rw [hxs, hys] at hm
    have HXS := Lib.hid hxs
    have HYS := Lib.hid hys
    have HM := Lib.hid hm
    clear hxs hys hm
    by_cases hlt : k ≤ p
    · have c1 : wr.cell? ⟨w.heap.size, 1, none⟩ = some v1 := by rw [cell_blk HM.out.blk]; rfl
      have HA := Lib.hid (HM.out.o1.keep (F := fun _ => False) ((Keeps.refl _ wr).alloc (.cells #[.bool false] 4)) (fun _ _ h => h))
      have HN := Lib.hid (alloc_new wr (.cells #[.bool false] 4))
      have hlen : xs.length ≤ 1048576 := by omega
      have hB : w.heap.size + 1 ≤ (wr.alloc (.cells #[.bool false] 4)).heap.size := by rw [size_alloc]; have := block_lt HM.out.blk; omega
      have ST := Lib.hid (fun (g cap : Nat) (w2 : World) h1 h2 h3 => HM.out.stain (w2 := w2) (o := .cells #[.bool false] 4) (g := g) (cap := cap) (y := false) h1 h2 h3)
      have hylen : ys.length ≤ 1048576 := by omega
      go_wp2_with fail
      refine (HR.out wr).mono ?_
      rintro e w1 ⟨rfl, rfl⟩
      go_wp2_with (first | (at_builtin; refine wpList_append_bool rfl _ _ rfl (w.heap.size + 1) v1 xs rfl HA.out w1.heap.size false rfl HN.out hlen hB ?_; intro g cap w2 h1 h2 h3; have RM := Lib.hid (ST.out g cap w2 h1 h2 h3); have bb := HM.out.kept1 h2; have f1 := free_blk bb 1; have c1' := (cell_blk bb 1); have c2' : w2.cell? ⟨w.heap.size, 2, none⟩ = some v2 := cell_blk bb 2; have n2 := RM.out.next; rw [size_set] at n2; have N2 := Lib.hid n2; clear n2 h1 h2 h3 ST HA HN hlen hB c1 HM bb) | (at_builtin; refine wpList_append_num rfl _ _ rfl (w.heap.size + 1) v2 ys rfl N2.out.1 _ 0 rfl N2.out.2.1 hylen N2.out.2.2 ?_; intro g' cap' w4 h1 h2 h3; have RM2 := Lib.hid (RM.out.busy (y := 0) h1 h2 h3); have bb := RM.out.kept2 h2; have f2 := free_blk bb 2; have c2'' := (cell_blk bb 2); clear h1 h2 h3 RM N2 c2' bb))
      go_roundw
      case rel => exact ⟨k + 1, _, _, by have := HP.out; omega, by go_num, by rw [List.replicate_succ', List.replicate_succ', HXS.out, HYS.out]; exact RM2.out⟩
      case measure =>
        have := HP.out
        simp [intOf]
        omega
    · have hk' : k = regs n := by have := HP.out; omega
      have hm := HM.out
      rw [← HXS.out, ← HYS.out, hk'] at hm
      have HD := Lib.hid (hm.done h1 h2)
      have HE := Lib.hid hm.ext
      have hkp : ¬ (k : Int) ≤ (p : Int) := by omega
      clear hm HM HXS HYS hk'
      go_wp2_with fail
      refine (HR.out wr).mono ?_
      rintro e w1 ⟨rfl, rfl⟩
      go_wp2_with fail
      go_ret
      obtain ⟨g1, g2, hr, l1, l2⟩ := HD.out
      exact ⟨g1, g2, rfl, hr, l1, l2, HE.out⟩

theorem new_nil (n : Int) (w : World) (h : n < 1 ∨ 256 < n) : Calls Tryd.prog 7 #[num n] w fun e w' => e = .returned (.pointer none) ∧ w' = w := by
  by_cases h1 : n < 1
  · clear h
    go_enter Tryd.func7, Tryd.ntmps7
    go_wp2_with fail
    go_ret
    exact ⟨rfl, rfl⟩
  · have h2 : 256 < n := by omega
    clear h
    go_enter Tryd.func7, Tryd.ntmps7
    go_wp2_with fail
    go_ret
    exact ⟨rfl, rfl⟩
theorem refNew_nil (n : Int) (w : World) (h : n < 1 ∨ 256 < n) : Calls Tryd.prog 20 #[num n] w fun e w' => e = .returned (.pointer none) ∧ w' = w := by
  by_cases h1 : n < 1
  · clear h
    go_enter Tryd.func20, Tryd.ntmps20
    go_wp2_with fail
    go_ret
    exact ⟨rfl, rfl⟩
  · have h2 : 256 < n := by omega
    clear h
    go_enter Tryd.func20, Tryd.ntmps20
    go_wp2_with fail
    go_ret
    exact ⟨rfl, rfl⟩

end Go.Proofs.YtabjknljcmcmfaaDoor
