/- array: Status. -/
import Derived.Test.YtdilchcnfnfdiaaGreatDoorTCreateA
import Derived.Test.YtdilchcnfnfdiaaGreatDoorTSupA
import Derived.Deep.RegionHeld3
namespace Go.Proofs.YtdilchcnfnfdiaaGreatDoor
open Go.RowKit

section
variable {w : World} {a ev m bz st : Nat} {dv bv : Value} {ds : List DB} {bl : List Nat} {L : Nat}
/-- An empty Status. -/
abbrev statZ : Array Value := #[.int .i64 0, .int .i64 0, .int .i64 0, .int .i64 0, .int .i64 0, .int .i64 0, .int .i64 0, .slice none 0 0, .slice none 0 0, .slice none 0 0, .bool false, .bool false, .bool false, .int .i64 0, .int .i64 0]
abbrev statF : Array Value := #[num 4, num 1, num 2, num 4, num 0, num 0, num 0, .slice none 0 0, .slice none 0 0, .slice none 0 0, .bool false, .bool false, .bool false, num 0, num 0]
theorem setAll {W : World} {b : Nat} {t : TypeId} {cs vs : Array Value} (h : W.heap[b]? = some (.cells cs t)) (hl : vs.size = cs.size) : (W.setCells b 0 vs.toList).heap[b]? = some (.cells vs t) := by
  obtain ⟨cs', h1, h2, h3⟩ := setCells_blk b t vs.toList 0 W cs h (by simp; omega)
  have e : cs' = vs := by
    apply Array.ext_getElem?
    intro k
    rw [h3]
    by_cases hk : k < vs.size
    · rw [if_pos ⟨by omega, by simpa using hk⟩]
      simp
    · rw [if_neg (by simp; omega), Array.getElem?_eq_none (by omega), Array.getElem?_eq_none (by omega)]
  rw [e] at h1
  exact h1
section
variable {P : Program} {ops : Array Oper} {Q : Exit → Act → World → Prop} {md : Region.Mode} {S : World → Prop}
/-- wpAnyH_take, the slot told. -/
theorem wpAnyH_take2 {i d : Nat} {oi : Oper} {v : Value} {fuel : Nat} {listed : Array Bool} {a : Act} {w : World} (hi : ops[i]? = some oi) (hd : oi.dst = some d)
    (hs : Region.noSelect ops = true) (hf : Region.free md ops listed i = true) (hr : (Region.ready md ops listed).contains i = true)
    (hQ : ∀ c a w, Q (.panic c) (a.put oi.dst v) w → Q (.panic c) a w) (hy : YieldsIf P ops S oi v a) (hS : S w)
    (h : wpAnyH P md ops Q S fuel (listed.setIfInBounds i true) { a with tmps := a.tmps.setIfInBounds d v } w) : wpAnyH P md ops Q S (fuel + 1) listed a w := by
  refine wpAnyH_take hi hs hf hr hQ hy hS ?_
  rw [hd]
  exact h
theorem wp_store_mid2 {op : Oper} {a : Act} {w : World} {K : Act → World → Prop} (hd : op.dst = none) (ty : TypeId) (x y : Operand) (ho : op.op = .store ty x y)
    (b o : Nat) (cells : Array Value) (hx : a.eval x = .pointer (some ⟨b, o, none⟩)) (hy : a.eval y = .agg cells)
    (ht : w.there b o cells.size) (hi : (P.info? ty).map (·.size) = some cells.size) (h1 : cells.all (·.oneCell') = true)
    (h : K a (w.setCells b o cells.toList)) : op.wp P a w K Q := by
  refine wp_store_mid ty x y ho b o cells hx hy ht hi h1 ?_
  rw [hd]
  exact h
end
theorem stat_there {W : World} {b : Nat} {t : TypeId} (h : W.heap[b]? = some (.cells statZ t)) : W.there b 0 15 := fun j hj => by
  rw [Nat.zero_add]
  refine ⟨?_, free_blk h j⟩
  rw [cell_blk h]
  simp only [Option.isSome_iff_exists]
  exact ⟨statZ[j]'(by show j < 15; omega), Array.getElem?_eq_getElem _⟩
def StatMid (wb : World) (s3 : Value) (wx : World) : Prop := ∃ b : Nat, s3 = ptr b ∧ wx.heap[b]? = some (.cells statF 88) ∧ Ext wb wx
def StatEnd (w : World) (r : Ending) (w' : World) : Prop := r = .returned (.agg statF) ∧ Ext w w'
set_option maxRecDepth 100000 in
set_option maxHeartbeats 40000000 in
theorem status_walk (h : ArrV w a ev m bz st dv bv ds bl) (hf : Fleet w ds 6 L) (hne : ds ≠ []) (hl : ds.length ≤ 1000) (hbl : bl = List.replicate ds.length 2) :
    Calls Tryz.prog 39 #[ptr a] w (StatEnd w) := by
  obtain ⟨wb, hw⟩ : ∃ wb, w.alloc (.cells #[.int .i64 0, .int .i64 0, .int .i64 0, .int .i64 0, .int .i64 0, .int .i64 0, .int .i64 0, .slice none 0 0, .slice none 0 0, .slice none 0 0, .bool false, .bool false, .bool false, .int .i64 0, .int .i64 0] 88) = wb := ⟨_, rfl⟩
  have eb : Ext w wb := by rw [← hw]; exact (Ext.refl w).alloc _
  have hbb : wb.heap[w.heap.size]? = some (.cells statZ 88) := by rw [← hw]; exact alloc_new w _
  have k14 : wb.cell? ⟨a, 14, none⟩ = some (.bool false) := (h.ext eb).cell 14
  have k2 : wb.cell? ⟨a, 2, none⟩ = some (num 4) := (h.ext eb).cell 2
  have HV := Lib.hid (And.intro h (And.intro eb hbb))
  have HSZ := fun W (e : Ext w W) => Lib.hid (asize_walk (h.ext e))
  have HMS := fun W (e : Ext w W) => Lib.hid (missing_walk (h.ext e) (hf.ext e) hne hl)
  have HBD := fun W (e : Ext w W) => Lib.hid (building_walk (h.ext e) (hf.ext e) hne hl hbl)
  have HDT := fun W (e : Ext w W) => Lib.hid (dirty0_walk (h.ext e).imap)
  clear h hf hne hl hbl eb hbb
  go_enter Tryz.func39, Tryz.ntmps39
  have HS := Lib.hid (fun (W : World) (e : Ext wb W) => show W.cell? ⟨a, 2, none⟩ = some (num 4) ∧ W.cell? ⟨a, 3, none⟩ = some (num 1) ∧ W.cell? ⟨a, 4, none⟩ = some (num 2) ∧ W.cell? ⟨a, 5, none⟩ = some (num 0) ∧ W.cell? ⟨a, 6, none⟩ = some (num 0) ∧ W.cell? ⟨a, 11, none⟩ = some (.pointer none) ∧ W.cell? ⟨a, 12, none⟩ = some (ptr m) ∧ W.cell? ⟨a, 16, none⟩ = some (num 0) ∧ W.cell? ⟨a, 17, none⟩ = some (num 0) ∧ W.cell? ⟨a, 18, none⟩ = some (num 0) from
    have h2 := (HV.out.1.ext HV.out.2.1).ext e
    ⟨h2.cell 2, h2.cell 3, h2.cell 4, h2.cell 5, h2.cell 6, h2.cell 11, h2.cell 12, h2.cell 16, h2.cell 17, h2.cell 18⟩)
  have X := Lib.hid (Ext.refl wb).drew
  have HONE := Lib.hid (show statF.all (·.oneCell') = true by kernel_rfl)
  have HIF := Lib.hid (show (Tryz.prog.info? 88).map (·.size) = some statF.size by kernel_rfl)
  go_wp2_with fail
  clear k14 k2
  go_cut [3] from 11 to 62 (fun s3 wx => StatMid wb s3 wx)
  case first =>
    refine wp_region_noPanic ?_
    refine wp_region_held_drew (S := fun W => W.cell? ⟨a, 2, none⟩ = some (num 4) ∧ W.cell? ⟨a, 3, none⟩ = some (num 1) ∧ W.cell? ⟨a, 4, none⟩ = some (num 2) ∧ W.cell? ⟨a, 5, none⟩ = some (num 0) ∧ W.cell? ⟨a, 6, none⟩ = some (num 0) ∧ W.cell? ⟨a, 11, none⟩ = some (.pointer none) ∧ W.cell? ⟨a, 12, none⟩ = some (ptr m) ∧ W.cell? ⟨a, 16, none⟩ = some (num 0) ∧ W.cell? ⟨a, 17, none⟩ = some (num 0) ∧ W.cell? ⟨a, 18, none⟩ = some (num 0)) (by kernel_rfl) (HS.out _ X.out) (fun hHeld => ?_)
  -- (GEN
    generalize World.drew wb = wd at X hHeld ⊢
    refine wpAnyH_take2 (i := 0) (d := 11) (v := ptr a) rfl rfl (by kernel_rfl) (by kernel_rfl) (by kernel_rfl) (fun _ _ _ h => h) (Or.inl ⟨by rfl, ?_⟩) hHeld ?_
    · intro w9 hS9
      go_simp
    simp only [List.setIfInBounds_toArray, List.set_cons_succ, List.set_cons_zero]
    refine wpAnyH_take2 (i := 1) (d := 12) (v := .pointer (some ⟨a, 0, none⟩)) rfl rfl (by kernel_rfl) (by kernel_rfl) (by kernel_rfl) (fun _ _ _ h => h) (Or.inl ⟨by rfl, ?_⟩) hHeld ?_
    · intro w9 hS9
      go_simp
    simp only [List.setIfInBounds_toArray, List.set_cons_succ, List.set_cons_zero]
    refine wpAnyH_take2 (i := 2) (d := 13) (v := .pointer (some ⟨a, 0, none⟩)) rfl rfl (by kernel_rfl) (by kernel_rfl) (by kernel_rfl) (fun _ _ _ h => h) (Or.inl ⟨by rfl, ?_⟩) hHeld ?_
    · intro w9 hS9
      go_simp
    simp only [List.setIfInBounds_toArray, List.set_cons_succ, List.set_cons_zero]
    refine wpAnyH_take2 (i := 3) (d := 14) (v := .pointer (some ⟨a, 2, none⟩)) rfl rfl (by kernel_rfl) (by kernel_rfl) (by kernel_rfl) (fun _ _ _ h => h) (Or.inl ⟨by rfl, ?_⟩) hHeld ?_
    · intro w9 hS9
      go_simp
    simp only [List.setIfInBounds_toArray, List.set_cons_succ, List.set_cons_zero]
    refine wpAnyH_take2 (i := 4) (d := 15) (v := .agg #[num 4, num 1, num 2]) rfl rfl (by kernel_rfl) (by kernel_rfl) (by kernel_rfl) (fun _ _ _ h => h) (Or.inl ⟨by rfl, ?_⟩) hHeld ?_
    · intro w9 hS9
      go_simp
    simp only [List.setIfInBounds_toArray, List.set_cons_succ, List.set_cons_zero]
    refine wpAnyH_take2 (i := 5) (d := 16) (v := ptr a) rfl rfl (by kernel_rfl) (by kernel_rfl) (by kernel_rfl) (fun _ _ _ h => h) (Or.inl ⟨by rfl, ?_⟩) hHeld ?_
    · intro w9 hS9
      go_simp
    simp only [List.setIfInBounds_toArray, List.set_cons_succ, List.set_cons_zero]
    refine wpAnyH_take2 (i := 7) (d := 18) (v := ptr a) rfl rfl (by kernel_rfl) (by kernel_rfl) (by kernel_rfl) (fun _ _ _ h => h) (Or.inl ⟨by rfl, ?_⟩) hHeld ?_
    · intro w9 hS9
      go_simp
    simp only [List.setIfInBounds_toArray, List.set_cons_succ, List.set_cons_zero]
    refine wpAnyH_take2 (i := 8) (d := 19) (v := .pointer (some ⟨a, 0, none⟩)) rfl rfl (by kernel_rfl) (by kernel_rfl) (by kernel_rfl) (fun _ _ _ h => h) (Or.inl ⟨by rfl, ?_⟩) hHeld ?_
    · intro w9 hS9
      go_simp
    simp only [List.setIfInBounds_toArray, List.set_cons_succ, List.set_cons_zero]
    refine wpAnyH_take2 (i := 9) (d := 20) (v := .pointer (some ⟨a, 0, none⟩)) rfl rfl (by kernel_rfl) (by kernel_rfl) (by kernel_rfl) (fun _ _ _ h => h) (Or.inl ⟨by rfl, ?_⟩) hHeld ?_
    · intro w9 hS9
      go_simp
    simp only [List.setIfInBounds_toArray, List.set_cons_succ, List.set_cons_zero]
    refine wpAnyH_take2 (i := 10) (d := 21) (v := .pointer (some ⟨a, 6, none⟩)) rfl rfl (by kernel_rfl) (by kernel_rfl) (by kernel_rfl) (fun _ _ _ h => h) (Or.inl ⟨by rfl, ?_⟩) hHeld ?_
    · intro w9 hS9
      go_simp
    simp only [List.setIfInBounds_toArray, List.set_cons_succ, List.set_cons_zero]
    refine wpAnyH_take2 (i := 11) (d := 22) (v := num 0) rfl rfl (by kernel_rfl) (by kernel_rfl) (by kernel_rfl) (fun _ _ _ h => h) (Or.inl ⟨by rfl, ?_⟩) hHeld ?_
    · intro w9 hS9
      go_simp
    simp only [List.setIfInBounds_toArray, List.set_cons_succ, List.set_cons_zero]
    refine wpAnyH_take2 (i := 12) (d := 23) (v := ptr a) rfl rfl (by kernel_rfl) (by kernel_rfl) (by kernel_rfl) (fun _ _ _ h => h) (Or.inl ⟨by rfl, ?_⟩) hHeld ?_
    · intro w9 hS9
      go_simp
    simp only [List.setIfInBounds_toArray, List.set_cons_succ, List.set_cons_zero]
    refine wpAnyH_take2 (i := 13) (d := 24) (v := .pointer (some ⟨a, 0, none⟩)) rfl rfl (by kernel_rfl) (by kernel_rfl) (by kernel_rfl) (fun _ _ _ h => h) (Or.inl ⟨by rfl, ?_⟩) hHeld ?_
    · intro w9 hS9
      go_simp
    simp only [List.setIfInBounds_toArray, List.set_cons_succ, List.set_cons_zero]
    refine wpAnyH_take2 (i := 14) (d := 25) (v := .pointer (some ⟨a, 0, none⟩)) rfl rfl (by kernel_rfl) (by kernel_rfl) (by kernel_rfl) (fun _ _ _ h => h) (Or.inl ⟨by rfl, ?_⟩) hHeld ?_
    · intro w9 hS9
      go_simp
    simp only [List.setIfInBounds_toArray, List.set_cons_succ, List.set_cons_zero]
    refine wpAnyH_take2 (i := 15) (d := 26) (v := .pointer (some ⟨a, 5, none⟩)) rfl rfl (by kernel_rfl) (by kernel_rfl) (by kernel_rfl) (fun _ _ _ h => h) (Or.inl ⟨by rfl, ?_⟩) hHeld ?_
    · intro w9 hS9
      go_simp
    simp only [List.setIfInBounds_toArray, List.set_cons_succ, List.set_cons_zero]
    refine wpAnyH_take2 (i := 16) (d := 27) (v := num 0) rfl rfl (by kernel_rfl) (by kernel_rfl) (by kernel_rfl) (fun _ _ _ h => h) (Or.inl ⟨by rfl, ?_⟩) hHeld ?_
    · intro w9 hS9
      go_simp
    simp only [List.setIfInBounds_toArray, List.set_cons_succ, List.set_cons_zero]
    refine wpAnyH_take2 (i := 17) (d := 28) (v := .bool false) rfl rfl (by kernel_rfl) (by kernel_rfl) (by kernel_rfl) (fun _ _ _ h => h) (Or.inl ⟨by rfl, ?_⟩) hHeld ?_
    · intro w9 hS9
      go_simp
    simp only [List.setIfInBounds_toArray, List.set_cons_succ, List.set_cons_zero]
    refine wpAnyH_take2 (i := 18) (d := 29) (v := ptr a) rfl rfl (by kernel_rfl) (by kernel_rfl) (by kernel_rfl) (fun _ _ _ h => h) (Or.inl ⟨by rfl, ?_⟩) hHeld ?_
    · intro w9 hS9
      go_simp
    simp only [List.setIfInBounds_toArray, List.set_cons_succ, List.set_cons_zero]
    refine wpAnyH_take2 (i := 20) (d := 31) (v := ptr a) rfl rfl (by kernel_rfl) (by kernel_rfl) (by kernel_rfl) (fun _ _ _ h => h) (Or.inl ⟨by rfl, ?_⟩) hHeld ?_
    · intro w9 hS9
      go_simp
    simp only [List.setIfInBounds_toArray, List.set_cons_succ, List.set_cons_zero]
    refine wpAnyH_take2 (i := 22) (d := 33) (v := ptr a) rfl rfl (by kernel_rfl) (by kernel_rfl) (by kernel_rfl) (fun _ _ _ h => h) (Or.inl ⟨by rfl, ?_⟩) hHeld ?_
    · intro w9 hS9
      go_simp
    simp only [List.setIfInBounds_toArray, List.set_cons_succ, List.set_cons_zero]
    refine wpAnyH_take2 (i := 23) (d := 34) (v := .pointer (some ⟨a, 0, none⟩)) rfl rfl (by kernel_rfl) (by kernel_rfl) (by kernel_rfl) (fun _ _ _ h => h) (Or.inl ⟨by rfl, ?_⟩) hHeld ?_
    · intro w9 hS9
      go_simp
    simp only [List.setIfInBounds_toArray, List.set_cons_succ, List.set_cons_zero]
    refine wpAnyH_take2 (i := 24) (d := 35) (v := .pointer (some ⟨a, 12, none⟩)) rfl rfl (by kernel_rfl) (by kernel_rfl) (by kernel_rfl) (fun _ _ _ h => h) (Or.inl ⟨by rfl, ?_⟩) hHeld ?_
    · intro w9 hS9
      go_simp
    simp only [List.setIfInBounds_toArray, List.set_cons_succ, List.set_cons_zero]
    refine wpAnyH_take2 (i := 25) (d := 36) (v := ptr m) rfl rfl (by kernel_rfl) (by kernel_rfl) (by kernel_rfl) (fun _ _ _ h => h) (Or.inl ⟨by rfl, ?_⟩) hHeld ?_
    · intro w9 hS9
      go_simp
    simp only [List.setIfInBounds_toArray, List.set_cons_succ, List.set_cons_zero]
    refine wpAnyH_take2 (i := 27) (d := 38) (v := ptr a) rfl rfl (by kernel_rfl) (by kernel_rfl) (by kernel_rfl) (fun _ _ _ h => h) (Or.inl ⟨by rfl, ?_⟩) hHeld ?_
    · intro w9 hS9
      go_simp
    simp only [List.setIfInBounds_toArray, List.set_cons_succ, List.set_cons_zero]
    refine wpAnyH_take2 (i := 28) (d := 39) (v := .pointer (some ⟨a, 0, none⟩)) rfl rfl (by kernel_rfl) (by kernel_rfl) (by kernel_rfl) (fun _ _ _ h => h) (Or.inl ⟨by rfl, ?_⟩) hHeld ?_
    · intro w9 hS9
      go_simp
    simp only [List.setIfInBounds_toArray, List.set_cons_succ, List.set_cons_zero]
    refine wpAnyH_take2 (i := 29) (d := 40) (v := .pointer (some ⟨a, 11, none⟩)) rfl rfl (by kernel_rfl) (by kernel_rfl) (by kernel_rfl) (fun _ _ _ h => h) (Or.inl ⟨by rfl, ?_⟩) hHeld ?_
    · intro w9 hS9
      go_simp
    simp only [List.setIfInBounds_toArray, List.set_cons_succ, List.set_cons_zero]
    refine wpAnyH_take2 (i := 30) (d := 41) (v := .pointer none) rfl rfl (by kernel_rfl) (by kernel_rfl) (by kernel_rfl) (fun _ _ _ h => h) (Or.inl ⟨by rfl, ?_⟩) hHeld ?_
    · intro w9 hS9
      go_simp
    simp only [List.setIfInBounds_toArray, List.set_cons_succ, List.set_cons_zero]
    refine wpAnyH_take2 (i := 31) (d := 42) (v := .bool false) rfl rfl (by kernel_rfl) (by kernel_rfl) (by kernel_rfl) (fun _ _ _ h => h) (Or.inl ⟨by rfl, ?_⟩) hHeld ?_
    · intro w9 hS9
      go_simp
    simp only [List.setIfInBounds_toArray, List.set_cons_succ, List.set_cons_zero]
    refine wpAnyH_take2 (i := 39) (d := 50) (v := ptr a) rfl rfl (by kernel_rfl) (by kernel_rfl) (by kernel_rfl) (fun _ _ _ h => h) (Or.inl ⟨by rfl, ?_⟩) hHeld ?_
    · intro w9 hS9
      go_simp
    simp only [List.setIfInBounds_toArray, List.set_cons_succ, List.set_cons_zero]
    refine wpAnyH_take2 (i := 40) (d := 51) (v := .pointer (some ⟨a, 0, none⟩)) rfl rfl (by kernel_rfl) (by kernel_rfl) (by kernel_rfl) (fun _ _ _ h => h) (Or.inl ⟨by rfl, ?_⟩) hHeld ?_
    · intro w9 hS9
      go_simp
    simp only [List.setIfInBounds_toArray, List.set_cons_succ, List.set_cons_zero]
    refine wpAnyH_take2 (i := 41) (d := 52) (v := .pointer (some ⟨a, 16, none⟩)) rfl rfl (by kernel_rfl) (by kernel_rfl) (by kernel_rfl) (fun _ _ _ h => h) (Or.inl ⟨by rfl, ?_⟩) hHeld ?_
    · intro w9 hS9
      go_simp
    simp only [List.setIfInBounds_toArray, List.set_cons_succ, List.set_cons_zero]
    refine wpAnyH_take2 (i := 42) (d := 53) (v := num 0) rfl rfl (by kernel_rfl) (by kernel_rfl) (by kernel_rfl) (fun _ _ _ h => h) (Or.inl ⟨by rfl, ?_⟩) hHeld ?_
    · intro w9 hS9
      go_simp
    simp only [List.setIfInBounds_toArray, List.set_cons_succ, List.set_cons_zero]
    refine wpAnyH_take2 (i := 43) (d := 54) (v := ptr a) rfl rfl (by kernel_rfl) (by kernel_rfl) (by kernel_rfl) (fun _ _ _ h => h) (Or.inl ⟨by rfl, ?_⟩) hHeld ?_
    · intro w9 hS9
      go_simp
    simp only [List.setIfInBounds_toArray, List.set_cons_succ, List.set_cons_zero]
    refine wpAnyH_take2 (i := 44) (d := 55) (v := .pointer (some ⟨a, 0, none⟩)) rfl rfl (by kernel_rfl) (by kernel_rfl) (by kernel_rfl) (fun _ _ _ h => h) (Or.inl ⟨by rfl, ?_⟩) hHeld ?_
    · intro w9 hS9
      go_simp
    simp only [List.setIfInBounds_toArray, List.set_cons_succ, List.set_cons_zero]
    refine wpAnyH_take2 (i := 45) (d := 56) (v := .pointer (some ⟨a, 17, none⟩)) rfl rfl (by kernel_rfl) (by kernel_rfl) (by kernel_rfl) (fun _ _ _ h => h) (Or.inl ⟨by rfl, ?_⟩) hHeld ?_
    · intro w9 hS9
      go_simp
    simp only [List.setIfInBounds_toArray, List.set_cons_succ, List.set_cons_zero]
    refine wpAnyH_take2 (i := 46) (d := 57) (v := num 0) rfl rfl (by kernel_rfl) (by kernel_rfl) (by kernel_rfl) (fun _ _ _ h => h) (Or.inl ⟨by rfl, ?_⟩) hHeld ?_
    · intro w9 hS9
      go_simp
    simp only [List.setIfInBounds_toArray, List.set_cons_succ, List.set_cons_zero]
    refine wpAnyH_take2 (i := 47) (d := 58) (v := ptr a) rfl rfl (by kernel_rfl) (by kernel_rfl) (by kernel_rfl) (fun _ _ _ h => h) (Or.inl ⟨by rfl, ?_⟩) hHeld ?_
    · intro w9 hS9
      go_simp
    simp only [List.setIfInBounds_toArray, List.set_cons_succ, List.set_cons_zero]
    refine wpAnyH_take2 (i := 48) (d := 59) (v := .pointer (some ⟨a, 0, none⟩)) rfl rfl (by kernel_rfl) (by kernel_rfl) (by kernel_rfl) (fun _ _ _ h => h) (Or.inl ⟨by rfl, ?_⟩) hHeld ?_
    · intro w9 hS9
      go_simp
    simp only [List.setIfInBounds_toArray, List.set_cons_succ, List.set_cons_zero]
    refine wpAnyH_take2 (i := 49) (d := 60) (v := .pointer (some ⟨a, 18, none⟩)) rfl rfl (by kernel_rfl) (by kernel_rfl) (by kernel_rfl) (fun _ _ _ h => h) (Or.inl ⟨by rfl, ?_⟩) hHeld ?_
    · intro w9 hS9
      go_simp
    simp only [List.setIfInBounds_toArray, List.set_cons_succ, List.set_cons_zero]
    refine wpAnyH_take2 (i := 50) (d := 61) (v := num 0) rfl rfl (by kernel_rfl) (by kernel_rfl) (by kernel_rfl) (fun _ _ _ h => h) (Or.inl ⟨by rfl, ?_⟩) hHeld ?_
    · intro w9 hS9
      go_simp
    simp only [List.setIfInBounds_toArray, List.set_cons_succ, List.set_cons_zero]
    refine wpAnyH_ready (rs := [6, 52]) (by kernel_rfl) (by simp) ?_
    refine AllReadyH.cons rfl (fun K9 hK9 => ?_) ?_
    · go_simp
      refine (HSZ _ (HV.out.2.1.trans X.out)).out.mono ?_
      rintro e w3 ⟨rfl, he2⟩
      have X := Lib.hid (X.out.trans he2)
      clear he2
      go_wp2_with fail
      refine hK9.out _ _ ?_ (fun hHeld => ?_)
      · exact HS.out _ X.out
      clear hK9 K9
      try simp only [List.setIfInBounds_toArray, List.set_cons_succ, List.set_cons_zero]
      refine wpAnyH_ready (rs := [19, 52]) (by kernel_rfl) (by simp) ?_
      refine AllReadyH.cons rfl (fun K9 hK9 => ?_) ?_
      · go_simp
        refine (HMS _ (HV.out.2.1.trans X.out)).out.mono ?_
        rintro e w4 ⟨rfl, rfl⟩
        go_wp2_with fail
        refine hK9.out _ _ ?_ (fun hHeld => ?_)
        · exact HS.out _ X.out
        clear hK9 K9
        try simp only [List.setIfInBounds_toArray, List.set_cons_succ, List.set_cons_zero]
        refine wpAnyH_ready (rs := [21, 52]) (by kernel_rfl) (by simp) ?_
        refine AllReadyH.cons rfl (fun K9 hK9 => ?_) ?_
        · go_simp
          refine (HBD _ (HV.out.2.1.trans X.out)).out.mono ?_
          rintro e w5 ⟨rfl, he2⟩
          have X := Lib.hid (X.out.trans he2)
          clear he2
          go_wp2_with fail
          refine hK9.out _ _ ?_ (fun hHeld => ?_)
          · exact HS.out _ X.out
          clear hK9 K9
          try simp only [List.setIfInBounds_toArray, List.set_cons_succ, List.set_cons_zero]
          refine wpAnyH_ready (rs := [26, 52]) (by kernel_rfl) (by simp) ?_
          refine AllReadyH.cons rfl (fun K9 hK9 => ?_) ?_
          · go_simp
            refine (HDT _ (HV.out.2.1.trans X.out)).out.mono ?_
            rintro e w6 ⟨rfl, he2⟩
            have X := Lib.hid (X.out.trans he2)
            clear he2
            go_wp2_with fail
            refine hK9.out _ _ ?_ (fun hHeld => ?_)
            · exact HS.out _ X.out
            clear hK9 K9
            try simp only [List.setIfInBounds_toArray, List.set_cons_succ, List.set_cons_zero]
            refine wpAnyH_take2 (i := 32) (d := 43) (v := .bool false) rfl rfl (by kernel_rfl) (by kernel_rfl) (by kernel_rfl) (fun _ _ _ h => h) (Or.inl ⟨by rfl, ?_⟩) hHeld ?_
            · intro w9 hS9
              go_simp
            simp only [List.setIfInBounds_toArray, List.set_cons_succ, List.set_cons_zero]
            refine wpAnyH_take2 (i := 33) (d := 44) (v := undef) rfl rfl (by kernel_rfl) (by kernel_rfl) (by kernel_rfl) (fun _ _ _ h => h) (Or.inr ⟨by rfl, rfl⟩) hHeld ?_
            simp only [List.setIfInBounds_toArray, List.set_cons_succ, List.set_cons_zero]
            refine wpAnyH_take2 (i := 34) (d := 45) (v := undef) rfl rfl (by kernel_rfl) (by kernel_rfl) (by kernel_rfl) (fun _ _ _ h => h) (Or.inr ⟨by rfl, rfl⟩) hHeld ?_
            simp only [List.setIfInBounds_toArray, List.set_cons_succ, List.set_cons_zero]
            refine wpAnyH_take2 (i := 35) (d := 46) (v := undef) rfl rfl (by kernel_rfl) (by kernel_rfl) (by kernel_rfl) (fun _ _ _ h => h) (Or.inr ⟨by rfl, rfl⟩) hHeld ?_
            simp only [List.setIfInBounds_toArray, List.set_cons_succ, List.set_cons_zero]
            refine wpAnyH_take2 (i := 36) (d := 47) (v := undef) rfl rfl (by kernel_rfl) (by kernel_rfl) (by kernel_rfl) (fun _ _ _ h => h) (Or.inr ⟨by rfl, rfl⟩) hHeld ?_
            simp only [List.setIfInBounds_toArray, List.set_cons_succ, List.set_cons_zero]
            refine wpAnyH_ready (rs := [37, 52]) (by kernel_rfl) (by simp) ?_
            refine AllReadyH.cons rfl (fun K9 hK9 => ?_) ?_
            · go_simp
              refine hK9.out _ _ ?_ (fun hHeld => ?_)
              · exact HS.out _ X.out
              clear hK9 K9
              try simp only [List.setIfInBounds_toArray, List.set_cons_succ, List.set_cons_zero]
              refine wpAnyH_take2 (i := 38) (d := 49) (v := .bool false) rfl rfl (by kernel_rfl) (by kernel_rfl) (by kernel_rfl) (fun _ _ _ h => h) (Or.inl ⟨by rfl, ?_⟩) hHeld ?_
              · intro w9 hS9
                go_simp
              simp only [List.setIfInBounds_toArray, List.set_cons_succ, List.set_cons_zero]
              refine wpAnyH_take2 (i := 51) (d := 62) (v := .agg #[num 4, num 1, num 2, num 4, num 0, num 0, num 0, .slice none 0 0, .slice none 0 0, .slice none 0 0, .bool false, .bool false, .bool false, num 0, num 0]) rfl rfl (by kernel_rfl) (by kernel_rfl) (by kernel_rfl) (fun _ _ _ h => h) (Or.inl ⟨by rfl, ?_⟩) hHeld ?_
              · intro w9 hS9
                go_simp
              simp only [List.setIfInBounds_toArray, List.set_cons_succ, List.set_cons_zero]
              refine wpAnyH_ready (rs := [52]) (by kernel_rfl) (by simp) ?_
              refine AllReadyH.cons rfl (fun K9 hK9 => ?_) ?_
              · go_simp
                refine hK9.out _ _ ?_ (fun hHeld => ?_)
                · exact HS.out _ (X.out.alloc _)
                clear hK9 K9
                try simp only [List.setIfInBounds_toArray, List.set_cons_succ, List.set_cons_zero]
                have HB := Lib.hid (show wb.heap.size ≤ w6.heap.size from X.out.size)
                have B := Lib.hid (alloc_new w6 (.cells statZ 88))
                have X := Lib.hid (X.out.alloc (.cells statZ 88))
                refine wpAnyH_ready (rs := [53]) (by kernel_rfl) (by simp) ?_
                refine AllReadyH.cons rfl (fun K9 hK9 => ?_) ?_
                · rw [if_pos (by rfl)]
                  refine wp_store_mid2 rfl _ _ _ rfl _ _ statF rfl rfl (stat_there B.out) HIF.out HONE.out ?_
                  refine hK9.out _ _ ?_ (fun hHeld => ?_)
                  · exact HS.out _ (Ext.setCells_new _ HB.out 0 _ X.out)
                  clear hK9 K9
                  refine wpAnyH_done (by kernel_rfl) ?_ _
                  refine NoPanic.normal ?_
                  have hbF := setAll B.out (show statF.size = statZ.size from rfl)
                  have XF := Lib.hid (Ext.setCells_new _ HB.out 0 statF.toList X.out)
                  generalize World.setCells _ _ _ _ = Wf at hbF XF ⊢
                  clear hHeld X B HB HIF HONE HS HSZ HMS HBD HDT HV hw
                  go_wp2_with fail
                  go_meet
                  case rel => exact ⟨_, rfl, hbF, XF.out⟩
                exact AllReadyH.nil
              exact AllReadyH.nil
            refine AllReadyH.cons rfl (fun K9 hK9 => ?_) ?_
            · go_simp
              refine hK9.out _ _ ?_ (fun hHeld => ?_)
              · exact HS.out _ (X.out.alloc _)
              clear hK9 K9
              try simp only [List.setIfInBounds_toArray, List.set_cons_succ, List.set_cons_zero]
              have HB := Lib.hid (show wb.heap.size ≤ w6.heap.size from X.out.size)
              have B := Lib.hid (alloc_new w6 (.cells statZ 88))
              have X := Lib.hid (X.out.alloc (.cells statZ 88))
              refine wpAnyH_ready (rs := [37]) (by kernel_rfl) (by simp) ?_
              refine AllReadyH.cons rfl (fun K9 hK9 => ?_) ?_
              · go_simp
                refine hK9.out _ _ ?_ (fun hHeld => ?_)
                · exact HS.out _ X.out
                clear hK9 K9
                try simp only [List.setIfInBounds_toArray, List.set_cons_succ, List.set_cons_zero]
                refine wpAnyH_take2 (i := 38) (d := 49) (v := .bool false) rfl rfl (by kernel_rfl) (by kernel_rfl) (by kernel_rfl) (fun _ _ _ h => h) (Or.inl ⟨by rfl, ?_⟩) hHeld ?_
                · intro w9 hS9
                  go_simp
                simp only [List.setIfInBounds_toArray, List.set_cons_succ, List.set_cons_zero]
                refine wpAnyH_take2 (i := 51) (d := 62) (v := .agg #[num 4, num 1, num 2, num 4, num 0, num 0, num 0, .slice none 0 0, .slice none 0 0, .slice none 0 0, .bool false, .bool false, .bool false, num 0, num 0]) rfl rfl (by kernel_rfl) (by kernel_rfl) (by kernel_rfl) (fun _ _ _ h => h) (Or.inl ⟨by rfl, ?_⟩) hHeld ?_
                · intro w9 hS9
                  go_simp
                simp only [List.setIfInBounds_toArray, List.set_cons_succ, List.set_cons_zero]
                refine wpAnyH_ready (rs := [53]) (by kernel_rfl) (by simp) ?_
                refine AllReadyH.cons rfl (fun K9 hK9 => ?_) ?_
                · rw [if_pos (by rfl)]
                  refine wp_store_mid2 rfl _ _ _ rfl _ _ statF rfl rfl (stat_there B.out) HIF.out HONE.out ?_
                  refine hK9.out _ _ ?_ (fun hHeld => ?_)
                  · exact HS.out _ (Ext.setCells_new _ HB.out 0 _ X.out)
                  clear hK9 K9
                  refine wpAnyH_done (by kernel_rfl) ?_ _
                  refine NoPanic.normal ?_
                  have hbF := setAll B.out (show statF.size = statZ.size from rfl)
                  have XF := Lib.hid (Ext.setCells_new _ HB.out 0 statF.toList X.out)
                  generalize World.setCells _ _ _ _ = Wf at hbF XF ⊢
                  clear hHeld X B HB HIF HONE HS HSZ HMS HBD HDT HV hw
                  go_wp2_with fail
                  go_meet
                  case rel => exact ⟨_, rfl, hbF, XF.out⟩
                exact AllReadyH.nil
              exact AllReadyH.nil
            exact AllReadyH.nil
          refine AllReadyH.cons rfl (fun K9 hK9 => ?_) ?_
          · go_simp
            refine hK9.out _ _ ?_ (fun hHeld => ?_)
            · exact HS.out _ (X.out.alloc _)
            clear hK9 K9
            try simp only [List.setIfInBounds_toArray, List.set_cons_succ, List.set_cons_zero]
            have HB := Lib.hid (show wb.heap.size ≤ w5.heap.size from X.out.size)
            have B := Lib.hid (alloc_new w5 (.cells statZ 88))
            have X := Lib.hid (X.out.alloc (.cells statZ 88))
            refine wpAnyH_ready (rs := [26]) (by kernel_rfl) (by simp) ?_
            refine AllReadyH.cons rfl (fun K9 hK9 => ?_) ?_
            · go_simp
              refine (HDT _ (HV.out.2.1.trans X.out)).out.mono ?_
              rintro e w7 ⟨rfl, he2⟩
              have X := Lib.hid (X.out.trans he2)
              have B := Lib.hid (he2.blk B.out)
              clear he2
              go_wp2_with fail
              refine hK9.out _ _ ?_ (fun hHeld => ?_)
              · exact HS.out _ X.out
              clear hK9 K9
              try simp only [List.setIfInBounds_toArray, List.set_cons_succ, List.set_cons_zero]
              refine wpAnyH_take2 (i := 32) (d := 43) (v := .bool false) rfl rfl (by kernel_rfl) (by kernel_rfl) (by kernel_rfl) (fun _ _ _ h => h) (Or.inl ⟨by rfl, ?_⟩) hHeld ?_
              · intro w9 hS9
                go_simp
              simp only [List.setIfInBounds_toArray, List.set_cons_succ, List.set_cons_zero]
              refine wpAnyH_take2 (i := 33) (d := 44) (v := undef) rfl rfl (by kernel_rfl) (by kernel_rfl) (by kernel_rfl) (fun _ _ _ h => h) (Or.inr ⟨by rfl, rfl⟩) hHeld ?_
              simp only [List.setIfInBounds_toArray, List.set_cons_succ, List.set_cons_zero]
              refine wpAnyH_take2 (i := 34) (d := 45) (v := undef) rfl rfl (by kernel_rfl) (by kernel_rfl) (by kernel_rfl) (fun _ _ _ h => h) (Or.inr ⟨by rfl, rfl⟩) hHeld ?_
              simp only [List.setIfInBounds_toArray, List.set_cons_succ, List.set_cons_zero]
              refine wpAnyH_take2 (i := 35) (d := 46) (v := undef) rfl rfl (by kernel_rfl) (by kernel_rfl) (by kernel_rfl) (fun _ _ _ h => h) (Or.inr ⟨by rfl, rfl⟩) hHeld ?_
              simp only [List.setIfInBounds_toArray, List.set_cons_succ, List.set_cons_zero]
              refine wpAnyH_take2 (i := 36) (d := 47) (v := undef) rfl rfl (by kernel_rfl) (by kernel_rfl) (by kernel_rfl) (fun _ _ _ h => h) (Or.inr ⟨by rfl, rfl⟩) hHeld ?_
              simp only [List.setIfInBounds_toArray, List.set_cons_succ, List.set_cons_zero]
              refine wpAnyH_ready (rs := [37]) (by kernel_rfl) (by simp) ?_
              refine AllReadyH.cons rfl (fun K9 hK9 => ?_) ?_
              · go_simp
                refine hK9.out _ _ ?_ (fun hHeld => ?_)
                · exact HS.out _ X.out
                clear hK9 K9
                try simp only [List.setIfInBounds_toArray, List.set_cons_succ, List.set_cons_zero]
                refine wpAnyH_take2 (i := 38) (d := 49) (v := .bool false) rfl rfl (by kernel_rfl) (by kernel_rfl) (by kernel_rfl) (fun _ _ _ h => h) (Or.inl ⟨by rfl, ?_⟩) hHeld ?_
                · intro w9 hS9
                  go_simp
                simp only [List.setIfInBounds_toArray, List.set_cons_succ, List.set_cons_zero]
                refine wpAnyH_take2 (i := 51) (d := 62) (v := .agg #[num 4, num 1, num 2, num 4, num 0, num 0, num 0, .slice none 0 0, .slice none 0 0, .slice none 0 0, .bool false, .bool false, .bool false, num 0, num 0]) rfl rfl (by kernel_rfl) (by kernel_rfl) (by kernel_rfl) (fun _ _ _ h => h) (Or.inl ⟨by rfl, ?_⟩) hHeld ?_
                · intro w9 hS9
                  go_simp
                simp only [List.setIfInBounds_toArray, List.set_cons_succ, List.set_cons_zero]
                refine wpAnyH_ready (rs := [53]) (by kernel_rfl) (by simp) ?_
                refine AllReadyH.cons rfl (fun K9 hK9 => ?_) ?_
                · rw [if_pos (by rfl)]
                  refine wp_store_mid2 rfl _ _ _ rfl _ _ statF rfl rfl (stat_there B.out) HIF.out HONE.out ?_
                  refine hK9.out _ _ ?_ (fun hHeld => ?_)
                  · exact HS.out _ (Ext.setCells_new _ HB.out 0 _ X.out)
                  clear hK9 K9
                  refine wpAnyH_done (by kernel_rfl) ?_ _
                  refine NoPanic.normal ?_
                  have hbF := setAll B.out (show statF.size = statZ.size from rfl)
                  have XF := Lib.hid (Ext.setCells_new _ HB.out 0 statF.toList X.out)
                  generalize World.setCells _ _ _ _ = Wf at hbF XF ⊢
                  clear hHeld X B HB HIF HONE HS HSZ HMS HBD HDT HV hw
                  go_wp2_with fail
                  go_meet
                  case rel => exact ⟨_, rfl, hbF, XF.out⟩
                exact AllReadyH.nil
              exact AllReadyH.nil
            exact AllReadyH.nil
          exact AllReadyH.nil
        refine AllReadyH.cons rfl (fun K9 hK9 => ?_) ?_
        · go_simp
          refine hK9.out _ _ ?_ (fun hHeld => ?_)
          · exact HS.out _ (X.out.alloc _)
          clear hK9 K9
          try simp only [List.setIfInBounds_toArray, List.set_cons_succ, List.set_cons_zero]
          have HB := Lib.hid (show wb.heap.size ≤ w4.heap.size from X.out.size)
          have B := Lib.hid (alloc_new w4 (.cells statZ 88))
          have X := Lib.hid (X.out.alloc (.cells statZ 88))
          refine wpAnyH_ready (rs := [21]) (by kernel_rfl) (by simp) ?_
          refine AllReadyH.cons rfl (fun K9 hK9 => ?_) ?_
          · go_simp
            refine (HBD _ (HV.out.2.1.trans X.out)).out.mono ?_
            rintro e w8 ⟨rfl, he2⟩
            have X := Lib.hid (X.out.trans he2)
            have B := Lib.hid (he2.blk B.out)
            clear he2
            go_wp2_with fail
            refine hK9.out _ _ ?_ (fun hHeld => ?_)
            · exact HS.out _ X.out
            clear hK9 K9
            try simp only [List.setIfInBounds_toArray, List.set_cons_succ, List.set_cons_zero]
            refine wpAnyH_ready (rs := [26]) (by kernel_rfl) (by simp) ?_
            refine AllReadyH.cons rfl (fun K9 hK9 => ?_) ?_
            · go_simp
              refine (HDT _ (HV.out.2.1.trans X.out)).out.mono ?_
              rintro e w9 ⟨rfl, he2⟩
              have X := Lib.hid (X.out.trans he2)
              have B := Lib.hid (he2.blk B.out)
              clear he2
              go_wp2_with fail
              refine hK9.out _ _ ?_ (fun hHeld => ?_)
              · exact HS.out _ X.out
              clear hK9 K9
              try simp only [List.setIfInBounds_toArray, List.set_cons_succ, List.set_cons_zero]
              refine wpAnyH_take2 (i := 32) (d := 43) (v := .bool false) rfl rfl (by kernel_rfl) (by kernel_rfl) (by kernel_rfl) (fun _ _ _ h => h) (Or.inl ⟨by rfl, ?_⟩) hHeld ?_
              · intro w9 hS9
                go_simp
              simp only [List.setIfInBounds_toArray, List.set_cons_succ, List.set_cons_zero]
              refine wpAnyH_take2 (i := 33) (d := 44) (v := undef) rfl rfl (by kernel_rfl) (by kernel_rfl) (by kernel_rfl) (fun _ _ _ h => h) (Or.inr ⟨by rfl, rfl⟩) hHeld ?_
              simp only [List.setIfInBounds_toArray, List.set_cons_succ, List.set_cons_zero]
              refine wpAnyH_take2 (i := 34) (d := 45) (v := undef) rfl rfl (by kernel_rfl) (by kernel_rfl) (by kernel_rfl) (fun _ _ _ h => h) (Or.inr ⟨by rfl, rfl⟩) hHeld ?_
              simp only [List.setIfInBounds_toArray, List.set_cons_succ, List.set_cons_zero]
              refine wpAnyH_take2 (i := 35) (d := 46) (v := undef) rfl rfl (by kernel_rfl) (by kernel_rfl) (by kernel_rfl) (fun _ _ _ h => h) (Or.inr ⟨by rfl, rfl⟩) hHeld ?_
              simp only [List.setIfInBounds_toArray, List.set_cons_succ, List.set_cons_zero]
              refine wpAnyH_take2 (i := 36) (d := 47) (v := undef) rfl rfl (by kernel_rfl) (by kernel_rfl) (by kernel_rfl) (fun _ _ _ h => h) (Or.inr ⟨by rfl, rfl⟩) hHeld ?_
              simp only [List.setIfInBounds_toArray, List.set_cons_succ, List.set_cons_zero]
              refine wpAnyH_ready (rs := [37]) (by kernel_rfl) (by simp) ?_
              refine AllReadyH.cons rfl (fun K9 hK9 => ?_) ?_
              · go_simp
                refine hK9.out _ _ ?_ (fun hHeld => ?_)
                · exact HS.out _ X.out
                clear hK9 K9
                try simp only [List.setIfInBounds_toArray, List.set_cons_succ, List.set_cons_zero]
                refine wpAnyH_take2 (i := 38) (d := 49) (v := .bool false) rfl rfl (by kernel_rfl) (by kernel_rfl) (by kernel_rfl) (fun _ _ _ h => h) (Or.inl ⟨by rfl, ?_⟩) hHeld ?_
                · intro w9 hS9
                  go_simp
                simp only [List.setIfInBounds_toArray, List.set_cons_succ, List.set_cons_zero]
                refine wpAnyH_take2 (i := 51) (d := 62) (v := .agg #[num 4, num 1, num 2, num 4, num 0, num 0, num 0, .slice none 0 0, .slice none 0 0, .slice none 0 0, .bool false, .bool false, .bool false, num 0, num 0]) rfl rfl (by kernel_rfl) (by kernel_rfl) (by kernel_rfl) (fun _ _ _ h => h) (Or.inl ⟨by rfl, ?_⟩) hHeld ?_
                · intro w9 hS9
                  go_simp
                simp only [List.setIfInBounds_toArray, List.set_cons_succ, List.set_cons_zero]
                refine wpAnyH_ready (rs := [53]) (by kernel_rfl) (by simp) ?_
                refine AllReadyH.cons rfl (fun K9 hK9 => ?_) ?_
                · rw [if_pos (by rfl)]
                  refine wp_store_mid2 rfl _ _ _ rfl _ _ statF rfl rfl (stat_there B.out) HIF.out HONE.out ?_
                  refine hK9.out _ _ ?_ (fun hHeld => ?_)
                  · exact HS.out _ (Ext.setCells_new _ HB.out 0 _ X.out)
                  clear hK9 K9
                  refine wpAnyH_done (by kernel_rfl) ?_ _
                  refine NoPanic.normal ?_
                  have hbF := setAll B.out (show statF.size = statZ.size from rfl)
                  have XF := Lib.hid (Ext.setCells_new _ HB.out 0 statF.toList X.out)
                  generalize World.setCells _ _ _ _ = Wf at hbF XF ⊢
                  clear hHeld X B HB HIF HONE HS HSZ HMS HBD HDT HV hw
                  go_wp2_with fail
                  go_meet
                  case rel => exact ⟨_, rfl, hbF, XF.out⟩
                exact AllReadyH.nil
              exact AllReadyH.nil
            exact AllReadyH.nil
          exact AllReadyH.nil
        exact AllReadyH.nil
      refine AllReadyH.cons rfl (fun K9 hK9 => ?_) ?_
      · go_simp
        refine hK9.out _ _ ?_ (fun hHeld => ?_)
        · exact HS.out _ (X.out.alloc _)
        clear hK9 K9
        try simp only [List.setIfInBounds_toArray, List.set_cons_succ, List.set_cons_zero]
        have HB := Lib.hid (show wb.heap.size ≤ w3.heap.size from X.out.size)
        have B := Lib.hid (alloc_new w3 (.cells statZ 88))
        have X := Lib.hid (X.out.alloc (.cells statZ 88))
        refine wpAnyH_ready (rs := [19]) (by kernel_rfl) (by simp) ?_
        refine AllReadyH.cons rfl (fun K9 hK9 => ?_) ?_
        · go_simp
          refine (HMS _ (HV.out.2.1.trans X.out)).out.mono ?_
          rintro e w10 ⟨rfl, rfl⟩
          go_wp2_with fail
          refine hK9.out _ _ ?_ (fun hHeld => ?_)
          · exact HS.out _ X.out
          clear hK9 K9
          try simp only [List.setIfInBounds_toArray, List.set_cons_succ, List.set_cons_zero]
          refine wpAnyH_ready (rs := [21]) (by kernel_rfl) (by simp) ?_
          refine AllReadyH.cons rfl (fun K9 hK9 => ?_) ?_
          · go_simp
            refine (HBD _ (HV.out.2.1.trans X.out)).out.mono ?_
            rintro e w11 ⟨rfl, he2⟩
            have X := Lib.hid (X.out.trans he2)
            have B := Lib.hid (he2.blk B.out)
            clear he2
            go_wp2_with fail
            refine hK9.out _ _ ?_ (fun hHeld => ?_)
            · exact HS.out _ X.out
            clear hK9 K9
            try simp only [List.setIfInBounds_toArray, List.set_cons_succ, List.set_cons_zero]
            refine wpAnyH_ready (rs := [26]) (by kernel_rfl) (by simp) ?_
            refine AllReadyH.cons rfl (fun K9 hK9 => ?_) ?_
            · go_simp
              refine (HDT _ (HV.out.2.1.trans X.out)).out.mono ?_
              rintro e w12 ⟨rfl, he2⟩
              have X := Lib.hid (X.out.trans he2)
              have B := Lib.hid (he2.blk B.out)
              clear he2
              go_wp2_with fail
              refine hK9.out _ _ ?_ (fun hHeld => ?_)
              · exact HS.out _ X.out
              clear hK9 K9
              try simp only [List.setIfInBounds_toArray, List.set_cons_succ, List.set_cons_zero]
              refine wpAnyH_take2 (i := 32) (d := 43) (v := .bool false) rfl rfl (by kernel_rfl) (by kernel_rfl) (by kernel_rfl) (fun _ _ _ h => h) (Or.inl ⟨by rfl, ?_⟩) hHeld ?_
              · intro w9 hS9
                go_simp
              simp only [List.setIfInBounds_toArray, List.set_cons_succ, List.set_cons_zero]
              refine wpAnyH_take2 (i := 33) (d := 44) (v := undef) rfl rfl (by kernel_rfl) (by kernel_rfl) (by kernel_rfl) (fun _ _ _ h => h) (Or.inr ⟨by rfl, rfl⟩) hHeld ?_
              simp only [List.setIfInBounds_toArray, List.set_cons_succ, List.set_cons_zero]
              refine wpAnyH_take2 (i := 34) (d := 45) (v := undef) rfl rfl (by kernel_rfl) (by kernel_rfl) (by kernel_rfl) (fun _ _ _ h => h) (Or.inr ⟨by rfl, rfl⟩) hHeld ?_
              simp only [List.setIfInBounds_toArray, List.set_cons_succ, List.set_cons_zero]
              refine wpAnyH_take2 (i := 35) (d := 46) (v := undef) rfl rfl (by kernel_rfl) (by kernel_rfl) (by kernel_rfl) (fun _ _ _ h => h) (Or.inr ⟨by rfl, rfl⟩) hHeld ?_
              simp only [List.setIfInBounds_toArray, List.set_cons_succ, List.set_cons_zero]
              refine wpAnyH_take2 (i := 36) (d := 47) (v := undef) rfl rfl (by kernel_rfl) (by kernel_rfl) (by kernel_rfl) (fun _ _ _ h => h) (Or.inr ⟨by rfl, rfl⟩) hHeld ?_
              simp only [List.setIfInBounds_toArray, List.set_cons_succ, List.set_cons_zero]
              refine wpAnyH_ready (rs := [37]) (by kernel_rfl) (by simp) ?_
              refine AllReadyH.cons rfl (fun K9 hK9 => ?_) ?_
              · go_simp
                refine hK9.out _ _ ?_ (fun hHeld => ?_)
                · exact HS.out _ X.out
                clear hK9 K9
                try simp only [List.setIfInBounds_toArray, List.set_cons_succ, List.set_cons_zero]
                refine wpAnyH_take2 (i := 38) (d := 49) (v := .bool false) rfl rfl (by kernel_rfl) (by kernel_rfl) (by kernel_rfl) (fun _ _ _ h => h) (Or.inl ⟨by rfl, ?_⟩) hHeld ?_
                · intro w9 hS9
                  go_simp
                simp only [List.setIfInBounds_toArray, List.set_cons_succ, List.set_cons_zero]
                refine wpAnyH_take2 (i := 51) (d := 62) (v := .agg #[num 4, num 1, num 2, num 4, num 0, num 0, num 0, .slice none 0 0, .slice none 0 0, .slice none 0 0, .bool false, .bool false, .bool false, num 0, num 0]) rfl rfl (by kernel_rfl) (by kernel_rfl) (by kernel_rfl) (fun _ _ _ h => h) (Or.inl ⟨by rfl, ?_⟩) hHeld ?_
                · intro w9 hS9
                  go_simp
                simp only [List.setIfInBounds_toArray, List.set_cons_succ, List.set_cons_zero]
                refine wpAnyH_ready (rs := [53]) (by kernel_rfl) (by simp) ?_
                refine AllReadyH.cons rfl (fun K9 hK9 => ?_) ?_
                · rw [if_pos (by rfl)]
                  refine wp_store_mid2 rfl _ _ _ rfl _ _ statF rfl rfl (stat_there B.out) HIF.out HONE.out ?_
                  refine hK9.out _ _ ?_ (fun hHeld => ?_)
                  · exact HS.out _ (Ext.setCells_new _ HB.out 0 _ X.out)
                  clear hK9 K9
                  refine wpAnyH_done (by kernel_rfl) ?_ _
                  refine NoPanic.normal ?_
                  have hbF := setAll B.out (show statF.size = statZ.size from rfl)
                  have XF := Lib.hid (Ext.setCells_new _ HB.out 0 statF.toList X.out)
                  generalize World.setCells _ _ _ _ = Wf at hbF XF ⊢
                  clear hHeld X B HB HIF HONE HS HSZ HMS HBD HDT HV hw
                  go_wp2_with fail
                  go_meet
                  case rel => exact ⟨_, rfl, hbF, XF.out⟩
                exact AllReadyH.nil
              exact AllReadyH.nil
            exact AllReadyH.nil
          exact AllReadyH.nil
        exact AllReadyH.nil
      exact AllReadyH.nil
    refine AllReadyH.cons rfl (fun K9 hK9 => ?_) ?_
    · go_simp
      refine hK9.out _ _ ?_ (fun hHeld => ?_)
      · exact HS.out _ (X.out.alloc _)
      clear hK9 K9
      try simp only [List.setIfInBounds_toArray, List.set_cons_succ, List.set_cons_zero]
      have HB := Lib.hid (show wb.heap.size ≤ wd.heap.size from X.out.size)
      have B := Lib.hid (alloc_new wd (.cells statZ 88))
      have X := Lib.hid (X.out.alloc (.cells statZ 88))
      refine wpAnyH_ready (rs := [6]) (by kernel_rfl) (by simp) ?_
      refine AllReadyH.cons rfl (fun K9 hK9 => ?_) ?_
      · go_simp
        refine (HSZ _ (HV.out.2.1.trans X.out)).out.mono ?_
        rintro e w13 ⟨rfl, he2⟩
        have X := Lib.hid (X.out.trans he2)
        have B := Lib.hid (he2.blk B.out)
        clear he2
        go_wp2_with fail
        refine hK9.out _ _ ?_ (fun hHeld => ?_)
        · exact HS.out _ X.out
        clear hK9 K9
        try simp only [List.setIfInBounds_toArray, List.set_cons_succ, List.set_cons_zero]
        refine wpAnyH_ready (rs := [19]) (by kernel_rfl) (by simp) ?_
        refine AllReadyH.cons rfl (fun K9 hK9 => ?_) ?_
        · go_simp
          refine (HMS _ (HV.out.2.1.trans X.out)).out.mono ?_
          rintro e w14 ⟨rfl, rfl⟩
          go_wp2_with fail
          refine hK9.out _ _ ?_ (fun hHeld => ?_)
          · exact HS.out _ X.out
          clear hK9 K9
          try simp only [List.setIfInBounds_toArray, List.set_cons_succ, List.set_cons_zero]
          refine wpAnyH_ready (rs := [21]) (by kernel_rfl) (by simp) ?_
          refine AllReadyH.cons rfl (fun K9 hK9 => ?_) ?_
          · go_simp
            refine (HBD _ (HV.out.2.1.trans X.out)).out.mono ?_
            rintro e w15 ⟨rfl, he2⟩
            have X := Lib.hid (X.out.trans he2)
            have B := Lib.hid (he2.blk B.out)
            clear he2
            go_wp2_with fail
            refine hK9.out _ _ ?_ (fun hHeld => ?_)
            · exact HS.out _ X.out
            clear hK9 K9
            try simp only [List.setIfInBounds_toArray, List.set_cons_succ, List.set_cons_zero]
            refine wpAnyH_ready (rs := [26]) (by kernel_rfl) (by simp) ?_
            refine AllReadyH.cons rfl (fun K9 hK9 => ?_) ?_
            · go_simp
              refine (HDT _ (HV.out.2.1.trans X.out)).out.mono ?_
              rintro e w16 ⟨rfl, he2⟩
              have X := Lib.hid (X.out.trans he2)
              have B := Lib.hid (he2.blk B.out)
              clear he2
              go_wp2_with fail
              refine hK9.out _ _ ?_ (fun hHeld => ?_)
              · exact HS.out _ X.out
              clear hK9 K9
              try simp only [List.setIfInBounds_toArray, List.set_cons_succ, List.set_cons_zero]
              refine wpAnyH_take2 (i := 32) (d := 43) (v := .bool false) rfl rfl (by kernel_rfl) (by kernel_rfl) (by kernel_rfl) (fun _ _ _ h => h) (Or.inl ⟨by rfl, ?_⟩) hHeld ?_
              · intro w9 hS9
                go_simp
              simp only [List.setIfInBounds_toArray, List.set_cons_succ, List.set_cons_zero]
              refine wpAnyH_take2 (i := 33) (d := 44) (v := undef) rfl rfl (by kernel_rfl) (by kernel_rfl) (by kernel_rfl) (fun _ _ _ h => h) (Or.inr ⟨by rfl, rfl⟩) hHeld ?_
              simp only [List.setIfInBounds_toArray, List.set_cons_succ, List.set_cons_zero]
              refine wpAnyH_take2 (i := 34) (d := 45) (v := undef) rfl rfl (by kernel_rfl) (by kernel_rfl) (by kernel_rfl) (fun _ _ _ h => h) (Or.inr ⟨by rfl, rfl⟩) hHeld ?_
              simp only [List.setIfInBounds_toArray, List.set_cons_succ, List.set_cons_zero]
              refine wpAnyH_take2 (i := 35) (d := 46) (v := undef) rfl rfl (by kernel_rfl) (by kernel_rfl) (by kernel_rfl) (fun _ _ _ h => h) (Or.inr ⟨by rfl, rfl⟩) hHeld ?_
              simp only [List.setIfInBounds_toArray, List.set_cons_succ, List.set_cons_zero]
              refine wpAnyH_take2 (i := 36) (d := 47) (v := undef) rfl rfl (by kernel_rfl) (by kernel_rfl) (by kernel_rfl) (fun _ _ _ h => h) (Or.inr ⟨by rfl, rfl⟩) hHeld ?_
              simp only [List.setIfInBounds_toArray, List.set_cons_succ, List.set_cons_zero]
              refine wpAnyH_ready (rs := [37]) (by kernel_rfl) (by simp) ?_
              refine AllReadyH.cons rfl (fun K9 hK9 => ?_) ?_
              · go_simp
                refine hK9.out _ _ ?_ (fun hHeld => ?_)
                · exact HS.out _ X.out
                clear hK9 K9
                try simp only [List.setIfInBounds_toArray, List.set_cons_succ, List.set_cons_zero]
                refine wpAnyH_take2 (i := 38) (d := 49) (v := .bool false) rfl rfl (by kernel_rfl) (by kernel_rfl) (by kernel_rfl) (fun _ _ _ h => h) (Or.inl ⟨by rfl, ?_⟩) hHeld ?_
                · intro w9 hS9
                  go_simp
                simp only [List.setIfInBounds_toArray, List.set_cons_succ, List.set_cons_zero]
                refine wpAnyH_take2 (i := 51) (d := 62) (v := .agg #[num 4, num 1, num 2, num 4, num 0, num 0, num 0, .slice none 0 0, .slice none 0 0, .slice none 0 0, .bool false, .bool false, .bool false, num 0, num 0]) rfl rfl (by kernel_rfl) (by kernel_rfl) (by kernel_rfl) (fun _ _ _ h => h) (Or.inl ⟨by rfl, ?_⟩) hHeld ?_
                · intro w9 hS9
                  go_simp
                simp only [List.setIfInBounds_toArray, List.set_cons_succ, List.set_cons_zero]
                refine wpAnyH_ready (rs := [53]) (by kernel_rfl) (by simp) ?_
                refine AllReadyH.cons rfl (fun K9 hK9 => ?_) ?_
                · rw [if_pos (by rfl)]
                  refine wp_store_mid2 rfl _ _ _ rfl _ _ statF rfl rfl (stat_there B.out) HIF.out HONE.out ?_
                  refine hK9.out _ _ ?_ (fun hHeld => ?_)
                  · exact HS.out _ (Ext.setCells_new _ HB.out 0 _ X.out)
                  clear hK9 K9
                  refine wpAnyH_done (by kernel_rfl) ?_ _
                  refine NoPanic.normal ?_
                  have hbF := setAll B.out (show statF.size = statZ.size from rfl)
                  have XF := Lib.hid (Ext.setCells_new _ HB.out 0 statF.toList X.out)
                  generalize World.setCells _ _ _ _ = Wf at hbF XF ⊢
                  clear hHeld X B HB HIF HONE HS HSZ HMS HBD HDT HV hw
                  go_wp2_with fail
                  go_meet
                  case rel => exact ⟨_, rfl, hbF, XF.out⟩
                exact AllReadyH.nil
              exact AllReadyH.nil
            exact AllReadyH.nil
          exact AllReadyH.nil
        exact AllReadyH.nil
      exact AllReadyH.nil
    exact AllReadyH.nil
  -- GEN)
  case rest =>
    obtain ⟨b, rfl, hbF, XF⟩ := hcut
    clear X HS HSZ HMS HBD HDT
    have k9 : World.cell? _ ⟨a, 9, none⟩ = some (.slice none 0 0) := ((HV.out.1.ext HV.out.2.1).ext XF).cell 9
    have HRF := Lib.hid (And.intro (XF.blk HV.out.2.2) (And.intro hbF (HV.out.2.1.trans XF)))
    clear XF hbF HV
    go_wp2_with fail
    clear hw
    go_loopw [68] (fun i wx => IndexRel wc 0 i wx) (fun _ _ => 0)
    case atStart => exact ⟨0, Nat.zero_le _, rfl, rfl⟩
    case round =>
      obtain ⟨j, hj, rfl, rfl⟩ := hrel
      obtain rfl : j = 0 := by omega
      clear k9 hj
      have hBc := fun i => cell_blk HRF.out.2.1 i
      go_wp2_with (refine wpList_store_mid rfl 88 (.tmp 2) (.tmp 79) rfl w.heap.size 0 statF rfl rfl (stat_there HRF.out.1) HIF.out HONE.out ?_)
      have hr := setAll HRF.out.1 (show statF.size = statZ.size from rfl)
      have hRc := fun i => cell_blk hr i
      have XE := Ext.setCells_new w.heap.size (Nat.le_refl _) 0 statF.toList HRF.out.2.2
      refine bodyPost_ret (v := .agg statF) (by simp [results, Tryz.results39, go_sem, hRc]) rfl ⟨rfl, XE⟩
end

end Go.Proofs.YtdilchcnfnfdiaaGreatDoor
