/- Layer 10: one act at both maps: does; same. -/
import Derived.Test.YtabjknljcmcmfaaDoorRefBytes
import Derived.Test.YtabjknljcmcmfaaDoorRefNew
import Derived.Deep.RegionHeld3
namespace Go.Proofs.YtabjknljcmcmfaaDoor
open Go.RowKit

/-! ### Out of range, whatever the number -/
section
variable {w : World} {m bz rows stain : Nat} {busy : List Int} (h : MapV w m bz rows stain busy)
include h
theorem at_outI (n : Int) (f : Value) (hr : ¬ (0 ≤ n ∧ n < (rows : Int))) : Calls Tryd.prog 24 #[ptr m, num n, f] w fun e w' => e = .returned (num 70) ∧ w' = w := by
  have c0 : w.cell? ⟨m, 0, none⟩ = some (num rows) := by rw [cell_blk h.blk]; rfl
  clear h
  by_cases h0 : n < 0
  · clear hr
    go_enter Tryd.func24, Tryd.ntmps24
    go_wp2
    exact bodyPost_ret (v := num 70) (by simp [results, Tryd.results24, go_sem]) rfl ⟨rfl, rfl⟩
  · have h1 : (rows : Int) ≤ n := by omega
    clear hr
    go_enter Tryd.func24, Tryd.ntmps24
    go_wp2
    exact bodyPost_ret (v := num 70) (by simp [results, Tryd.results24, go_sem]) rfl ⟨rfl, rfl⟩
set_option maxRecDepth 100000 in
theorem start_outI (n : Int) (hr : ¬ (0 ≤ n ∧ n < (rows : Int))) :
    Calls Tryd.prog 11 #[ptr m, num n] w fun e w' => e = .returned (.tuple #[.bool false, num 70]) ∧ Ext w w' := by
  have e2 := ((Ext.refl w).alloc (.cells #[ptr m] 22)).alloc (.cells #[.bool false] 4)
  have b2 := alloc_new (w.alloc (.cells #[ptr m] 22)) (.cells #[.bool false] 4)
  rw [size_alloc] at b2
  have HA := Lib.hid (at_outI (h.ext e2) n (.func (.func 25) #[] #[ptr w.heap.size, ptr (w.heap.size + 1)]) hr)
  have E3 := Lib.hid e2
  have D := Lib.hid (show ((w.alloc (.cells #[ptr m] 22)).alloc (.cells #[.bool false] 4)).cell? ⟨w.heap.size + 1, 0, none⟩ = some (.bool false) by rw [cell_blk b2]; rfl)
  clear e2 b2 h hr
  go_enter Tryd.func11, Tryd.ntmps11
  go_wp2_with fail
  refine HA.out.mono ?_
  rintro e w3 ⟨rfl, rfl⟩
  clear HA
  go_wp2
  have d := D.out
  exact bodyPost_ret (v := .tuple #[.bool false, num 70]) (by simp [results, Tryd.results11, go_sem, d]) rfl ⟨rfl, E3.out⟩
theorem done_outI (n : Int) (hr : ¬ (0 ≤ n ∧ n < (rows : Int))) : Calls Tryd.prog 15 #[ptr m, num n] w fun e w' => e = .returned (num 70) ∧ Ext w w' := by
  have e1 := (Ext.refl w).alloc (.cells #[ptr m] 22)
  have HI := Lib.hid (at_outI (h.ext e1) n (.func (.func 30) #[] #[ptr w.heap.size]) hr)
  have E1 := Lib.hid e1
  clear h e1 hr
  go_enter Tryd.func15, Tryd.ntmps15
  go_wp2_with fail
  refine HI.out.mono ?_
  rintro e w' ⟨rfl, rfl⟩
  clear HI
  go_wp2
  go_ret
  exact ⟨rfl, E1.out⟩
set_option maxRecDepth 100000 in
theorem stale_any (n : Int) : Calls Tryd.prog 12 #[ptr m, num n] w fun e w' => e = .returned (.bool (staleB rows stain n)) ∧ Ext w w' := by
  by_cases hr : 0 ≤ n ∧ n < (rows : Int)
  · obtain ⟨row, rfl⟩ : ∃ row : Nat, n = (row : Int) := ⟨n.toNat, by omega⟩
    have := stale_walk h row (by omega)
    rw [staleB, if_pos hr, Int.toNat_natCast]
    exact this
  · rw [staleB, if_neg hr]
    have e2 := ((Ext.refl w).alloc (.cells #[ptr m] 22)).alloc (.cells #[.bool false] 4)
    have b2 := alloc_new (w.alloc (.cells #[ptr m] 22)) (.cells #[.bool false] 4)
    rw [size_alloc] at b2
    have HA := Lib.hid (at_outI (h.ext e2) n (.func (.func 26) #[] #[ptr w.heap.size, ptr (w.heap.size + 1)]) hr)
    have E3 := Lib.hid e2
    have D := Lib.hid (show ((w.alloc (.cells #[ptr m] 22)).alloc (.cells #[.bool false] 4)).cell? ⟨w.heap.size + 1, 0, none⟩ = some (.bool false) by rw [cell_blk b2]; rfl)
    clear e2 b2 h hr
    go_enter Tryd.func12, Tryd.ntmps12
    go_wp2_with fail
    refine HA.out.mono ?_
    rintro e w3 ⟨rfl, rfl⟩
    have d := D.out
    have R := Lib.hid E3.out
    clear HA D E3
    generalize ((w.alloc (.cells #[ptr m] 22)).alloc (.cells #[.bool false] 4)) = w4 at d R ⊢
    go_wp2
    go_ret
    exact ⟨rfl, R.out⟩
end

/-! ### Both maps hold the same -/
structure Both (W0 : World) (m bz r g1 g2 rows x : Nat) (busy : List Int) (lim : Nat) (w : World) : Prop where
  a : MapV w m bz rows x busy
  b : RefV w r g1 g2 rows x busy
  x : x < 2 ^ regs rows
  nn : ∀ i, 0 ≤ busy.getD i 0 ∧ busy.getD i 0 ≤ (lim : Int)
  ext : Ext W0 w
structure Away (W0 : World) (m bz r g1 g2 : Nat) : Prop where
  m0 : W0.heap.size ≤ m
  bz0 : W0.heap.size ≤ bz
  r0 : W0.heap.size ≤ r
  g10 : W0.heap.size ≤ g1
  g20 : W0.heap.size ≤ g2
  mr : m ≠ r
  mg1 : m ≠ g1
  mg2 : m ≠ g2
  br : bz ≠ r
  bg1 : bz ≠ g1
  bg2 : bz ≠ g2

section
variable {W0 w : World} {m bz r g1 g2 rows x lim : Nat} {busy : List Int}
theorem Both.later (h : Both W0 m bz r g1 g2 rows x busy lim w) {w' : World} (e : Ext w w') : Both W0 m bz r g1 g2 rows x busy lim w' := ⟨h.a.ext e, h.b.ext e, h.x, h.nn, h.ext.trans e⟩
theorem Both.lift (h : Both W0 m bz r g1 g2 rows x busy lim w) {l : Nat} (hl : lim ≤ l) : Both W0 m bz r g1 g2 rows x busy l w := ⟨h.a, h.b, h.x, fun i => ⟨(h.nn i).1, by have := (h.nn i).2; omega⟩, h.ext⟩
/-- Step by step: first the map, then the reference. -/
structure HalfWay (W0 : World) (m bz r g1 g2 rows x : Nat) (busy : List Int) (x' : Nat) (busy' : List Int) (w : World) : Prop where
  a : MapV w m bz rows x' busy'
  b : RefV w r g1 g2 rows x busy
  ext : Ext W0 w
theorem HalfWay.ext' {x' : Nat} {busy' : List Int} (h : HalfWay W0 m bz r g1 g2 rows x busy x' busy' w) {w' : World} (e : Ext w w') : HalfWay W0 m bz r g1 g2 rows x busy x' busy' w' := ⟨h.a.ext e, h.b.ext e, h.ext.trans e⟩
theorem HalfWay.of_map {x' : Nat} {busy' : List Int} {w' : World} (h : Both W0 m bz r g1 g2 rows x busy lim w) (d : Away W0 m bz r g1 g2) (hm : MapV w' m bz rows x' busy') (k : Keeps (mapF m bz) w w') : HalfWay W0 m bz r g1 g2 rows x busy x' busy' w' :=
  ⟨hm, h.b.keep k (fun e => e.elim (fun e => d.mr e.symm) (fun e => d.br e.symm)) (fun e => e.elim (fun e => d.mg1 e.symm) (fun e => d.bg1 e.symm)) (fun e => e.elim (fun e => d.mg2 e.symm) (fun e => d.bg2 e.symm)),
   h.ext.keeps k (fun i e => by rcases e with rfl | rfl <;> first | exact d.m0 | exact d.bz0)⟩
theorem Both.of_half {x' : Nat} {busy' : List Int} {w' : World} (h : HalfWay W0 m bz r g1 g2 rows x busy x' busy' w) (d : Away W0 m bz r g1 g2) (hr : RefV w' r g1 g2 rows x' busy') (k : Keeps (refF r g1 g2) w w') (hx : x' < 2 ^ regs rows) {l : Nat} (hb : ∀ i, 0 ≤ busy'.getD i 0 ∧ busy'.getD i 0 ≤ (l : Int)) : Both W0 m bz r g1 g2 rows x' busy' l w' :=
  ⟨h.a.keep k (fun e => by rcases e with e | e | e <;> first | exact d.mr e | exact d.mg1 e | exact d.mg2 e) (fun e => by rcases e with e | e | e <;> first | exact d.br e | exact d.bg1 e | exact d.bg2 e), hr, hx, hb, h.ext.keeps k (fun i e => by rcases e with rfl | rfl | rfl <;> first | exact d.r0 | exact d.g10 | exact d.g20)⟩

end
def IsNum (v : Value) : Prop := ∃ k : Int, v = num k
def IsBool (v : Value) : Prop := ∃ b : Bool, v = .bool b
def IsPair (v : Value) : Prop := ∃ (b : Bool) (k : Int), v = .tuple #[.bool b, num k]
/-- What an act answers at either map, with what both hold behind it. -/
def ActAt (sh : Value → Prop) (W0 : World) (m bz r g1 g2 rows lim : Nat) (f1 f2 : FuncId) (arg : Value) (w : World) : Prop :=
  ∃ v : Value, ∃ S : World → Prop, sh v ∧ Calls Tryd.prog f1 #[ptr m, arg] w (fun e w' => e = .returned v ∧ S w' ∧ Keeps (mapF m bz) w w') ∧
    ∀ w', S w' → Calls Tryd.prog f2 #[ptr r, arg] w' fun e w'' => e = .returned v ∧ Keeps (refF r g1 g2) w' w'' ∧ ∃ x' busy', Both W0 m bz r g1 g2 rows x' busy' lim w''

section
variable {W0 w : World} {m bz r g1 g2 rows x lim : Nat} {busy : List Int} (h : Both W0 m bz r g1 g2 rows x busy lim w)
include h
/-- Out of range: nothing turns. -/
theorem act_same {sh : Value → Prop} {f1 f2 : FuncId} {arg v : Value} (hv : sh v) (h1 : Calls Tryd.prog f1 #[ptr m, arg] w fun e w' => e = .returned v ∧ Ext w w') (h2 : ∀ w', RefV w' r g1 g2 rows x busy → Calls Tryd.prog f2 #[ptr r, arg] w' fun e w'' => e = .returned v ∧ ∃ q, w'' = w'.drewN q) :
    ActAt sh W0 m bz r g1 g2 rows (lim + 1) f1 f2 arg w := by
  refine ⟨v, fun w' => Both W0 m bz r g1 g2 rows x busy lim w', hv, h1.mono ?_, fun w' hs => (h2 w' hs.b).mono ?_⟩
  · rintro e w' ⟨rfl, e1⟩
    exact ⟨rfl, h.later e1, e1.to_keeps.mono (fun _ h => h.elim)⟩
  · rintro e w'' ⟨rfl, q, rfl⟩
    exact ⟨rfl, (Keeps.refl _ _).drewN q, x, busy, (hs.later ((Ext.refl _).drewN q)).lift (by omega)⟩
theorem act_stale (n : Int) : ActAt IsBool W0 m bz r g1 g2 rows (lim + 1) 12 38 (num n) w :=
  act_same h ⟨_, rfl⟩ (stale_any h.a n) (fun _ hs => refStale_walk hs n)
variable (d : Away W0 m bz r g1 g2)
include d
theorem act_turn {sh : Value → Prop} {f1 f2 : FuncId} {arg v : Value} (hv : sh v) {x' : Nat} {busy' : List Int} (h1 : Calls Tryd.prog f1 #[ptr m, arg] w fun e w' => e = .returned v ∧ MapV w' m bz rows x' busy' ∧ Keeps (mapF m bz) w w')
    (h2 : ∀ w', RefV w' r g1 g2 rows x busy → Calls Tryd.prog f2 #[ptr r, arg] w' fun e w'' => e = .returned v ∧ RefV w'' r g1 g2 rows x' busy' ∧ Keeps (refF r g1 g2) w' w'') (hx : x' < 2 ^ regs rows) (hb : ∀ i, 0 ≤ busy'.getD i 0 ∧ busy'.getD i 0 ≤ ((lim + 1 : Nat) : Int)) :
    ActAt sh W0 m bz r g1 g2 rows (lim + 1) f1 f2 arg w := by
  refine ⟨v, fun w' => HalfWay W0 m bz r g1 g2 rows x busy x' busy' w', hv, h1.mono ?_, fun w' hs => (h2 w' hs.b).mono ?_⟩
  · rintro e w' ⟨rfl, hm, k⟩
    exact ⟨rfl, HalfWay.of_map h d hm k, k⟩
  · rintro e w'' ⟨rfl, hr, k⟩
    exact ⟨rfl, k, x', busy', Both.of_half hs d hr k hx hb⟩

theorem act_start (n : Int) (hl : lim ≤ 1000) : ActAt IsPair W0 m bz r g1 g2 rows (lim + 1) 11 33 (num n) w := by
  by_cases hr : 0 ≤ n ∧ n < (rows : Int)
  · obtain ⟨row, rfl⟩ : ∃ row : Nat, n = (row : Int) := ⟨n.toNat, by omega⟩
    have hrow : row < rows := by omega
    have hk : row / 4 < busy.length := by rw [h.a.len]; exact row_reg h.a hrow
    refine act_turn h d ⟨_, _, rfl⟩ (start_walk h.a row hrow) (fun w' hs => refStart_walk hs row hrow) (Nat.or_lt_two_pow h.x (Nat.pow_lt_pow_right (by decide) (row_reg h.a hrow))) (fun i => ?_)
    by_cases e : row / 4 = i
    · subst e
      have hb := h.nn (row / 4)
      have : (startBusy busy (row / 4)).getD (row / 4) 0 = busy.getD (row / 4) 0 + 1 := by
        unfold startBusy
        rw [IntWalk.wrap64_in _ ⟨by omega, by omega⟩]
        simp [List.getD_eq_getElem?_getD, hk]
      omega
    · rw [start_getD_other e]
      have hb := h.nn i
      omega
  · exact act_same h ⟨_, _, rfl⟩ (start_outI h.a n hr) (fun w' hs => (refStart_out hs n hr).mono fun e w'' h => ⟨h.1, 0, h.2⟩)
theorem act_done (n : Int) (hl : lim ≤ 1000) : ActAt IsNum W0 m bz r g1 g2 rows (lim + 1) 15 34 (num n) w := by
  by_cases hr : 0 ≤ n ∧ n < (rows : Int)
  · obtain ⟨row, rfl⟩ : ∃ row : Nat, n = (row : Int) := ⟨n.toNat, by omega⟩
    have hrow : row < rows := by omega
    by_cases hz : busy.getD (row / 4) 0 = 0
    · exact act_same h ⟨_, rfl⟩ (done_none h.a row hrow hz) (fun w' hs => (refDone_none hs row hrow hz).mono fun e w'' h => ⟨h.1, 0, h.2⟩)
    · have hk : row / 4 < busy.length := by rw [h.a.len]; exact row_reg h.a hrow
      refine act_turn h d ⟨_, rfl⟩ (done_walk h.a row hrow hz) (fun w' hs => refDone_walk hs row hrow hz) h.x (fun i => ?_)
      have hb := h.nn i
      by_cases e : row / 4 = i
      · subst e
        rw [List.getD_eq_getElem?_getD, List.getElem?_set_self hk]
        show 0 ≤ wrap64 (busy.getD (row / 4) 0 - 1) ∧ wrap64 (busy.getD (row / 4) 0 - 1) ≤ _
        rw [show wrap64 (busy.getD (row / 4) 0 - 1) = busy.getD (row / 4) 0 - 1 from IntWalk.wrap64_in _ ⟨by omega, by omega⟩]
        omega
      · rw [List.getD_eq_getElem?_getD, List.getElem?_set_ne e, ← List.getD_eq_getElem?_getD]
        omega
  · exact act_same h ⟨_, rfl⟩ (done_outI h.a n hr) (fun w' hs => (refDone_out hs n hr).mono fun e w'' h => ⟨h.1, 0, h.2⟩)
theorem act_clear (n : Int) : ActAt IsNum W0 m bz r g1 g2 rows (lim + 1) 14 35 (num n) w := by
  by_cases hr : 0 ≤ n ∧ n < (regs rows : Int)
  · obtain ⟨k, rfl⟩ : ∃ k : Nat, n = (k : Int) := ⟨n.toNat, by omega⟩
    have hk : k < regs rows := by omega
    have hb := h.nn k
    by_cases hz : 0 < busy.getD k 0
    · exact act_same h ⟨_, rfl⟩ (clear_busy h.a k hk hz) (fun w' hs => (refClear_busy hs k hk hz).mono fun e w'' h => ⟨h.1, 0, h.2⟩)
    · refine act_turn h d ⟨_, rfl⟩ (clear_walk h.a k hk (by omega)) (fun w' hs => refClear_walk hs k hk (by omega)) (Nat.lt_of_le_of_lt Nat.and_le_left h.x) (fun i => ?_)
      have := h.nn i
      omega
  · exact act_same h ⟨_, rfl⟩ (clear_out h.a n (by omega)) (fun w' hs => (refClear_out hs n hr).mono fun e w'' h => ⟨h.1, 0, h.2⟩)
theorem act_mark (n : Int) : ActAt IsNum W0 m bz r g1 g2 rows (lim + 1) 13 36 (num n) w := by
  by_cases hr : 0 ≤ n ∧ n < (regs rows : Int)
  · obtain ⟨k, rfl⟩ : ∃ k : Nat, n = (k : Int) := ⟨n.toNat, by omega⟩
    have hk : k < regs rows := by omega
    refine act_turn h d ⟨_, rfl⟩ (mark_walk h.a k hk) (fun w' hs => refMark_walk hs k hk) (Nat.or_lt_two_pow h.x (Nat.pow_lt_pow_right (by decide) hk)) (fun i => ?_)
    have := h.nn i
    omega
  · exact act_same h ⟨_, rfl⟩ (mark_out h.a n (by omega)) (fun w' hs => (refMark_out hs n hr).mono fun e w'' h => ⟨h.1, 0, h.2⟩)
theorem act_merge (s : ByteArray) : ActAt IsNum W0 m bz r g1 g2 rows (lim + 1) 17 37 (.string s) w := by
  refine act_turn h d ⟨_, rfl⟩ (merge_walk h.a s) (fun w' hs => refMerge_walk hs s) ?_ (fun i => ?_)
  · unfold mergeSt
    split
    · rename_i hc
      exact Nat.or_lt_two_pow h.x ((bitLen_iff _ _ (regs_le h.a.row2) (leNum_lt _ (byteOf_lt s) 8)).1 hc.2)
    · exact h.x
  · have := h.nn i
    omega
end

/-! ### does -/
section
variable {W0 w : World} {m bz r g1 g2 rows x lim : Nat} {busy : List Int} (h : Both W0 m bz r g1 g2 rows x busy lim w) (d : Away W0 m bz r g1 g2)
include h d
set_option maxRecDepth 100000 in
set_option maxHeartbeats 1000000 in
theorem does_walk (kind n : Int) (s : ByteArray) (hl : lim ≤ 1000) : Calls Tryd.prog 21 #[ptr m, ptr r, .agg #[num kind, num n, .string s]] w fun e w' => e = .returned (.bool true) ∧ ∃ x' busy', Both W0 m bz r g1 g2 rows x' busy' (lim + 1) w' := by
  have e1 := (Ext.refl w).alloc (.cells #[num kind, num n, .string s] 45)
  have b1 := alloc_new w (.cells #[num kind, num n, .string s] 45)
  have hb := h.later e1
  have lt := h.a.lt
  have lt2 := h.b.lt
  obtain ⟨w1, hw1⟩ : ∃ w1, w.alloc (.cells #[num kind, num n, .string s] 45) = w1 := ⟨_, rfl⟩
  have W1 := Lib.hid hw1
  rw [hw1] at b1 hb
  have c0 : w1.cell? ⟨w.heap.size, 0, none⟩ = some (num kind) := by rw [cell_blk b1]; rfl
  have c1 : w1.cell? ⟨w.heap.size, 1, none⟩ = some (num n) := by rw [cell_blk b1]; rfl
  have c2 : w1.cell? ⟨w.heap.size, 2, none⟩ = some (.string s) := by rw [cell_blk b1]; rfl
  have HB := Lib.hid hb
  have D := Lib.hid d
  have BK := Lib.hid (fun (W W' : World) (hW : W.heap[w.heap.size]? = some (.cells #[num kind, num n, .string s] 45)) (k : Keeps (mapF m bz) W W') => k.blk hW (fun e => by rcases e with e | e <;> omega))
  have BK2 := Lib.hid (fun (W W' : World) (hW : W.heap[w.heap.size]? = some (.cells #[num kind, num n, .string s] 45)) (k : Keeps (refF r g1 g2) W W') => k.blk hW (fun e => by rcases e with e | e | e <;> omega))
  have B1 := Lib.hid b1
  clear h d e1 hb lt lt2 b1 hw1
  by_cases h0 : kind = 0
  · have k0 : (kind == 0) = true := by rw [h0]; rfl
    obtain ⟨v, S, ⟨vb, ve, rfl⟩, A1, A2⟩ := act_start HB.out D.out n hl
    have HA1 := Lib.hid A1
    have HA2 := Lib.hid A2
    have hbb : (vb == vb) = true := by simp
    clear h0 A1 A2
    go_enter Tryd.func21, Tryd.ntmps21
    go_wp2_with fail
    rw [W1.out]
    go_wp2_with fail
    refine HA1.out.mono ?_
    rintro e w2 ⟨rfl, hs, kk⟩
    have c1e : w2.cell? ⟨w.heap.size, 1, none⟩ = some (num n) := by rw [cell_blk (BK.out _ _ B1.out kk)]; rfl
    have HS := Lib.hid (HA2.out _ hs)
    clear HA1 HA2 hs kk
    go_wp2_with fail
    refine HS.out.mono ?_
    rintro e w3 ⟨rfl, kk, hs⟩
    have HS3 := Lib.hid hs
    clear HS hs kk
    go_wp2
    go_ret
    exact ⟨rfl, HS3.out⟩
  by_cases h1 : kind = 1
  · have k0 : (kind == 0) = false := by rw [h1]; rfl
    have k1 : (kind == 1) = true := by rw [h1]; rfl
    obtain ⟨v, S, ⟨ve, rfl⟩, A1, A2⟩ := act_done (HB.out.later (Ext.refl _).drew) D.out n hl
    have HA1 := Lib.hid A1
    have HA2 := Lib.hid A2
    have c1d : w1.drew.cell? ⟨w.heap.size, 1, none⟩ = some (num n) := c1
    clear h1 h0 A1 A2
    go_enter Tryd.func21, Tryd.ntmps21
    go_wp2_with fail
    rw [W1.out]
    go_wp2_with fail
    go_region_held3 (fun w' => w'.cell? ⟨w.heap.size, 1, none⟩ = some (num n)) (first | assumption) (first | (go_at_call 15; refine HA1.out.mono ?_; rintro e w2 ⟨rfl, hs, kk⟩; have HS := Lib.hid hs; have B2 := Lib.hid (BK.out w1.drew w2 B1.out kk); have c1e : w2.cell? ⟨w.heap.size, 1, none⟩ = some (num n) := by (rw [cell_blk B2.out]; rfl)) | (go_at_call 34; refine (HA2.out _ HS.out).mono ?_; rintro e w3 ⟨rfl, kk3, hs3⟩; have HS3 := Lib.hid hs3; have c1f : w3.cell? ⟨w.heap.size, 1, none⟩ = some (num n) := by (rw [cell_blk (BK2.out w2 w3 B2.out kk3)]; rfl)))
    go_wp2
    go_ret
    exact ⟨rfl, HS3.out⟩
  by_cases h2 : kind = 2
  · have k0 : (kind == 0) = false := by rw [h2]; rfl
    have k1 : (kind == 1) = false := by rw [h2]; rfl
    have k2 : (kind == 2) = true := by rw [h2]; rfl
    obtain ⟨v, S, ⟨ve, rfl⟩, A1, A2⟩ := act_clear (HB.out.later (Ext.refl _).drew) D.out n
    have HA1 := Lib.hid A1
    have HA2 := Lib.hid A2
    have c1d : w1.drew.cell? ⟨w.heap.size, 1, none⟩ = some (num n) := c1
    clear h2 h0 h1 A1 A2
    go_enter Tryd.func21, Tryd.ntmps21
    go_wp2_with fail
    rw [W1.out]
    go_wp2_with fail
    go_region_held3 (fun w' => w'.cell? ⟨w.heap.size, 1, none⟩ = some (num n)) (first | assumption) (first | (go_at_call 14; refine HA1.out.mono ?_; rintro e w2 ⟨rfl, hs, kk⟩; have HS := Lib.hid hs; have B2 := Lib.hid (BK.out w1.drew w2 B1.out kk); have c1e : w2.cell? ⟨w.heap.size, 1, none⟩ = some (num n) := by (rw [cell_blk B2.out]; rfl)) | (go_at_call 35; refine (HA2.out _ HS.out).mono ?_; rintro e w3 ⟨rfl, kk3, hs3⟩; have HS3 := Lib.hid hs3; have c1f : w3.cell? ⟨w.heap.size, 1, none⟩ = some (num n) := by (rw [cell_blk (BK2.out w2 w3 B2.out kk3)]; rfl)))
    go_wp2
    go_ret
    exact ⟨rfl, HS3.out⟩
  by_cases h3 : kind = 3
  · have k0 : (kind == 0) = false := by rw [h3]; rfl
    have k1 : (kind == 1) = false := by rw [h3]; rfl
    have k2 : (kind == 2) = false := by rw [h3]; rfl
    have k3 : (kind == 3) = true := by rw [h3]; rfl
    obtain ⟨v, S, ⟨ve, rfl⟩, A1, A2⟩ := act_mark (HB.out.later (Ext.refl _).drew) D.out n
    have HA1 := Lib.hid A1
    have HA2 := Lib.hid A2
    have c1d : w1.drew.cell? ⟨w.heap.size, 1, none⟩ = some (num n) := c1
    clear h3 h0 h1 h2 A1 A2
    go_enter Tryd.func21, Tryd.ntmps21
    go_wp2_with fail
    rw [W1.out]
    go_wp2_with fail
    go_region_held3 (fun w' => w'.cell? ⟨w.heap.size, 1, none⟩ = some (num n)) (first | assumption) (first | (go_at_call 13; refine HA1.out.mono ?_; rintro e w2 ⟨rfl, hs, kk⟩; have HS := Lib.hid hs; have B2 := Lib.hid (BK.out w1.drew w2 B1.out kk); have c1e : w2.cell? ⟨w.heap.size, 1, none⟩ = some (num n) := by (rw [cell_blk B2.out]; rfl)) | (go_at_call 36; refine (HA2.out _ HS.out).mono ?_; rintro e w3 ⟨rfl, kk3, hs3⟩; have HS3 := Lib.hid hs3; have c1f : w3.cell? ⟨w.heap.size, 1, none⟩ = some (num n) := by (rw [cell_blk (BK2.out w2 w3 B2.out kk3)]; rfl)))
    go_wp2
    go_ret
    exact ⟨rfl, HS3.out⟩
  by_cases h4 : kind = 4
  · have k0 : (kind == 0) = false := by rw [h4]; rfl
    have k1 : (kind == 1) = false := by rw [h4]; rfl
    have k2 : (kind == 2) = false := by rw [h4]; rfl
    have k3 : (kind == 3) = false := by rw [h4]; rfl
    have k4 : (kind == 4) = true := by rw [h4]; rfl
    obtain ⟨v, S, ⟨ve, rfl⟩, A1, A2⟩ := act_merge (HB.out.later (Ext.refl _).drew) D.out s
    have HA1 := Lib.hid A1
    have HA2 := Lib.hid A2
    have c1d : w1.drew.cell? ⟨w.heap.size, 2, none⟩ = some (.string s) := c2
    clear h4 h0 h1 h2 h3 A1 A2
    go_enter Tryd.func21, Tryd.ntmps21
    go_wp2_with fail
    rw [W1.out]
    go_wp2_with fail
    go_region_held3 (fun w' => w'.cell? ⟨w.heap.size, 2, none⟩ = some (.string s)) (first | assumption) (first | (go_at_call 17; refine HA1.out.mono ?_; rintro e w2 ⟨rfl, hs, kk⟩; have HS := Lib.hid hs; have B2 := Lib.hid (BK.out w1.drew w2 B1.out kk); have c1e : w2.cell? ⟨w.heap.size, 2, none⟩ = some (.string s) := by (rw [cell_blk B2.out]; rfl)) | (go_at_call 37; refine (HA2.out _ HS.out).mono ?_; rintro e w3 ⟨rfl, kk3, hs3⟩; have HS3 := Lib.hid hs3; have c1f : w3.cell? ⟨w.heap.size, 2, none⟩ = some (.string s) := by (rw [cell_blk (BK2.out w2 w3 B2.out kk3)]; rfl)))
    go_wp2
    go_ret
    exact ⟨rfl, HS3.out⟩
  by_cases h5 : kind = 5
  · have k0 : (kind == 0) = false := by rw [h5]; rfl
    have k1 : (kind == 1) = false := by rw [h5]; rfl
    have k2 : (kind == 2) = false := by rw [h5]; rfl
    have k3 : (kind == 3) = false := by rw [h5]; rfl
    have k4 : (kind == 4) = false := by rw [h5]; rfl
    have k5 : (kind == 5) = true := by rw [h5]; rfl
    obtain ⟨v, S, ⟨ve, rfl⟩, A1, A2⟩ := act_stale (HB.out.later (Ext.refl _).drew) n
    have HA1 := Lib.hid A1
    have HA2 := Lib.hid A2
    have c1d : w1.drew.cell? ⟨w.heap.size, 1, none⟩ = some (num n) := c1
    have hbb : (ve == ve) = true := by simp
    clear h5 h0 h1 h2 h3 h4 A1 A2
    go_enter Tryd.func21, Tryd.ntmps21
    go_wp2_with fail
    rw [W1.out]
    go_wp2_with fail
    go_region_held3 (fun w' => w'.cell? ⟨w.heap.size, 1, none⟩ = some (num n)) (first | assumption) (first | (go_at_call 12; refine HA1.out.mono ?_; rintro e w2 ⟨rfl, hs, kk⟩; have HS := Lib.hid hs; have B2 := Lib.hid (BK.out w1.drew w2 B1.out kk); have c1e : w2.cell? ⟨w.heap.size, 1, none⟩ = some (num n) := by (rw [cell_blk B2.out]; rfl)) | (go_at_call 38; refine (HA2.out _ HS.out).mono ?_; rintro e w3 ⟨rfl, kk3, hs3⟩; have HS3 := Lib.hid hs3; have c1f : w3.cell? ⟨w.heap.size, 1, none⟩ = some (num n) := by (rw [cell_blk (BK2.out w2 w3 B2.out kk3)]; rfl)))
    go_wp2
    go_ret
    exact ⟨rfl, HS3.out⟩
  have k0 : (kind == 0) = false := by simpa using h0
  have k1 : (kind == 1) = false := by simpa using h1
  have k2 : (kind == 2) = false := by simpa using h2
  have k3 : (kind == 3) = false := by simpa using h3
  have k4 : (kind == 4) = false := by simpa using h4
  have k5 : (kind == 5) = false := by simpa using h5
  have HR := Lib.hid (HB.out.lift (Nat.le_succ lim))
  clear h0 h1 h2 h3 h4 h5 HB D BK BK2
  go_enter Tryd.func21, Tryd.ntmps21
  go_wp2_with fail
  rw [W1.out]
  go_wp2_with fail
  go_ret
  exact ⟨rfl, x, busy, HR.out⟩
end

end Go.Proofs.YtabjknljcmcmfaaDoor
