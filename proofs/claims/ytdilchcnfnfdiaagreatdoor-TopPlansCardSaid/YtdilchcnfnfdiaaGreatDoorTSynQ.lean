/- syndrome: powers, Q. -/
import Derived.Test.YtdilchcnfnfdiaaGreatDoorTSynB
import Derived.Test.YtdilchcnfnfdiaaGreatDoorTUntil
import Derived.Test.YtdilchcnfnfdiaaGreatDoorTDrawnIn
import Derived.Test.YtdilchcnfnfdiaaGreatDoorTStatus
namespace Go.Proofs.YtdilchcnfnfdiaaGreatDoor
open Go.RowKit Go.Shelf

attribute [local go_sem] Oper.semAt_some

set_option maxRecDepth 100000 in
set_option maxHeartbeats 1000000 in
theorem powers_until (n N : Nat) (_hn : 1 ≤ n) (hN : N ≤ 9) (h0 : 0 < N) : Until Fence.wide n Tryz.prog 101 #[] (fun j => #[.int .u8 (expL j : Int)]) N := fun l J Jx W hY hJ0 => by
  have HY := Lib.hid hY
  have H0 := Lib.hid hJ0
  clear hY hJ0
  refine callsIn_of_wp Tryz.func101 rfl trivial ?_ rfl
  simp only [Tryz.ntmps101, List.size_toArray, List.length_cons, List.length_nil, Nat.reduceAdd, Nat.reduceSub, Array.replicate_succ, Array.replicate_zero, List.push_toArray, List.append_toArray, List.nil_append, List.append_nil, List.cons_append]
  gi_wp2
  gi_loopw [2] (fun x wr => ∃ j : Nat, j < N ∧ x = .int .u8 (expL j : Int) ∧ J j wr) (fun x _ => N - logN (intOf x).toNat)
  case atStart => exact ⟨0, h0, rfl, H0.out⟩
  case round =>
    obtain ⟨j, hj, rfl, hJ⟩ := hrel
    obtain ⟨fn, tmps, assign, body, hyy, hR⟩ := HY.out j wr hj hJ
    have HR := Lib.hid hR
    have HM := Lib.hid (fun (h : j < 8) W => mul2_walk j h W)
    have hme := Lib.hid (fun (h : j + 1 < N) => show N - logN (expL (j + 1)) < N - logN (expL j) by rw [logN_expL _ (by omega), logN_expL _ (by omega)]; omega)
    obtain ⟨E, hE⟩ : ∃ E, expL j = E := ⟨_, rfl⟩
    obtain ⟨E1, hE1⟩ : ∃ E, expL (j + 1) = E := ⟨_, rfl⟩
    have HE := Lib.hid (And.intro hE hE1)
    rw [hE] at hyy HM hme
    rw [hE1] at HM hme
    simp only [hE]
    clear hR hJ hE hE1 H0
    gi_wp2
    refine HR.out.mono ?_
    rintro e W3 (⟨rfl, hjn, hJ3⟩ | ⟨rfl, hJx3⟩)
    · have R := Lib.hid (And.intro hjn hJ3)
      have HM2 := Lib.hid (HM.out (by omega) W3)
      clear hJ3 HR hyy HM
      gi_wp2
      refine ⟨trivial, (callsIn_wide.2 HM2.out).mono ?_⟩
      rintro e2 w2 ⟨rfl, rfl⟩
      clear HM2
      gi_wp2
      go_roundw
      case rel => exact ⟨j + 1, R.out.1, by rw [HE.out.2], R.out.2⟩
      case measure => exact hme.out hjn
    · have R := Lib.hid hJx3
      clear hJx3 HR hyy HM
      gi_wp2
      go_end0
      exact ⟨⟨_, rfl⟩, R.out⟩

theorem powers_walk (w : World) : Calls Tryz.prog 64 #[] w fun e w' => e = .returned (.func (.func 101) #[] #[]) ∧ w' = w := by
  go_enter Tryz.func64, Tryz.ntmps64
  go_wp2
  go_ret
  exact ⟨rfl, rfl⟩

/-- A region that draws its order, in a round, under S. -/
theorem wpIn_held {P : Program} {S : World → Prop} {Q : Exit → Act → World → Prop} {id k l : Nat} {a : Act} {w : World} {ops : Array Oper} (hm : P.follows .mixedOrders = true) (hd : (ops.toList.all fun o => match o.op with | .defer _ => false | _ => true) = true)
    (h : wpAnyH P .any ops (Only Q) S ops.size (Array.replicate ops.size false) a { w with drawn := w.drawn + 1 }) : (Code.region id ops true).wpIn (Fence.wide.inRound l) k P Q a w := by
  refine wpIn_region_any hm (wpAnyIn_of_wpAny (fun o ho c e => ?_) _ _ _ _ (wpAny_of_held _ _ _ _ h))
  have := List.all_eq_true.1 hd o (by simpa using ho)
  rw [e] at this
  cases this

/-- The sum of the first j. -/
def qT (l : List ByteArray) : Nat → ByteArray
  | 0 => ByteArray.empty
  | j + 1 => xorT (qT l j) (timesT (l.getD j ByteArray.empty) (expL j))
theorem qT_size (l : List ByteArray) (m : Nat) (h : ∀ x ∈ l, x.size ≤ m) : ∀ j, j ≤ l.length → (qT l j).size ≤ m
  | 0, _ => Nat.zero_le _
  | j + 1, hj => by
    have h1 := qT_size l m h j (by omega)
    have h2 := h (l.getD j ByteArray.empty) (by rw [List.getD_eq_getElem?_getD, List.getElem?_eq_getElem (by omega)]; exact List.getElem_mem _)
    rw [qT, xorT_size, timesT_size]
    omega
/-- Between two rounds of Q. -/
def QAt (w : World) (l : List ByteArray) (j : Nat) (W : World) : Prop :=
  j ≤ l.length ∧ (∃ v, W.heap[w.heap.size]? = some (.cells #[v] 57) ∧ RdT w v (l.drop j)) ∧ W.heap[w.heap.size + 1]? = some (.cells #[strv (qT l j)] 9) ∧ Ext w W

theorem QAt.ext {w W W' : World} {l : List ByteArray} {j : Nat} (h : QAt w l j W) (e : Ext W W') : QAt w l j W' := by
  obtain ⟨h1, ⟨v, h2, h3⟩, h4, h5⟩ := h
  exact ⟨h1, ⟨v, e.blk h2, h3⟩, e.blk h4, h5.trans e⟩
theorem keepsFrom_ext {B : Nat} {W W' : World} (h : Ext W W') : KeepsFrom B W W' := ⟨h.size, fun _ _ _ ho _ => h.blk ho⟩
theorem ext_put {w W : World} (h : Ext w W) {b : Nat} {o : Obj} (hb : w.heap.size ≤ b) : Ext w (W.putObj b o) :=
  ⟨h.os, h.tape, h.output, by rw [World.putObj_size]; exact h.size, fun k hk => (World.putObj_heap_other (by omega)).trans (h.block k hk)⟩
theorem QAt.put {w W : World} {l : List ByteArray} {j b : Nat} {o' : Obj} (h : QAt w l j W) (hb : w.heap.size + 2 ≤ b) : QAt w l j (W.putObj b o') := by
  obtain ⟨h1, ⟨v, h2, h3⟩, h4, h5⟩ := h
  exact ⟨h1, ⟨v, (World.putObj_heap_other (by omega)).trans h2, h3⟩, (World.putObj_heap_other (by omega)).trans h4, ext_put h5 (by omega)⟩
theorem rdT_tail0 {w : World} {A : Option Addr} {n c : Nat} {l : List ByteArray} {j : Nat} (h : l.length - j = 1) (hn : n = l.length - (j + 1) := by omega) : RdT w (.slice A n c) (l.drop (j + 1)) :=
  ⟨A, c, by rw [List.length_drop, hn], by rw [List.length_drop]; omega, fun i hi => by rw [List.length_drop] at hi; omega⟩
theorem rdT_tail1 {w : World} {x : Addr} {cap : Nat} {l : List ByteArray} {j : Nat} (_hj : j < l.length) (hc : l.length - j ≤ cap) (hcell : ∀ i, i < l.length - j → ∃ x1, some x = some x1 ∧ w.cell? (x1.add i) = some (strv ((l.drop j).getD i ByteArray.empty))) :
    RdT w (.slice (some ⟨x.block, x.off + 1, none⟩) (l.length - j - 1) (cap - 1)) (l.drop (j + 1)) := by
  refine ⟨_, _, by rw [List.length_drop, Nat.sub_sub], by rw [List.length_drop]; omega, fun i hi => ⟨_, rfl, ?_⟩⟩
  rw [List.length_drop] at hi
  obtain ⟨x1, e1, h1⟩ := hcell (i + 1) (by omega)
  injection e1 with e1
  subst e1
  rw [Addr.add_lit, show x.off + 1 + i = x.off + (i + 1) by omega]
  rw [Addr.add_succ'] at h1
  rw [h1, List.getD_eq_getElem?_getD, List.getD_eq_getElem?_getD, List.getElem?_drop, List.getElem?_drop, show j + (i + 1) = j + 1 + i by omega]
/-- Behind a round's sum: the data's variable, the sum's; what the round has kept. -/
def QFin (w W : World) (l : List ByteArray) (j : Nat) (x : Addr) (cap : Nat) (w4 : World) : Prop :=
  w4.cell? ⟨w.heap.size, 0, none⟩ = some (.slice (some x) (l.length - j) cap) ∧ w4.frozen? ⟨w.heap.size, 0, none⟩ = false ∧
    ∀ v, RdT w v (l.drop (j + 1)) → j + 1 ≤ l.length → KeepsFrom (w.heap.size + 2) W (w4.setCell ⟨w.heap.size, 0, none⟩ v) ∧ QAt w l (j + 1) (w4.setCell ⟨w.heap.size, 0, none⟩ v)
theorem QFin.of {w W : World} {l : List ByteArray} {j cap : Nat} {x : Addr} {S T : ByteArray} (h1 : W.heap[w.heap.size]? = some (.cells #[.slice (some x) (l.length - j) cap] 57)) (h2 : W.heap[w.heap.size + 1]? = some (.cells #[strv (qT l j)] 9)) (h3 : Ext w W) (hq : qT l (j + 1) = xorT S T) {w3 : World} (X : Ext W.drew w3) :
    QFin w W l j x cap (w3.setCell ⟨w.heap.size + 1, 0, none⟩ (strv (xorT S T))) := by
  have n1 : w.heap.size ≠ w.heap.size + 1 := by omega
  have X' : Ext W w3 := (Ext.refl W).drew.trans X
  have a1 := (set_far (w := w3) (a := ⟨w.heap.size + 1, 0, none⟩) (b := w.heap.size) n1 (strv (xorT S T))).trans (X'.blk h1)
  have a2 := set_blk (X'.blk h2) 0 (strv (xorT S T))
  refine ⟨by rw [cell_blk a1]; rfl, free_blk a1 0, fun v hv hj => ⟨?_, hj, ⟨v, set_blk a1 0 v, hv⟩, ?_, ?_⟩⟩
  · exact ((keepsFrom_ext X').trans ((KeepsOthers.setCell _ _ _).from _)).trans ((KeepsOthers.setCell _ _ _).from _)
  · rw [hq]
    exact (set_far (a := ⟨w.heap.size, 0, none⟩) (b := w.heap.size + 1) (fun e => n1 e.symm) v).trans a2
  · exact ((h3.trans X').set (p := ⟨w.heap.size + 1, 0, none⟩) (Nat.le_succ _) _).set (p := ⟨w.heap.size, 0, none⟩) (Nat.le_refl _) _
set_option maxRecDepth 100000 in
set_option maxHeartbeats 4000000 in
theorem synQ_walk (w : World) (v : Value) (l : List ByteArray) (hv : RdT w v l) (hl : l.length ≤ 8) (hs : ∀ x ∈ l, x.size ≤ 1000) :
    Calls Tryz.prog 29 #[v] w fun e w' => e = .returned (strv (qT l l.length)) ∧ Ext w w' := by
  obtain ⟨A, cap, rfl, hcap, hc⟩ := hv
  refine (callsIn_wide (n := 3)).1 ?_
  refine callsIn_of_wp_marks Tryz.func29 rfl trivial ?_ rfl
  simp only [Tryz.ntmps29, List.size_toArray, List.length_cons, List.length_nil, Nat.reduceAdd, Nat.reduceSub, Array.replicate_succ, Array.replicate_zero, List.push_toArray, List.append_toArray, List.nil_append, List.cons_append]
  gi_wp2
  refine ⟨trivial, (callsIn_wide.2 (powers_walk _)).mono ?_⟩
  rintro e w' ⟨rfl, rfl⟩
  gi_wp2
  obtain ⟨W0, hW0⟩ : ∃ W0, (w.alloc (.cells #[.slice A l.length cap] 57)).alloc (.cells #[.string { data := #[] }] 9) = W0 := ⟨_, rfl⟩
  have hs0 : W0.heap.size = w.heap.size + 2 := by rw [← hW0, size_alloc, size_alloc]
  have e0 : Ext w W0 := by rw [← hW0]; exact ((Ext.refl w).alloc _).alloc _
  have b0 : W0.heap[w.heap.size]? = some (.cells #[.slice A l.length cap] 57) := by rw [← hW0]; exact alloc_old _ (alloc_new w _)
  have b1 : W0.heap[w.heap.size + 1]? = some (.cells #[strv (qT l 0)] 9) := by
    rw [← hW0]
    have h := alloc_new (w.alloc (.cells #[.slice A l.length cap] 57)) (.cells #[.string { data := #[] }] 9)
    rw [size_alloc] at h
    exact h
  have q0 : QAt w l 0 W0 := ⟨Nat.zero_le _, ⟨_, b0, by
    rw [List.drop_zero]
    exact ⟨A, cap, rfl, hcap, hc⟩⟩, b1, e0⟩
  have HS := Lib.hid hs
  rw [hW0]
  clear hW0 hc hcap e0 b0 b1 hs
  refine wpIn_until rfl (by decide) (gf := 101) (lb := #[]) rfl trivial (enters_of Tryz.func101 (by kernel_rfl) rfl)
    (powers_until 2 (l.length + 1) (by decide) (by omega) (by omega)) (fun _ => rfl) (fun j W => QAt w l j W) (fun c W => c = 0 ∧ QAt w l l.length W)
    (fun j W b o o' hb _ _ h => h.put (by omega)) (fun c W b o o' hb _ _ h => ⟨h.1, h.2.put (by omega)⟩) (fun o o' => (q0.ext ((Ext.refl W0).alloc o)).ext ((Ext.refl (W0.alloc o)).alloc o'))
    (fun j => { tmps := #[.slice A l.length cap, ptr w.heap.size, .string { data := #[] }, ptr (w.heap.size + 1), .int .u8 (expL j : Int), .func (.func 101) #[] #[], .int .u8 (expL j : Int), undef, undef, undef, undef, undef, undef, undef, undef, undef, undef, undef, undef, undef, undef], defers := [] }) ?assign ?body ?stop
  case assign =>
    intro l9 j W K hK
    gi_wp2
    exact hK
  case body =>
    intro l9 j W hj hq
    clear q0
    obtain ⟨h1, ⟨v, h2, h3⟩, h4, h5⟩ := hq
    obtain ⟨A2, cap2, rfl, hcap2, hcell⟩ := h3
    rw [List.length_drop] at h2 hcap2 hcell
    have c0 : W.cell? ⟨w.heap.size, 0, none⟩ = some (.slice A2 (l.length - j) cap2) := by rw [cell_blk h2]; rfl
    by_cases hjl : j = l.length
    · subst hjl
      have hz : l.length - l.length = 0 := Nat.sub_self _
      rw [hz] at c0 h2 hcap2
      have R := Lib.hid (show QAt w l l.length W from ⟨Nat.le_refl _, ⟨_, h2, ⟨A2, cap2, by rw [List.length_drop, hz], by rw [List.length_drop, hz]; exact Nat.zero_le _, fun i hi => by rw [List.length_drop, hz] at hi; cases hi⟩⟩, h4, h5⟩)
      clear h1 h2 h4 h5 hcap2 hcell hz
      gi_wp2
      exact ⟨KeepsFrom.refl _ _, rfl, R.out⟩
    · have hj2 : j < l.length := by omega
      obtain ⟨x, rfl, hx⟩ := hcell 0 (by omega)
      have hd0 : (l.drop j).getD 0 ByteArray.empty = l.getD j ByteArray.empty := by
        rw [List.getD_eq_getElem?_getD, List.getElem?_drop, Nat.add_zero, List.getD_eq_getElem?_getD]
      rw [hd0, Addr.add_zero'] at hx
      have hxb := World.block_lt_of_cell? w _ hx
      have hx := h5.cell hx
      have hsz : (l.getD j ByteArray.empty).size ≤ 1000 := HS.out _ (by rw [List.getD_eq_getElem?_getD, List.getElem?_eq_getElem hj2]; exact List.getElem_mem hj2)
      have hqs := qT_size l 1000 HS.out j h1
      have hne : (((l.length - j : Nat) : Int) == 0) = false := by simp; omega
      have hpos : (0 : Int) < ((l.length - j : Nat) : Int) := by omega
      obtain ⟨nn, hnn⟩ : ∃ nn, l.length - j = nn := ⟨_, rfl⟩
      rw [hnn] at c0 hne hpos
      have hmo : Tryz.prog.follows .mixedOrders = true := by kernel_rfl
      have c1 : W.cell? ⟨w.heap.size + 1, 0, none⟩ = some (strv (qT l j)) := by rw [cell_blk h4]; rfl
      have HH := Lib.hid (And.intro h2 (And.intro h4 (And.intro h5 (And.intro hnn (And.intro hcap2 hcell)))))
      have hqn : qT l (j + 1) = xorT (qT l j) (timesT (l.getD j ByteArray.empty) (expL j)) := rfl
      obtain ⟨S, hS⟩ : ∃ S, qT l j = S := ⟨_, rfl⟩
      obtain ⟨y, hy⟩ : ∃ y, l.getD j ByteArray.empty = y := ⟨_, rfl⟩
      obtain ⟨E, hE⟩ : ∃ E, expL j = E := ⟨_, rfl⟩
      have hEl : E < 256 := by rw [← hE]; exact (expL_in j).2
      rw [hS, hy, hE] at hqn
      rw [hS] at c1 hqs
      rw [hy] at hx hsz
      simp only [hE]
      have HQ := Lib.hid hqn
      have HT := fun W' => Lib.hid (times_walk y E W' hsz hEl)
      have hTs := timesT_size y E
      obtain ⟨T, hT⟩ : ∃ T, timesT y E = T := ⟨_, rfl⟩
      have HT2 := fun W' => Lib.hid (show Calls Tryz.prog 65 #[.string y, .int .u8 (E : Int)] W' fun e w' => e = .returned (.string T) ∧ Ext W' w' by rw [← hT]; exact (HT W').out)
      rw [hT] at hTs
      have hTs2 : T.size ≤ 1000 := by omega
      have HQ2 := Lib.hid (show qT l (j + 1) = xorT S T by rw [← hT]; exact HQ.out)
      have HA := fun (W' : World) (b : Nat) (h : W'.heap[b]? = some (.cells #[strv S, strv T] 9)) => Lib.hid (added_walk W' (.slice (some ⟨b, 0, none⟩) 2 2) [S, T] ⟨_, 2, rfl, Nat.le_refl _, fun i hi => ⟨_, rfl, by
        rw [zero_add, cell_blk h]
        have hi : i < 2 := hi
        have : i = 0 ∨ i = 1 := by omega
        rcases this with rfl | rfl <;> rfl⟩⟩ (show 2 ≤ 1000 by decide) (fun z hz => by
        rcases List.mem_cons.1 hz with rfl | hz
        · exact hqs
        · rcases List.mem_singleton.1 hz with rfl
          exact hTs2))
      have hadd : addT [S, T] = xorT S T := by
        show xorT (xorT ByteArray.empty S) T = _
        rw [xorT_nil]
      rw [hadd] at HA
      clear hTs HT HQ hT hqn hadd hS hy hE hEl h2 h4 h5 hcell hcap2 hnn hd0 h1 hqs hsz hTs2
      have HFIN := fun (w3 : World) (X : Ext W.drew w3) => QFin.of (l := l) (j := j) HH.out.1 HH.out.2.1 HH.out.2.2.1 HQ2.out X
      gi_wp2
      refine wpIn_held (S := fun W' => Keeps (fun q => q = w.heap.size + 1) W.drew W') hmo (by kernel_rfl) ?_
      change wpAnyH _ _ _ _ _ _ _ _ W.drew
      have X := Lib.hid (Ext.refl W.drew)
      have SX : ∀ {W' : World}, Ext W.drew W' → Keeps (fun q => q = w.heap.size + 1) W.drew W' := fun e => e.to_keeps.mono (fun _ h => h.elim)
      have hHeld := SX X.out
      have c1 : W.drew.cell? ⟨w.heap.size + 1, 0, none⟩ = some (strv S) := c1
      have hx : W.drew.cell? x = some (strv y) := hx
      have hb0 : W.drew.heap[w.heap.size]? = some (.cells #[.slice (some x) (l.length - j) cap2] 57) := HH.out.1
      have hnn := HH.out.2.2.2.1
      rw [hnn] at hb0
      clear hnn
      have HB0 := Lib.hid hb0
      have HXB := Lib.hid hxb
      clear hb0 hxb
      refine wpAnyH_take2 (i := 1) (d := 11) (v := .slice (some x) nn cap2) rfl rfl (by kernel_rfl) (by kernel_rfl) (by kernel_rfl) (fun _ _ _ h => by cases h.1) (Or.inl ⟨by rfl, ?_⟩) hHeld ?_
      · intro w9 hS9
        have q1 : w9.cell? ⟨w.heap.size, 0, none⟩ = some (.slice (some x) nn cap2) := by rw [cell_blk (hS9.blk HB0.out (by show ¬ (w.heap.size = w.heap.size + 1); omega))]; rfl
        clear hS9
        go_simp
      simp only [List.setIfInBounds_toArray, List.set_cons_succ, List.set_cons_zero]
      refine wpAnyH_take2 (i := 2) (d := 12) (v := .pointer (some x)) rfl rfl (by kernel_rfl) (by kernel_rfl) (by kernel_rfl) (fun _ _ _ h => by cases h.1) (Or.inl ⟨by rfl, ?_⟩) hHeld ?_
      · intro w9 hS9
        clear hS9
        go_simp
        intro h
        omega
      simp only [List.setIfInBounds_toArray, List.set_cons_succ, List.set_cons_zero]
      refine wpAnyH_take2 (i := 3) (d := 13) (v := strv y) rfl rfl (by kernel_rfl) (by kernel_rfl) (by kernel_rfl) (fun _ _ _ h => by cases h.1) (Or.inl ⟨by rfl, ?_⟩) hHeld ?_
      · intro w9 hS9
        have q1 : w9.cell? x = some (strv y) := (World.cell?_of_block (w := W.drew) (hS9.block x.block (World.block_lt_of_cell? W.drew _ hx) (by have := HXB.out; show ¬ (x.block = w.heap.size + 1); omega))).trans hx
        clear hS9
        go_simp
      simp only [List.setIfInBounds_toArray, List.set_cons_succ, List.set_cons_zero]
      refine wpAnyH_take2 (i := 4) (d := 14) (v := .int .u8 (E : Int)) rfl rfl (by kernel_rfl) (by kernel_rfl) (by kernel_rfl) (fun _ _ _ h => by cases h.1) (Or.inl ⟨by rfl, ?_⟩) hHeld ?_
      · intro w9 hS9
        clear hS9
        go_simp
      simp only [List.setIfInBounds_toArray, List.set_cons_succ, List.set_cons_zero]
      refine wpAnyH_ready (rs := [0, 5]) (by kernel_rfl) (by simp) ?_
      refine AllReadyH.cons rfl (fun K9 hK9 => ?_) (AllReadyH.cons rfl (fun K9 hK9 => ?_) AllReadyH.nil)
      · go_simp
        refine hK9.out _ _ ?_ (fun hHeld => ?_)
        · exact SX X.out
        clear hK9 K9
        try simp only [List.setIfInBounds_toArray, List.set_cons_succ, List.set_cons_zero]
        refine wpAnyH_ready (rs := [5]) (by kernel_rfl) (by simp) ?_
        refine AllReadyH.cons rfl (fun K9 hK9 => ?_) AllReadyH.nil
        go_simp
        refine (HT2 _).out.mono ?_
        rintro e2 w2 ⟨rfl, he2⟩
        have X := Lib.hid (X.out.trans he2)
        clear he2
        go_wp2_with fail
        refine hK9.out _ _ ?_ (fun hHeld => ?_)
        · exact SX X.out
        clear hK9 K9
        try simp only [List.setIfInBounds_toArray, List.set_cons_succ, List.set_cons_zero]
        refine wpAnyH_ready (rs := [6]) (by kernel_rfl) (by simp) ?_
        refine AllReadyH.cons rfl (fun K9 hK9 => ?_) AllReadyH.nil
        go_simp
        refine hK9.out _ _ ?_ (fun hHeld => ?_)
        · exact SX (X.out.alloc _)
        clear hK9 K9
        try simp only [List.setIfInBounds_toArray, List.set_cons_succ, List.set_cons_zero]
        have X3 := Lib.hid (X.out.alloc (.cells #[strv S, strv T] 9))
        have HA2 := HA (w2.alloc (.cells #[strv S, strv T] 9)) w2.heap.size (alloc_new w2 _)
        clear HA
        refine wpAnyH_ready (rs := [7]) (by kernel_rfl) (by simp) ?_
        refine AllReadyH.cons rfl (fun K9 hK9 => ?_) AllReadyH.nil
        go_simp
        refine HA2.out.mono ?_
        rintro e3 w3 ⟨rfl, he3⟩
        have X := Lib.hid (X3.out.trans he3)
        clear he3 HA2 X3
        go_wp2_with fail
        refine hK9.out _ _ ?_ (fun hHeld => ?_)
        · exact SX X.out
        clear hK9 K9
        try simp only [List.setIfInBounds_toArray, List.set_cons_succ, List.set_cons_zero]
        have b4 := X.out.blk (show W.drew.heap[w.heap.size + 1]? = some (.cells #[strv (qT l j)] 9) from HH.out.2.1)
        have d1 : w3.cell? ⟨w.heap.size + 1, 0, none⟩ = some (strv (qT l j)) := by rw [cell_blk b4]; rfl
        have f1 : w3.frozen? ⟨w.heap.size + 1, 0, none⟩ = false := free_blk b4 0
        have R := Lib.hid (HFIN w3 X.out)
        clear c1 hx b4
        refine wpAnyH_ready (rs := [8]) (by kernel_rfl) (by simp) ?_
        refine AllReadyH.cons rfl (fun K9 hK9 => ?_) AllReadyH.nil
        go_simp
        refine hK9.out _ _ ?_ (fun hHeld => ?_)
        · exact (SX X.out).set (p := ⟨w.heap.size + 1, 0, none⟩) (.inl rfl) _
        clear hK9 K9 X SX d1 f1
        refine wpAnyH_done (by kernel_rfl) ?_ _
        refine ⟨rfl, ?_⟩
        obtain ⟨w4, hw4⟩ : ∃ w4, w3.setCell ⟨w.heap.size + 1, 0, none⟩ (strv (xorT S T)) = w4 := ⟨_, rfl⟩
        rw [hw4] at R ⊢
        have c0 := R.out.1
        have f0 := R.out.2.1
        gi_wp2
        · have hz : l.length - j = 1 := by have := HH.out.2.2.2.2.1; omega
          exact ⟨(R.out.2.2 _ (rdT_tail0 hz) hj2).1, by omega, (R.out.2.2 _ (rdT_tail0 hz) hj2).2⟩
        · have ht := rdT_tail1 hj2 HH.out.2.2.2.2.1 HH.out.2.2.2.2.2
          exact ⟨(R.out.2.2 _ ht hj2).1, by omega, (R.out.2.2 _ ht hj2).2⟩
      · go_simp
        refine (HT2 _).out.mono ?_
        rintro e2 w2 ⟨rfl, he2⟩
        have X := Lib.hid (X.out.trans he2)
        clear he2
        go_wp2_with fail
        refine hK9.out _ _ ?_ (fun hHeld => ?_)
        · exact SX X.out
        clear hK9 K9
        try simp only [List.setIfInBounds_toArray, List.set_cons_succ, List.set_cons_zero]
        have c1 := X.out.cell c1
        refine wpAnyH_ready (rs := [0]) (by kernel_rfl) (by simp) ?_
        refine AllReadyH.cons rfl (fun K9 hK9 => ?_) AllReadyH.nil
        go_simp
        refine hK9.out _ _ ?_ (fun hHeld => ?_)
        · exact SX X.out
        clear hK9 K9
        try simp only [List.setIfInBounds_toArray, List.set_cons_succ, List.set_cons_zero]
        refine wpAnyH_ready (rs := [6]) (by kernel_rfl) (by simp) ?_
        refine AllReadyH.cons rfl (fun K9 hK9 => ?_) AllReadyH.nil
        go_simp
        refine hK9.out _ _ ?_ (fun hHeld => ?_)
        · exact SX (X.out.alloc _)
        clear hK9 K9
        try simp only [List.setIfInBounds_toArray, List.set_cons_succ, List.set_cons_zero]
        have X3 := Lib.hid (X.out.alloc (.cells #[strv S, strv T] 9))
        have HA2 := HA (w2.alloc (.cells #[strv S, strv T] 9)) w2.heap.size (alloc_new w2 _)
        clear HA
        refine wpAnyH_ready (rs := [7]) (by kernel_rfl) (by simp) ?_
        refine AllReadyH.cons rfl (fun K9 hK9 => ?_) AllReadyH.nil
        go_simp
        refine HA2.out.mono ?_
        rintro e3 w3 ⟨rfl, he3⟩
        have X := Lib.hid (X3.out.trans he3)
        clear he3 HA2 X3
        go_wp2_with fail
        refine hK9.out _ _ ?_ (fun hHeld => ?_)
        · exact SX X.out
        clear hK9 K9
        try simp only [List.setIfInBounds_toArray, List.set_cons_succ, List.set_cons_zero]
        have b4 := X.out.blk (show W.drew.heap[w.heap.size + 1]? = some (.cells #[strv (qT l j)] 9) from HH.out.2.1)
        have d1 : w3.cell? ⟨w.heap.size + 1, 0, none⟩ = some (strv (qT l j)) := by rw [cell_blk b4]; rfl
        have f1 : w3.frozen? ⟨w.heap.size + 1, 0, none⟩ = false := free_blk b4 0
        have R := Lib.hid (HFIN w3 X.out)
        clear c1 hx b4
        refine wpAnyH_ready (rs := [8]) (by kernel_rfl) (by simp) ?_
        refine AllReadyH.cons rfl (fun K9 hK9 => ?_) AllReadyH.nil
        go_simp
        refine hK9.out _ _ ?_ (fun hHeld => ?_)
        · exact (SX X.out).set (p := ⟨w.heap.size + 1, 0, none⟩) (.inl rfl) _
        clear hK9 K9 X SX d1 f1
        refine wpAnyH_done (by kernel_rfl) ?_ _
        refine ⟨rfl, ?_⟩
        obtain ⟨w4, hw4⟩ : ∃ w4, w3.setCell ⟨w.heap.size + 1, 0, none⟩ (strv (xorT S T)) = w4 := ⟨_, rfl⟩
        rw [hw4] at R ⊢
        have c0 := R.out.1
        have f0 := R.out.2.1
        gi_wp2
        · have hz : l.length - j = 1 := by have := HH.out.2.2.2.2.1; omega
          exact ⟨(R.out.2.2 _ (rdT_tail0 hz) hj2).1, by omega, (R.out.2.2 _ (rdT_tail0 hz) hj2).2⟩
        · have ht := rdT_tail1 hj2 HH.out.2.2.2.2.1 HH.out.2.2.2.2.2
          exact ⟨(R.out.2.2 _ ht hj2).1, by omega, (R.out.2.2 _ ht hj2).2⟩
  case stop =>
    rintro D c W hD ⟨rfl, hq⟩ hK
    obtain ⟨h1, ⟨v, h2, h3⟩, h4, h5⟩ := hq
    have c1 : W.cell? ⟨w.heap.size + 1, 0, none⟩ = some (strv (qT l l.length)) := by rw [cell_blk h4]; rfl
    have HK := Lib.hid (And.intro hK (And.intro hD h5))
    clear hK hD h2 h3 h4 h5 q0
    gi_wp2
    obtain ⟨hK, hD, hB⟩ := HK.out
    refine ⟨by simp, .inl ⟨_, _, rfl, run_takeDeferred hK, ?_⟩⟩
    exact ⟨_, results_tmp rfl _ _ _, rfl, Below.trans hB (belowK_b (w := w) (Nat.le_refl _) W D _ _ (by omega) hK rfl rfl)⟩

end Go.Proofs.YtdilchcnfnfdiaaGreatDoor
