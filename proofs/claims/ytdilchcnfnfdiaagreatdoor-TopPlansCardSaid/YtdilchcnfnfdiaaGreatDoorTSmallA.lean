/- alive, Index, Contains, Rows, Clone of drives. Clone, DeleteFunc of drives. -/
import Derived.Test.YtdilchcnfnfdiaaGreatDoorTRepeat
namespace Go.Proofs.YtdilchcnfnfdiaaGreatDoor
open Go.RowKit

theorem Calm.dead {w : World} {d sf m sp n lim : Nat} {safe : Nat → Sec} {bad : Int → Bool} (h : Calm w d sf m sp n lim safe bad) : Calls Tryz.prog 45 #[ptr d] w fun e w' => e = .returned (.bool false) ∧ w' = w := dead_walk h.pend
theorem alive_walk {w : World} {x : DB} {n L : Nat} (h : x.Calm w n L) : Calls Tryz.prog 69 #[x.val] w fun e w' => e = .returned (.bool true) ∧ w' = w := by
  obtain ⟨lim, safe, bad, hl, hc⟩ := h
  have HD := Lib.hid hc.dead
  clear hc
  go_enter Tryz.func69, Tryz.ntmps69
  go_wp2_with fail
  refine HD.out.mono ?_
  rintro e w' ⟨rfl, rfl⟩
  clear HD
  go_wp2_with fail
  go_ret
  exact ⟨rfl, rfl⟩
theorem sectors_of {w : World} {x : DB} {n L : Nat} (h : x.Calm w n L) : Calls Tryz.prog 72 #[x.val] w fun e w' => e = .returned (num n) ∧ w' = w := by
  obtain ⟨lim, safe, bad, hl, hc⟩ := h
  exact sectors_walk hc.pend
theorem rows_walk (w : World) (s c : Nat) (hs : 4 ≤ s) (hs2 : s ≤ 4096) (h1 : 1 ≤ c) (h2 : c ≤ 4) : Calls Tryz.prog 71 #[num s, num c] w fun e w' => e = .returned (num ((min (s - 4) (256 * c) / c : Nat))) ∧ w' = w := by
  have q1 : (4 : Int) ≤ s := by omega
  have q2 : (s : Int) ≤ 4096 := by omega
  have q3 : (1 : Int) ≤ c := by omega
  have q4 : (c : Int) ≤ 4 := by omega
  go_enter Tryz.func71, Tryz.ntmps71
  go_wp2_with fail
  go_ret
  have e : min (max (s : Int) 4 - 4) (256 * (c : Int)) / (c : Int) = ((min (s - 4) (256 * c) / c : Nat) : Int) := by
    rw [Int.natCast_ediv]
    congr 1
    omega
  exact ⟨by rw [e]; rfl, rfl⟩

def IndexRel (w : World) (k : Nat) (i : Value) (wr : World) : Prop := ∃ j : Nat, j ≤ k ∧ i = num j ∧ wr = w
theorem index_walk (w : World) (A : Option Addr) (cap : Nat) (xs : List Nat) (d : Nat) (hl : xs.length ≤ 1000) (hx : ∀ i, i < xs.length → ∃ x, A = some x ∧ w.cell? (x.add i) = some (ptr (xs.getD i 0)))
    (hne : ∀ b ∈ xs, b ≠ d ∧ ∃ ca ta, w.heap[b]? = some (.cells ca ta (0, 0))) (hd : ∃ ca ta, w.heap[d]? = some (.cells ca ta (0, 0))) :
    Calls Tryz.prog 107 #[.slice A xs.length cap, ptr d] w fun e w' => e = .returned (num (-1)) ∧ w' = w := by
  have hli : (xs.length : Int) ≤ 1000 := by omega
  have HX := Lib.hid hx
  have HN := Lib.hid hne
  have HD := Lib.hid hd
  clear hx hne hd
  go_enter Tryz.func107, Tryz.ntmps107
  go_wp2_with fail
  go_loopw [8] (fun i wr => IndexRel w xs.length i wr) (fun i _ => xs.length - (intOf i).toNat)
  case atStart => exact ⟨0, Nat.zero_le _, rfl, rfl⟩
  case round =>
    obtain ⟨j, hj, rfl, rfl⟩ := hrel
    by_cases hlt : j < xs.length
    · obtain ⟨x, rfl, hc⟩ := HX.out j hlt
      have hm : xs.getD j 0 ∈ xs := by
        rw [List.getD_eq_getElem?_getD, List.getElem?_eq_getElem hlt]
        exact List.getElem_mem hlt
      obtain ⟨b, hb⟩ : ∃ b, xs.getD j 0 = b := ⟨_, rfl⟩
      rw [hb] at hc hm
      obtain ⟨hbd, ca, ta, hcb⟩ := HN.out b hm
      obtain ⟨ca2, ta2, hcd⟩ := HD.out
      obtain ⟨ti, hti, hsz⟩ : ∃ ti, Tryz.prog.info? 95 = some ti ∧ ti.size ≠ 0 := by
        have h : (Tryz.prog.info? 95).map (fun i => i.size) = some 6 := by kernel_rfl
        cases hq : Tryz.prog.info? 95 with
        | none => rw [hq] at h; cases h
        | some ti => rw [hq] at h; exact ⟨ti, rfl, by injection h with h; rw [show ti.size = 6 from h]; decide⟩
      have heq := eql_other (w := wr) Tryz.uDrv hti hsz (fun e => hbd e.symm) hcd hcb
      clear hcb hcd hbd hm hb
      go_wp2_with fail
      go_roundw
      case rel => exact ⟨j + 1, by omega, by go_num, rfl⟩
      case measure => simp [intOf]; omega
    · obtain rfl : j = xs.length := by omega
      go_wp2_with fail
      go_ret
      exact ⟨rfl, rfl⟩
theorem contains_walk (w : World) (A : Option Addr) (cap : Nat) (xs : List Nat) (d : Nat) (hl : xs.length ≤ 1000) (hx : ∀ i, i < xs.length → ∃ x, A = some x ∧ w.cell? (x.add i) = some (ptr (xs.getD i 0)))
    (hne : ∀ b ∈ xs, b ≠ d ∧ ∃ ca ta, w.heap[b]? = some (.cells ca ta (0, 0))) (hd : ∃ ca ta, w.heap[d]? = some (.cells ca ta (0, 0))) :
    Calls Tryz.prog 70 #[.slice A xs.length cap, ptr d] w fun e w' => e = .returned (.bool false) ∧ w' = w := by
  have HI := Lib.hid (index_walk w A cap xs d hl hx hne hd)
  clear hx hne hd
  go_enter Tryz.func70, Tryz.ntmps70
  go_wp2_with fail
  refine HI.out.mono ?_
  rintro e w' ⟨rfl, rfl⟩
  clear HI
  go_wp2_with fail
  go_ret
  exact ⟨rfl, rfl⟩

end Go.Proofs.YtdilchcnfnfdiaaGreatDoor
namespace Go.Proofs.YtdilchcnfnfdiaaGreatDoor
open Go.RowKit

theorem slice_nil (w : World) (x : Addr) (n c : Nat) : (binOp .eql 82 (.slice (some x) n c) (.slice none 0 0)).run Tryz.prog w = .ok (.bool false) w := by
  have h : ∀ d : Nat, (Op.equalIn (d + 1) 82 (.slice (some x) n c) (.slice none 0 0)).run Tryz.prog w = .ok false w := fun d => by
    simp [Op.equalIn, run_underlying Tryz.uPtrs]
  simp only [binOp]
  simp [Op.equal, Op.maxDepth, h 9999]

set_option maxRecDepth 100000 in
theorem clone_walk (w : World) (x : Addr) (cap : Nat) (ds : List DB) (hne : ds ≠ []) (hl : ds.length ≤ 1000) (hc : ∀ i, i < ds.length → w.cell? (x.add i) = some (ds.getD i DB.zero).val) :
    Calls Tryz.prog 74 #[.slice (some x) ds.length cap] w fun e w' => ∃ v, e = .returned v ∧ OwnM 36 DB.val w' w.heap.size v ds ∧ Ext w w' := by
  obtain ⟨i, hi, hz0, hz1, hz2⟩ := info_parts Tryz.iPtr
  have h0 := OwnM.lit (B := w.heap.size) (t := 36) (f := DB.val) w [] (Nat.le_refl _) (Nat.zero_le _)
  have hlen : 0 < ds.length := List.length_pos_iff.2 hne
  have hc' : ∀ j u, (ds.map DB.val)[j]? = some u → (w.alloc (.cells #[] 36)).cell? (x.add j) = some u := by
    intro j u hu
    have hj : j < ds.length := by
      have := (List.getElem?_eq_some_iff.1 hu).1
      simpa using this
    rw [((Ext.refl w).alloc _).cell (hc j hj)]
    rw [← hu]
    simp [hj]
  have H := Lib.hid (And.intro hi (And.intro hz0 (And.intro hz1 (And.intro hz2 (And.intro h0 hc')))))
  have HE := Lib.hid ((Ext.refl w).alloc (.cells #[] 36))
  have hsn := fun W => slice_nil W x ds.length cap
  clear hi hz0 hz1 hz2 h0 hc' hc
  go_enter Tryz.func74, Tryz.ntmps74
  go_wp2_with (at_builtin; refine wpList_append_lies _ rfl _ _ 82 rfl w.heap.size 36 i (.pointer none) 1 8 Tryz.uPtrs H.out.1 H.out.2.1 H.out.2.2.1 H.out.2.2.2.1 rfl (by decide) (.slice (some ⟨w.heap.size, 0, none⟩) 0 0) 0 [] rfl H.out.2.2.2.2.1 x ds.length cap (ds.map DB.val) rfl (by simp) H.out.2.2.2.2.2 (fun u hu => by obtain ⟨y, _, rfl⟩ := List.mem_map.1 hu; rfl) hlen (by unfold maxLen; omega) (by omega) (by rw [size_alloc]; omega) _ rfl ?_; intro g cap2 w' h1 h2 h3 h4; have R := Lib.hid (And.intro h1 h2); clear h1 h2 h3 h4 H)
  go_ret
  obtain ⟨r1, r2⟩ := R.out
  rw [Nat.zero_add, List.nil_append] at r1
  refine ⟨_, rfl, ?_, HE.out.keeps (Keeps.of_grownV r2) (fun b hb => Nat.le_of_eq (by simpa [Value.ownBlock] using hb))⟩
  exact r1

theorem members1_walk {w : World} {x : DB} {n L : Nat} (h : x.Calm w n L) : Calls Tryz.prog 149 #[x.val] w fun e w' => e = .returned (.bool false) ∧ w' = w := by
  have HA := Lib.hid (alive_walk h)
  clear h
  go_enter Tryz.func149, Tryz.ntmps149
  go_wp2_with fail
  refine HA.out.mono ?_
  rintro e w' ⟨rfl, rfl⟩
  clear HA
  go_wp2_with fail
  go_ret
  exact ⟨rfl, rfl⟩

set_option maxRecDepth 100000 in
theorem indexf_walk (w : World) (A : Option Addr) (cap : Nat) (ds : List DB) (n L : Nat) (hl : ds.length ≤ 1000) (hx : ∀ i, i < ds.length → ∃ x, A = some x ∧ w.cell? (x.add i) = some (ds.getD i DB.zero).val) (hc : ∀ x ∈ ds, x.Calm w n L) :
    Calls Tryz.prog 169 #[.slice A ds.length cap, .func (.func 149) #[] #[]] w fun e w' => e = .returned (num (-1)) ∧ w' = w := by
  have hli : (ds.length : Int) ≤ 1000 := by omega
  have HX := Lib.hid hx
  have HC := Lib.hid hc
  clear hx hc
  go_enter Tryz.func169, Tryz.ntmps169
  go_wp2_with fail
  go_loopw [8] (fun i wr => IndexRel w ds.length i wr) (fun i _ => ds.length - (intOf i).toNat)
  case atStart => exact ⟨0, Nat.zero_le _, rfl, rfl⟩
  case round =>
    obtain ⟨j, hj, rfl, rfl⟩ := hrel
    by_cases hlt : j < ds.length
    · obtain ⟨x, rfl, hcl⟩ := HX.out j hlt
      have hm : ds.getD j DB.zero ∈ ds := by
        rw [List.getD_eq_getElem?_getD, List.getElem?_eq_getElem hlt]
        exact List.getElem_mem hlt
      obtain ⟨y, hy⟩ : ∃ y, ds.getD j DB.zero = y := ⟨_, rfl⟩
      rw [hy] at hcl hm
      have HM := Lib.hid (members1_walk (HC.out _ hm))
      clear hm hy
      go_wp2_with fail
      refine HM.out.mono ?_
      rintro e w' ⟨rfl, rfl⟩
      clear HM
      go_wp2_with fail
      go_roundw
      case rel => exact ⟨j + 1, by omega, by go_num, rfl⟩
      case measure => simp [intOf]; omega
    · obtain rfl : j = ds.length := by omega
      go_wp2_with fail
      go_ret
      exact ⟨rfl, rfl⟩
set_option maxRecDepth 100000 in
theorem deletef_walk (w : World) (A : Option Addr) (cap : Nat) (ds : List DB) (n L : Nat) (hl : ds.length ≤ 1000) (hx : ∀ i, i < ds.length → ∃ x, A = some x ∧ w.cell? (x.add i) = some (ds.getD i DB.zero).val) (hc : ∀ x ∈ ds, x.Calm w n L) :
    Calls Tryz.prog 148 #[.slice A ds.length cap, .func (.func 149) #[] #[]] w fun e w' => e = .returned (.slice A ds.length cap) ∧ w' = w := by
  have HI := Lib.hid (indexf_walk w A cap ds n L hl hx hc)
  clear hx hc
  go_enter Tryz.func148, Tryz.ntmps148
  go_wp2_with fail
  refine HI.out.mono ?_
  rintro e w' ⟨rfl, rfl⟩
  clear HI
  go_wp2_with fail
  go_ret
  exact ⟨rfl, rfl⟩

end Go.Proofs.YtdilchcnfnfdiaaGreatDoor
