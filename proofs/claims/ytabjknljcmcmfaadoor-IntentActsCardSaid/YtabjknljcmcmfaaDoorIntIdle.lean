/- Layer 10: Idle: slices.DeleteFunc over Dirty. -/
import Derived.Test.YtabjknljcmcmfaaDoorIntBytes
import Derived.Lib.SliceRun
namespace Go.Proofs.YtabjknljcmcmfaaDoor
open Go.RowKit

/-! ### The function value -/
section
variable {w : World} {m bz rows stain : Nat} {busy : List Int} (h : MapV w m bz rows stain busy)
include h
theorem idle1_walk (b1 v : Nat) (hv : v < regs rows) (h1 : w.cell? ⟨b1, 0, none⟩ = some (ptr m)) :
    Calls Tryd.prog 48 #[num v, ptr b1] w fun e w' => e = .returned (.bool (decide (0 < busy.getD v 0))) ∧ w' = w := by
  have c2 : w.cell? ⟨m, 2, none⟩ = some (.slice (some ⟨bz, 0, none⟩) (regs rows) (regs rows)) := by rw [cell_blk h.blk]; rfl
  have c3 := h.bcell v hv
  have hr64 := regs_le h.row2
  clear h
  generalize busy.getD v 0 = q at c3 ⊢
  go_enter Tryd.func48, Tryd.ntmps48
  go_wp2
  go_ret
  exact ⟨rfl, rfl⟩
end

/-! ### IndexFunc -/
def FirstAt (p : Int → Bool) (xs : List Int) (r : Int) : Prop := (r = -1 ∧ ∀ i, i < xs.length → p (xs.getD i 0) = false) ∨ ∃ k : Nat, k < xs.length ∧ r = (k : Int) ∧ p (xs.getD k 0) = true ∧ ∀ i, i < k → p (xs.getD i 0) = false
/-- A slice from a block's head. -/
def HeadRow (w : World) (A : Option Addr) (xs : List Int) : Prop := ∀ i, i < xs.length → ∃ g, A = some ⟨g, 0, none⟩ ∧ w.cell? ⟨g, i, none⟩ = some (num (xs.getD i 0))
def IdxFRel (p : Int → Bool) (xs : List Int) (w : World) (i : Value) (wr : World) : Prop := ∃ j : Nat, j ≤ xs.length ∧ i = num j ∧ wr = w ∧ ∀ t, t < j → p (xs.getD t 0) = false

theorem indexF_walk (k : FuncId) (c : Value) (A : Option Addr) (cap : Nat) (xs : List Int) (p : Int → Bool) (w : World) (hrun : ∀ args W, (callFunc k args).run Tryd.prog W = .ok (.enter k args) W)
    (hf : ∀ i, i < xs.length → Calls Tryd.prog k #[num (xs.getD i 0), c] w fun e w' => e = .returned (.bool (p (xs.getD i 0))) ∧ w' = w) (hl : xs.length ≤ 64) (hc : HeadRow w A xs) :
    Calls Tryd.prog 49 #[.slice A xs.length cap, .func (.func k) #[] #[c]] w fun e w' => ∃ r : Int, e = .returned (num r) ∧ w' = w ∧ FirstAt p xs r := by
  have HF := Lib.hid hf
  have HC := Lib.hid hc
  clear hf hc
  go_enter Tryd.func49, Tryd.ntmps49
  go_wp2_with fail
  go_loopw [8] (fun i wr => IdxFRel p xs w i wr) (fun i _ => xs.length - (intOf i).toNat)
  case atStart => exact ⟨0, Nat.zero_le _, rfl, rfl, fun t ht => by omega⟩
  case round =>
    obtain ⟨j, hj, rfl, rfl, hb⟩ := hrel
    by_cases hlt : j < xs.length
    · obtain ⟨g, rfl, hcell⟩ := HC.out j hlt
      have HJ := Lib.hid (HF.out j hlt)
      have HB := Lib.hid hb
      obtain ⟨y, hy⟩ : ∃ y, xs.getD j 0 = y := ⟨_, rfl⟩
      have HY := Lib.hid hy
      rw [hy] at HJ hcell
      clear hy hb HC HF
      go_wp2_with fail
      refine HJ.out.mono ?_
      rintro e w1 ⟨rfl, rfl⟩
      clear HJ
      cases hp : p y with
      | true =>
        have HP := Lib.hid hp
        clear hp
        go_wp2_with fail
        go_ret
        exact ⟨_, rfl, rfl, .inr ⟨j, hlt, rfl, by rw [HY.out]; exact HP.out, HB.out⟩⟩
      | false =>
        have HP := Lib.hid hp
        clear hp
        go_wp2_with fail
        go_roundw
        case rel => exact ⟨j + 1, by omega, by go_num, rfl, fun t ht => by
          rcases Nat.lt_or_ge t j with h | h
          · exact HB.out t h
          · obtain rfl : t = j := by omega
            rw [HY.out]; exact HP.out⟩
        case measure => simp [intOf]; omega
    · have HB := Lib.hid hb
      clear hb
      go_wp2_with fail
      go_ret
      exact ⟨_, rfl, rfl, .inl ⟨rfl, fun i hi => HB.out i (by omega)⟩⟩

/-! ### DeleteFunc -/
theorem Keeps.setCells {F : Nat → Prop} {a : World} {g : Nat} (hg : F g ∨ a.heap.size ≤ g) : ∀ (vs : List Value) (o : Nat) (w : World), Keeps F a w → Keeps F a (w.setCells g o vs)
  | [], _, _, h => h
  | v :: r, o, _, h => Keeps.setCells hg r (o + 1) _ (h.set (p := ⟨g, o, none⟩) hg v)
/-- The block g begins with xs. -/
def RowB (w : World) (g : Nat) (xs : List Int) : Prop := ∃ cs, w.heap[g]? = some (.cells cs 3) ∧ ∀ t, t < xs.length → cs[t]? = some (num (xs.getD t 0))
theorem RowB.cell {w : World} {g : Nat} {xs : List Int} (h : RowB w g xs) {t : Nat} (ht : t < xs.length) : w.cell? ⟨g, t, none⟩ = some (num (xs.getD t 0)) ∧ w.frozen? ⟨g, t, none⟩ = false := by
  obtain ⟨cs, h1, h2⟩ := h
  exact ⟨by rw [cell_blk h1, h2 t ht], free_blk h1 t⟩
theorem RowB.set {w : World} {g : Nat} {xs : List Int} (h : RowB w g xs) {i : Nat} (hi : i < xs.length) (v : Int) : RowB (w.setCell ⟨g, i, none⟩ (num v)) g (xs.set i v) := by
  obtain ⟨cs, h1, h2⟩ := h
  refine ⟨_, set_blk h1 i (num v), fun t ht => ?_⟩
  rw [List.length_set] at ht
  rw [Array.getElem?_setIfInBounds]
  by_cases e : i = t
  · subst e
    have : i < cs.size := (Array.getElem?_eq_some_iff.1 (h2 i hi)).1
    rw [if_pos rfl, if_pos this]
    simp [List.getD_eq_getElem?_getD, hi]
  · rw [if_neg e, h2 t ht]
    simp [List.getD_eq_getElem?_getD, List.getElem?_set_ne e]
theorem RowB.head {w : World} {g : Nat} {xs : List Int} (h : RowB w g xs) : HeadRow w (some ⟨g, 0, none⟩) xs := fun _ hi => ⟨g, rfl, (h.cell hi).1⟩
theorem RowB.of_own {w : World} {B g n cap : Nat} {xs : List Int} (h : Own w B (.slice (some ⟨g, 0, none⟩) n cap) xs) : RowB w g xs ∧ n = xs.length ∧ xs.length ≤ cap ∧ cap ≤ maxLen := by
  rcases h.2 with ⟨e, _⟩ | ⟨g', cap', cur, e, hb, hgg, hc, hm, hs, ht⟩
  · cases e
  · injection e with e1 e2 e3
    injection e1 with e1
    injection e1 with e1
    subst e1 e2 e3
    refine ⟨⟨_, hgg, fun t htt => ?_⟩, rfl, hc, hm⟩
    have h1 : (nums xs)[t]? = some (num (xs.getD t 0)) := by simp [nums, htt]
    rw [← ht, List.getElem?_take] at h1
    split at h1
    · simpa using h1
    · cases h1

/-- Behind j elements i are kept. -/
structure Kept (p : Int → Bool) (xs dk : List Int) (i j : Nat) : Prop where
  len : dk.length = xs.length
  lt : i < j
  le : j ≤ xs.length
  high : ∀ t, j ≤ t → dk.getD t 0 = xs.getD t 0
  done : dk.take i = (xs.take j).filter (fun x => !p x)
theorem take_getD {xs : List Int} {j : Nat} (h : j < xs.length) : xs.take (j + 1) = xs.take j ++ [xs.getD j 0] := by
  rw [List.take_succ_eq_append_getElem h]
  simp [List.getD_eq_getElem?_getD, h]
theorem Kept.start {p : Int → Bool} {xs : List Int} {k : Nat} (hk : k < xs.length) (hp : p (xs.getD k 0) = true) (hb : ∀ i, i < k → p (xs.getD i 0) = false) : Kept p xs xs k (k + 1) := by
  refine ⟨rfl, by omega, by omega, fun _ _ => rfl, ?_⟩
  rw [take_getD hk, List.filter_append]
  have h1 : (xs.take k).filter (fun x => !p x) = xs.take k := by
    rw [List.filter_eq_self]
    intro x hx
    obtain ⟨i, hi, rfl⟩ := List.getElem_of_mem hx
    rw [List.length_take] at hi
    have := hb i (by omega)
    rw [List.getD_eq_getElem?_getD, List.getElem?_eq_getElem (by omega)] at this
    rw [List.getElem_take]
    simpa using this
  rw [h1]
  simp only [List.filter_cons, hp]
  simp
theorem Kept.keep {p : Int → Bool} {xs dk : List Int} {i j : Nat} (h : Kept p xs dk i j) (hj : j < xs.length) (hp : p (xs.getD j 0) = false) : Kept p xs (dk.set i (xs.getD j 0)) (i + 1) (j + 1) := by
  obtain ⟨h1, h2, h3, h4, h5⟩ := h
  have hi : i < dk.length := by omega
  refine ⟨by rw [List.length_set]; exact h1, by omega, by omega, fun t ht => ?_, ?_⟩
  · rw [← h4 t (by omega)]
    simp [List.getD_eq_getElem?_getD, List.getElem?_set_ne (show i ≠ t by omega)]
  · rw [take_getD hj, List.filter_append, ← h5, take_getD (by rw [List.length_set]; exact hi)]
    have e1 : (dk.set i (xs.getD j 0)).take i = dk.take i := by rw [List.take_set_of_le (Nat.le_refl _)]
    have e2 : (dk.set i (xs.getD j 0)).getD i 0 = xs.getD j 0 := by rw [List.getD_eq_getElem?_getD, List.getElem?_set_self hi]; rfl
    rw [e1, e2]
    simp only [List.filter_cons, hp]
    simp
theorem Kept.skip {p : Int → Bool} {xs dk : List Int} {i j : Nat} (h : Kept p xs dk i j) (hj : j < xs.length) (hp : p (xs.getD j 0) = true) : Kept p xs dk i (j + 1) := by
  obtain ⟨h1, h2, h3, h4, h5⟩ := h
  refine ⟨h1, by omega, by omega, fun t ht => h4 t (by omega), ?_⟩
  rw [take_getD hj, List.filter_append, ← h5]
  simp only [List.filter_cons, hp]
  simp

def DelRel (p : Int → Bool) (xs : List Int) (g : Nat) (w : World) (a b : Value) (wr : World) : Prop := ∃ (i j : Nat) (dk : List Int), a = num i ∧ b = num j ∧ Kept p xs dk i j ∧ RowB wr g dk ∧ Keeps (fun k => k = g) w wr

set_option maxRecDepth 100000 in
set_option maxHeartbeats 1000000 in
theorem deleteF_walk (k : FuncId) (c : Value) (g cap : Nat) (xs : List Int) (p : Int → Bool) (w : World) (hrun : ∀ args W, (callFunc k args).run Tryd.prog W = .ok (.enter k args) W)
    (hf : ∀ w', Keeps (fun i => i = g) w w' → ∀ i, i < xs.length → Calls Tryd.prog k #[num (xs.getD i 0), c] w' fun e w'' => e = .returned (.bool (p (xs.getD i 0))) ∧ w'' = w') (hl : xs.length ≤ 64) (hcap : xs.length ≤ cap) (hcap2 : cap ≤ maxLen) (hb : RowB w g xs) :
    Calls Tryd.prog 47 #[.slice (some ⟨g, 0, none⟩) xs.length cap, .func (.func k) #[] #[c]] w fun e w' => ∃ v, e = .returned v ∧ RdI w' v (xs.filter (fun x => !p x)) ∧ Keeps (fun i => i = g) w w' := by
  have HI := Lib.hid (indexF_walk k c (some ⟨g, 0, none⟩) cap xs p w hrun (fun i hi => hf w (Keeps.refl _ _) i hi) hl hb.head)
  have HF := Lib.hid hf
  have HB := Lib.hid hb
  have hcm : (cap : Int) ≤ 9223372036854775807 := by unfold maxLen at hcap2; omega
  clear hf hb
  go_enter Tryd.func47, Tryd.ntmps47
  go_wp2_with fail
  refine HI.out.mono ?_
  rintro e w1 ⟨r, rfl, rfl, hr⟩
  clear HI
  rcases hr with ⟨rfl, hall⟩ | ⟨k0, hk0, rfl, hp0, hlow⟩
  · have HA := Lib.hid hall
    clear hall
    go_wp2_with fail
    go_ret
    have hx : xs.filter (fun x => !p x) = xs := by
      rw [List.filter_eq_self]
      intro x hx
      obtain ⟨i, hi, rfl⟩ := List.getElem_of_mem hx
      have := HA.out i hi
      rw [List.getD_eq_getElem?_getD, List.getElem?_eq_getElem hi] at this
      simpa using this
    rw [hx]
    exact ⟨_, rfl, ⟨some ⟨g, 0, none⟩, cap, rfl, hcap, fun i hi => ⟨_, rfl, by rw [zero_add]; exact (HB.out.cell hi).1⟩⟩, Keeps.refl _ _⟩
  · have hne : ((k0 : Int) == -1) = false := by simp
    have K0 := Lib.hid (Kept.start hk0 hp0 hlow)
    clear hp0 hlow
    go_wp2_with fail
    go_loopw [5, 6] (fun a b wr => DelRel p xs g w1 a b wr) (fun _ b _ => xs.length - (intOf b).toNat)
    case atStart => exact ⟨k0, k0 + 1, xs, rfl, by go_num, K0.out, HB.out, Keeps.refl _ _⟩
    case round =>
      clear K0
      obtain ⟨i, j, dk, rfl, rfl, hk, hrow, hkp⟩ := hrel
      have hij := hk.lt
      have hjl := hk.le
      have hdl := hk.len
      by_cases hlt : j < xs.length
      · obtain ⟨cj, -⟩ := hrow.cell (t := j) (by omega)
        obtain ⟨ci, fi⟩ := hrow.cell (t := i) (by omega)
        rw [hk.high j (Nat.le_refl _)] at cj
        have HJ := Lib.hid (HF.out _ hkp j hlt)
        have HK := Lib.hid hk
        have HR := Lib.hid hrow
        have HKP := Lib.hid hkp
        obtain ⟨y, hy⟩ : ∃ y, xs.getD j 0 = y := ⟨_, rfl⟩
        have HY := Lib.hid hy
        have hset := hrow.set (i := i) (by omega) y
        have HS := Lib.hid hset
        have HD := Lib.hid hdl
        rw [hy] at HJ cj
        generalize dk.getD i 0 = old at ci
        clear hk hrow hkp hy hset HF HB hdl
        go_wp2_with fail
        refine HJ.out.mono ?_
        rintro e w2 ⟨rfl, rfl⟩
        clear HJ
        cases hp : p y with
        | true =>
          have HP := Lib.hid hp
          clear hp ci cj fi
          go_wp2_with fail
          go_roundw
          case rel => exact ⟨i, j + 1, dk, rfl, by go_num, HK.out.skip hlt (by rw [HY.out]; exact HP.out), HR.out, HKP.out⟩
          case measure => simp [intOf]; omega
        | false =>
          have HP := Lib.hid hp
          clear hp
          go_wp2_with fail
          go_roundw
          case rel => exact ⟨i + 1, j + 1, dk.set i y, by go_num, by go_num, by rw [← HY.out]; exact HK.out.keep hlt (by rw [HY.out]; exact HP.out), HS.out, HKP.out.set (p := ⟨g, i, none⟩) (.inl rfl) _⟩
          case measure => simp [intOf]; omega
      · obtain rfl : j = xs.length := by omega
        have hcl : ∀ ty, (Builtin.clear_ #[35] ty #[.slice (some ⟨g, i, none⟩) (xs.length - i) (cap - i)]).run Tryd.prog wr = .ok (.tuple #[]) (wr.setCells g i (List.replicate (xs.length - i) (num 0))) := fun ty =>
          Lib.run_clear_slice wr 35 3 ty (num 0) Tryd.uInts (fun _ => by kernel_rfl) rfl rfl g i (xs.length - i) (cap - i) (by omega) (fun t ht => by rw [(hrow.cell (t := i + t) (by omega)).1]; rfl) (fun t ht => (hrow.cell (t := i + t) (by omega)).2)
        have HK := Lib.hid hk
        have HR := Lib.hid hrow
        have HKP := Lib.hid hkp
        clear hk hrow hkp HF HB hdl
        go_wp2_with fail
        go_ret
        have hk := HK.out
        have hdone := hk.done
        rw [List.take_of_length_le (Nat.le_refl _)] at hdone
        have hlen : (xs.filter (fun x => !p x)).length = i := by rw [← hdone, List.length_take, hk.len]; omega
        refine ⟨_, rfl, ⟨some ⟨g, 0, none⟩, cap, by rw [hlen]; rfl, by omega, fun t ht => ⟨_, rfl, ?_⟩⟩, Keeps.setCells (F := fun k => k = g) (.inl rfl) _ _ _ HKP.out⟩
        have ht' : t < i := by omega
        rw [zero_add, World.cell?_setCells_out g _ i wr _ (fun _ _ => .inl ht'), (HR.out.cell (t := t) (by have := hk.len; omega)).1, ← hdone]
        simp [List.getD_eq_getElem?_getD, ht']

theorem deleteF_nil (k : FuncId) (c : Value) (w : World) (hrun : ∀ args W, (callFunc k args).run Tryd.prog W = .ok (.enter k args) W) :
    Calls Tryd.prog 47 #[.slice none 0 0, .func (.func k) #[] #[c]] w fun e w' => e = .returned (.slice none 0 0) ∧ w' = w := by
  have HI := Lib.hid (indexF_walk k c none 0 [] (fun _ => false) w hrun (fun i hi => by simp at hi) (by simp) (fun i hi => by simp at hi))
  go_enter Tryd.func47, Tryd.ntmps47
  go_wp2_with fail
  refine HI.out.mono ?_
  rintro e w1 ⟨r, rfl, rfl, hr⟩
  clear HI
  rcases hr with ⟨rfl, -⟩ | ⟨k0, hk0, -⟩
  · go_wp2_with fail
    go_ret
    exact ⟨rfl, rfl⟩
  · simp at hk0

/-! ### Idle -/
def idleL (x : Nat) (busy : List Int) : List Int := (bitsI x).filter fun v => !decide (0 < busy.getD v.toNat 0)
theorem bitsI_at {x : Nat} {i : Nat} (hi : i < (bitsI x).length) : ∃ v : Nat, (bitsI x).getD i 0 = (v : Int) ∧ v < 64 ∧ x.testBit v = true := by
  unfold bitsI at hi ⊢
  rw [List.length_map] at hi
  refine ⟨(bitsOf x)[i], ?_, ?_, ?_⟩
  · simp [List.getD_eq_getElem?_getD, hi]
  · have := List.getElem_mem hi
    simp only [bitsOf, List.mem_filter, List.mem_range] at this
    exact this.1
  · have := List.getElem_mem hi
    simp only [bitsOf, List.mem_filter, List.mem_range] at this
    exact this.2

section
variable {w : World} {m bz rows stain : Nat} {busy : List Int} (h : MapV w m bz rows stain busy)
include h
set_option maxRecDepth 100000 in
theorem idle_walk (hx : stain < 2 ^ regs rows) (ht : Tab 0 w) :
    Calls Tryd.prog 40 #[ptr m] w fun e W' => ∃ v, e = .returned v ∧ RdI W' v (idleL stain busy) ∧ Ext w W' := by
  have e1 := (Ext.refl w).alloc (.cells #[ptr m] 22)
  have b1 := alloc_new w (.cells #[ptr m] 22)
  have hm := h.lt
  have HD := Lib.hid (dirty_walk (h.ext e1) (ht.ext e1) (by have := e1.size; omega))
  have H1 := Lib.hid (h.ext e1)
  have E1 := Lib.hid e1
  have B1 := Lib.hid b1
  have hc1 : (w.alloc (.cells #[ptr m] 22)).cell? ⟨w.heap.size, 0, none⟩ = some (ptr m) := by rw [cell_blk b1]; rfl
  have HS := Lib.hid (size_alloc w (.cells #[ptr m] 22))
  clear e1 b1 ht h
  generalize hw1 : w.alloc (.cells #[ptr m] 22) = w1 at HD H1 E1 B1 hc1 HS
  have W1 := Lib.hid hw1
  clear hw1
  go_enter Tryd.func40, Tryd.ntmps40
  go_wp2_with fail
  rw [W1.out]
  go_wp2_with fail
  refine HD.out.mono ?_
  rintro e w2 ⟨v, rfl, hv, e2⟩
  have hl := bitsI_len stain
  rcases hv.2 with ⟨rfl, hn⟩ | ⟨g, cap, cur, rfl, hgb, hgg, hc, hcm, hcs, htk⟩
  · have hnil : bitsI stain = [] := List.eq_nil_of_length_eq_zero hn
    have HDel := Lib.hid (deleteF_nil 48 (ptr w.heap.size) w2 (Tryd.runs _ Tryd.func48 (by kernel_rfl) rfl))
    have E2 := Lib.hid (E1.out.trans e2)
    have HNil := Lib.hid hnil
    clear hv e2 HD hnil hn hl
    go_wp2_with fail
    refine HDel.out.mono ?_
    rintro e w3 ⟨rfl, rfl⟩
    clear HDel
    go_wp2_with fail
    go_ret
    exact ⟨_, rfl, by rw [idleL, HNil.out]; exact Rd.nil _ _ _, E2.out⟩
  · have HDel := Lib.hid (deleteF_walk 48 (ptr w.heap.size) g cap (bitsI stain) (fun v => decide (0 < busy.getD v.toNat 0)) w2 (Tryd.runs _ Tryd.func48 (by kernel_rfl) rfl)
      (fun w' kk i hi => by
        obtain ⟨v, hv', hv64, hvb⟩ := bitsI_at hi
        have hvr : v < regs rows := by
          rcases Nat.lt_or_ge v (regs rows) with h | h
          · exact h
          · rw [Nat.testBit_lt_two_pow (Nat.lt_of_lt_of_le hx (Nat.pow_le_pow_right (n := 2) (show 0 < 2 by decide) h))] at hvb
            cases hvb
        rw [hv']
        have hm2 := (H1.out.ext e2).keep kk (fun e => by have := HS.out; omega) (fun e => by have := HS.out; omega)
        have := idle1_walk hm2 w.heap.size v hvr (by
          rw [cell_blk (kk.blk (e2.blk B1.out) (fun e => by have := HS.out; omega))]; rfl)
        simpa using this)
      hl hc hcm (RowB.of_own hv).1)
    have E2 := Lib.hid (E1.out.trans e2)
    have HG := Lib.hid (show w.heap.size ≤ g by have := HS.out; omega)
    clear hv hgb hgg hc hcm hcs htk e2 HD
    go_wp2_with fail
    refine HDel.out.mono ?_
    rintro e w3 ⟨v, rfl, hv, kk⟩
    have R := Lib.hid hv
    have K := Lib.hid (E2.out.keeps kk (fun i hi => by have := HG.out; omega))
    clear HDel hv kk
    go_wp2_with fail
    go_ret
    exact ⟨_, rfl, R.out, K.out⟩
end

end Go.Proofs.YtabjknljcmcmfaaDoor
