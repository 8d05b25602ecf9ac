/- Layer 15: the four ways; what each reads, and whether it can be gone. -/
import Derived.Test.YtdilchcnfnfdiaaGreatDoorTPRoles
namespace Go.Proofs.YtdilchcnfnfdiaaGreatDoor
open Go.RowKit

/-! ### Contains, of bools and by a function -/
def IdxRel (w : World) (p : Nat → Bool) (m : Nat) (i : Value) (wr : World) : Prop := ∃ k : Nat, k ≤ m ∧ i = num k ∧ (∀ j < k, p j = false) ∧ wr = w
def IdxOut (p : Nat → Bool) (m : Nat) (e : Ending) : Prop := ∃ z : Int, e = .returned (num z) ∧ decide (z ≥ 0) = (List.range m).any p
theorem any_not {p : Nat → Bool} {m : Nat} (h : ∀ j < m, p j = false) : (List.range m).any p = false := by
  rw [List.any_eq_false]
  intro x hx
  rw [h x (List.mem_range.1 hx)]
  simp
theorem any_yes {p : Nat → Bool} {m k : Nat} (hk : k < m) (h : p k = true) : (List.range m).any p = true := List.any_eq_true.2 ⟨k, List.mem_range.2 hk, h⟩

set_option maxRecDepth 100000 in
theorem index_walkP {w : World} {v : Value} {xs : List Bool} (h : RdB w v xs) (hl : xs.length ≤ 1048576) (b : Bool) :
    Calls Tryz.prog 96 #[v, .bool b] w fun e w' => IdxOut (fun i => b == xs.getD i false) xs.length e ∧ w' = w := by
  obtain ⟨A, cap, rfl, hc, hA⟩ := h
  have HA := Lib.hid hA
  clear hA
  go_enter Tryz.func96, Tryz.ntmps96
  go_wp2
  go_loopw [8] (fun i wr => IdxRel w (fun i => b == xs.getD i false) xs.length i wr) (fun i _ => xs.length - (intOf i).toNat)
  case atStart => exact ⟨0, Nat.zero_le _, rfl, by simp, rfl⟩
  case round =>
    obtain ⟨k, hk, rfl, ht, rfl⟩ := hrel
    have HT := Lib.hid ht
    clear ht
    by_cases hlt : k < xs.length
    · obtain ⟨g, rfl, hcell⟩ := HA.out k hlt
      clear HA
      cases e : (b == xs.getD k false) with
      | false =>
        have HS := Lib.hid (show ∀ j < k + 1, (b == xs.getD j false) = false from fun j hj => by
          rcases Nat.lt_or_eq_of_le (Nat.le_of_lt_succ hj) with h | rfl
          · exact HT.out j h
          · exact e)
        generalize xs.getD k false = z at hcell e
        clear HT
        go_wp2
        go_roundw
        case rel => exact ⟨k + 1, by omega, by go_num, HS.out, rfl⟩
        case measure => simp [intOf]; omega
      | true =>
        have HS := Lib.hid (any_yes (p := fun i => b == xs.getD i false) hlt e)
        generalize xs.getD k false = z at hcell e
        clear HT
        go_wp2
        go_ret
        exact ⟨⟨_, rfl, by rw [HS.out]; simp⟩, rfl⟩
    · obtain rfl : k = xs.length := by omega
      have HS := Lib.hid (any_not HT.out)
      clear HT HA
      go_wp2
      go_ret
      exact ⟨⟨_, rfl, by rw [HS.out]; rfl⟩, rfl⟩

theorem contains_walkP {w : World} {v : Value} {xs : List Bool} (h : RdB w v xs) (hl : xs.length ≤ 1048576) (b : Bool) :
    Calls Tryz.prog 59 #[v, .bool b] w fun e w' => e = .returned (.bool ((List.range xs.length).any fun i => b == xs.getD i false)) ∧ w' = w := by
  have HI := Lib.hid (index_walkP h hl b)
  clear h
  go_enter Tryz.func59, Tryz.ntmps59
  go_wp2_with fail
  refine HI.out.mono ?_
  rintro e w' ⟨⟨z, rfl, hz⟩, rfl⟩
  have HZ := Lib.hid hz
  clear hz HI
  go_wp2
  go_ret
  exact ⟨by rw [← HZ.out]; rfl, rfl⟩

/-- A function of an int, by its number and what it captured. -/
structure TellsI (k : FuncId) (c : Value) (p : Int → Bool) (xs : List Int) (w : World) : Prop where
  run : ∀ args W, (callFunc k args).run Tryz.prog W = .ok (.enter k args) W
  out : ∀ i < xs.length, Calls Tryz.prog k #[num (xs.getD i 0), c] w fun e W' => e = .returned (.bool (p (xs.getD i 0))) ∧ W' = w

set_option maxRecDepth 100000 in
theorem indexf_walkP {w : World} {v : Value} {xs : List Int} (h : RdI w v xs) (hl : xs.length ≤ 1048576) (k : FuncId) (c : Value) (p : Int → Bool) (hf : TellsI k c p xs w) :
    Calls Tryz.prog 160 #[v, .func (.func k) #[] #[c]] w fun e w' => IdxOut (fun i => p (xs.getD i 0)) xs.length e ∧ w' = w := by
  obtain ⟨A, cap, rfl, hc, hA⟩ := h
  have HA := Lib.hid hA
  have HF := Lib.hid hf.out
  have hrun := hf.run
  clear hA hf
  go_enter Tryz.func160, Tryz.ntmps160
  go_wp2
  go_loopw [8] (fun i wr => IdxRel w (fun i => p (xs.getD i 0)) xs.length i wr) (fun i _ => xs.length - (intOf i).toNat)
  case atStart => exact ⟨0, Nat.zero_le _, rfl, by simp, rfl⟩
  case round =>
    obtain ⟨k, hk, rfl, ht, rfl⟩ := hrel
    have HT := Lib.hid ht
    clear ht
    by_cases hlt : k < xs.length
    · obtain ⟨g, rfl, hcell⟩ := HA.out k hlt
      have HC := Lib.hid (HF.out k hlt)
      clear HA HF
      cases e : p (xs.getD k 0) with
      | false =>
        have HS := Lib.hid (show ∀ j < k + 1, p (xs.getD j 0) = false from fun j hj => by
          rcases Nat.lt_or_eq_of_le (Nat.le_of_lt_succ hj) with h | rfl
          · exact HT.out j h
          · exact e)
        generalize xs.getD k 0 = z at hcell e HC
        clear HT
        go_wp2_with fail
        refine HC.out.mono ?_
        rintro e' w' ⟨rfl, rfl⟩
        rw [e]
        clear HC
        go_wp2
        go_roundw
        case rel => exact ⟨k + 1, by omega, by go_num, HS.out, rfl⟩
        case measure => simp [intOf]; omega
      | true =>
        have HS := Lib.hid (any_yes (p := fun i => p (xs.getD i 0)) hlt e)
        generalize xs.getD k 0 = z at hcell e HC
        clear HT
        go_wp2_with fail
        refine HC.out.mono ?_
        rintro e' w' ⟨rfl, rfl⟩
        rw [e]
        clear HC
        go_wp2
        go_ret
        exact ⟨⟨_, rfl, by rw [HS.out]; simp⟩, rfl⟩
    · obtain rfl : k = xs.length := by omega
      have HS := Lib.hid (any_not HT.out)
      clear HT HA HF
      go_wp2
      go_ret
      exact ⟨⟨_, rfl, by rw [HS.out]; rfl⟩, rfl⟩

theorem containsf_walk {w : World} {v : Value} {xs : List Int} (h : RdI w v xs) (hl : xs.length ≤ 1048576) (k : FuncId) (c : Value) (p : Int → Bool) (hf : TellsI k c p xs w) :
    Calls Tryz.prog 135 #[v, .func (.func k) #[] #[c]] w fun e w' => e = .returned (.bool ((List.range xs.length).any fun i => p (xs.getD i 0))) ∧ w' = w := by
  have HI := Lib.hid (indexf_walkP h hl k c p hf)
  clear h hf
  go_enter Tryz.func135, Tryz.ntmps135
  go_wp2_with fail
  refine HI.out.mono ?_
  rintro e w' ⟨⟨z, rfl, hz⟩, rfl⟩
  have HZ := Lib.hid hz
  clear hz HI
  go_wp2
  go_ret
  exact ⟨by rw [← HZ.out]; rfl, rfl⟩

/-! ### The ways -/
def isBlind (n : Nat) (ls : List Bool) : Bool := ls.getD n false && ls.getD (n + 1) false
/-- The roles that are wanted by a function of a role. -/
def wants (n : Nat) (f : Bool → Nat → Bool) : List Int := sel (n + 2) fun i => f (decide (i < n)) i
def wayL (n : Nat) (ws ls : List Bool) : Nat → List Int
  | 2 => if isBlind n ls = true then [] else wants n (keepP ws ls)
  | 3 => wants n (restP ws)
  | 4 => wants n (fun _ i => !ls.getD i false)
  | _ => []
def wayB (n : Nat) (ws ls : List Bool) : Nat → Bool
  | 1 => !(List.range ws.length).any fun i => false == ws.getD i false
  | 2 => isBlind n ls || decide ((wants n (goneP ws ls)).length = 0)
  | 3 => !(List.range (wants n (restP ws)).length).any fun i => ls.getD ((wants n (restP ws)).getD i 0).toNat false
  | _ => true
/-- What a way answers, when it is called with a row. -/
def Answers (n : Nat) (ws ls : List Bool) (way : Nat) (w : World) (e : Ending) (w' : World) : Prop :=
  ∃ v, e = .returned (.tuple #[v, .bool (wayB n ws ls way)]) ∧ Own w' w.heap.size v (wayL n ws ls way) ∧ Ext w w'

theorem Tryz.runsP (k : FuncId) {fn : Func} {c : Code} (hf : Tryz.prog.funcs[k]? = some fn) (hname : (fn.name == "runtime.NumGoroutine") = false) (hb : fn.body = some c) : ∀ args W, (callFunc k args).run Tryz.prog W = .ok (.enter k args) W := fun args w => Go.MuLone.run_callFunc_enter (P := Tryz.prog) hf hname hb args w

section
variable {w : World} {n : Nat} {wv lv : Value} {ws ls : List Bool} (r : RowV w n wv lv ws ls)
include r

theorem Tells.of (k : FuncId) (f : Bool → Nat → Bool) (b : Nat) (hrun : ∀ args W, (callFunc k args).run Tryz.prog W = .ok (.enter k args) W) (w1 : World) (hb : w1.heap[b]? = some (rowObj n wv lv)) (e1 : Ext w w1)
    (h : ∀ W i, W.heap[b]? = some (rowObj n wv lv) → RowV W n wv lv ws ls → i < n + 2 → Calls Tryz.prog k #[num i, .bool (decide (i < n)), ptr b] W fun e w' => e = .returned (.bool (f (decide (i < n)) i)) ∧ w' = W) :
    Tells k (ptr b) n (fun i => f (decide (i < n)) i) w1 := ⟨hrun, fun i hi W hW => h W i (hW.blk hb) (r.ext (e1.trans hW)) hi⟩

structure Boxed (w : World) (n : Nat) (wv lv : Value) (ws ls : List Bool) (w1 : World) : Prop where
  blk : w1.heap[w.heap.size]? = some (rowObj n wv lv)
  row : RowV w1 n wv lv ws ls
  ext : Ext w w1
  c0 : w1.cell? ⟨w.heap.size, 0, none⟩ = some (num n)
  c1 : w1.cell? ⟨w.heap.size, 1, none⟩ = some wv
  c2 : w1.cell? ⟨w.heap.size, 2, none⟩ = some lv
theorem boxed : Boxed w n wv lv ws ls (w.alloc (.cells #[num n, wv, lv] 122)) :=
  ⟨alloc_new w _, r.ext ((Ext.refl w).alloc _), (Ext.refl w).alloc _, by rw [cell_blk (alloc_new w _)]; rfl, by rw [cell_blk (alloc_new w _)]; rfl, by rw [cell_blk (alloc_new w _)]; rfl⟩

set_option maxRecDepth 100000 in
theorem full_walk : Calls Tryz.prog 97 #[.agg #[num n, wv, lv]] w (Answers n ws ls 1 w) := by
  have hl : ws.length ≤ 1048576 := by rw [r.wl]; have := r.n8; omega
  have BX := Lib.hid (boxed r)
  clear r
  go_enter Tryz.func97, Tryz.ntmps97
  go_wp2_with fail
  generalize w.alloc (.cells #[num n, wv, lv] 122) = w1 at BX ⊢
  have HB := Lib.hid (contains_walkP BX.out.row.wr hl false)
  have c1 := BX.out.c1
  clear hl
  go_wp2_with fail
  refine HB.out.mono ?_
  rintro e w' ⟨rfl, rfl⟩
  clear HB
  generalize hz : (List.range ws.length).any (fun i => false == ws.getD i false) = z
  have HZ := Lib.hid hz
  clear hz
  go_wp2
  go_ret2
  exact ⟨_, by rw [← HZ.out]; rfl, Own.nil _ _, BX.out.ext⟩

set_option maxRecDepth 100000 in
theorem whole_walk : Calls Tryz.prog 100 #[.agg #[num n, wv, lv]] w (Answers n ws ls 4 w) := by
  have n8 := r.n8
  have BX := Lib.hid (boxed r)
  clear r
  go_enter Tryz.func100, Tryz.ntmps100
  go_wp2_with fail
  generalize w.alloc (.cells #[num n, wv, lv] 122) = w1 at BX ⊢
  have HT := Lib.hid (roles_any _ _ n wv lv _ w1 n8 (Tells.of BX.out.row 137 (fun _ i => !ls.getD i false) w.heap.size (Tryz.runsP _ Tryz.func137 (by kernel_rfl) rfl) _ BX.out.blk (Ext.refl _) (fun W i hW hr hi => whole1_walk hW hr i _ hi)))
  have c0 := BX.out.c0
  have c1 := BX.out.c1
  have c2 := BX.out.c2
  clear n8
  go_wp2_with fail
  refine HT.out.mono ?_
  rintro e w' ⟨v, rfl, hv, he⟩
  have HV := Lib.hid hv
  have HE := Lib.hid he
  clear hv he HT c0 c1 c2
  go_wp2
  go_ret2
  exact ⟨_, rfl, HV.out.mono BX.out.ext.size, BX.out.ext.trans HE.out⟩

theorem blind_walk : Calls Tryz.prog 131 #[.agg #[num n, wv, lv]] w fun e w' => e = .returned (.bool (isBlind n ls)) ∧ Ext w w' := by
  have BX := Lib.hid (boxed r)
  have hl := r.ll
  have n8 := r.n8
  obtain ⟨A, cap, hv, hc, hA⟩ := r.lo
  obtain ⟨x, rfl, h1⟩ := hA n (by omega)
  obtain ⟨x', hx, h2⟩ := hA (n + 1) (by omega)
  obtain rfl : x = x' := by injection hx
  clear r
  subst hv
  have hl1 : n < ls.length := by omega
  have hl2 : n + 1 < ls.length := by omega
  have hl3 : ls.length ≤ 10 := by omega
  have H1 := Lib.hid h1
  have H2 := Lib.hid h2
  clear hA hx hl h1 h2
  have HB := Lib.hid (show isBlind n ls = (ls.getD n false && ls.getD (n + 1) false) from rfl)
  generalize ls.getD n false = p at H1 HB
  generalize ls.getD (n + 1) false = q at H2 HB
  have h1 := BX.out.ext.cell H1.out
  have h2 := BX.out.ext.cell H2.out
  rw [show x.add (n + 1) = ⟨x.block, x.off + (n + 1), none⟩ by simp [Addr.add]] at h2
  have R := Lib.hid BX.out.ext
  clear BX H1 H2
  cases p <;> cases q <;> (
    go_enter Tryz.func131, Tryz.ntmps131
    go_wp2
    go_ret
    exact ⟨by rw [HB.out]; rfl, R.out⟩)

set_option maxRecDepth 100000 in
theorem rebuild_walk : Calls Tryz.prog 99 #[.agg #[num n, wv, lv]] w (Answers n ws ls 3 w) := by
  have n8 := r.n8
  have BX := Lib.hid (boxed r)
  clear r
  go_enter Tryz.func99, Tryz.ntmps99
  go_wp2_with fail
  generalize w.alloc (.cells #[num n, wv, lv] 122) = w1 at BX ⊢
  have HT := Lib.hid (roles_any _ _ n wv lv _ w1 n8 (Tells.of BX.out.row 134 (restP ws) w.heap.size (Tryz.runsP _ Tryz.func134 (by kernel_rfl) rfl) _ BX.out.blk (Ext.refl _) (fun W i hW hr hi => rebuild1_walk hW hr i _ (fun h => by simpa using h))))
  have c0 := BX.out.c0
  have c1 := BX.out.c1
  have c2 := BX.out.c2
  have N8 := Lib.hid n8
  clear n8
  go_wp2_with fail
  refine HT.out.mono ?_
  rintro e w' ⟨v, rfl, hv, he⟩
  have hlen : (wants n (restP ws)).length ≤ 1048576 := by have := sel_len (n + 2) (fun i => restP ws (decide (i < n)) i); have := N8.out; unfold wants; omega
  have HC := Lib.hid (containsf_walk (xs := wants n (restP ws)) hv.rd hlen 136 (ptr w.heap.size) (fun z => ls.getD z.toNat false)
    ⟨Tryz.runsP _ Tryz.func136 (by kernel_rfl) rfl, fun i hi => by
      obtain ⟨m, hm, hz⟩ : ∃ m : Nat, m < n + 2 ∧ (wants n (restP ws)).getD i 0 = (m : Int) := by
        have hmem : (wants n (restP ws)).getD i 0 ∈ wants n (restP ws) := by
          rw [List.getD_eq_getElem?_getD, List.getElem?_eq_getElem hi]
          exact List.getElem_mem hi
        generalize (wants n (restP ws)).getD i 0 = z at hmem
        simp only [wants, sel, List.mem_map, List.mem_filter, List.mem_range] at hmem
        obtain ⟨m, ⟨hm, _⟩, rfl⟩ := hmem
        exact ⟨m, hm, rfl⟩
      rw [hz]
      exact lost_walk (he.blk BX.out.blk) (BX.out.row.ext he) m hm⟩)
  have HV := Lib.hid hv
  have HE := Lib.hid he
  clear hv he HT c0 c1 c2 hlen
  go_wp2_with fail
  refine HC.out.mono ?_
  rintro e w'' ⟨rfl, rfl⟩
  clear HC
  generalize hz : (List.range (wants n (restP ws)).length).any (fun i => ls.getD ((wants n (restP ws)).getD i 0).toNat false) = z
  have HZ := Lib.hid hz
  clear hz
  go_wp2
  go_ret2
  exact ⟨_, by rw [← HZ.out]; rfl, HV.out.mono BX.out.ext.size, BX.out.ext.trans HE.out⟩

set_option maxRecDepth 100000 in
theorem modify_walk : Calls Tryz.prog 98 #[.agg #[num n, wv, lv]] w (Answers n ws ls 2 w) := by
  have n8 := r.n8
  have BX := Lib.hid (boxed r)
  clear r
  go_enter Tryz.func98, Tryz.ntmps98
  go_wp2_with fail
  generalize w.alloc (.cells #[num n, wv, lv] 122) = w1 at BX ⊢
  have HB := Lib.hid (blind_walk BX.out.row)
  have c0 := BX.out.c0
  have c1 := BX.out.c1
  have c2 := BX.out.c2
  have N8 := Lib.hid n8
  clear n8
  go_wp2_with fail
  refine HB.out.mono ?_
  rintro e w2 ⟨rfl, e2⟩
  clear HB c0 c1 c2
  cases hb : isBlind n ls with
  | true =>
    have HBL := Lib.hid hb
    have E2 := Lib.hid e2
    clear hb e2
    go_wp2
    go_ret2
    refine ⟨.slice none 0 0, ?_, ?_, BX.out.ext.trans E2.out⟩
    · simp only [wayB, HBL.out, Bool.true_or]; rfl
    · simp only [wayL, HBL.out, if_true]; exact Own.nil _ _
  | false =>
    have HT := Lib.hid (roles_any _ _ n wv lv _ w2 N8.out (Tells.of BX.out.row 132 (goneP ws ls) w.heap.size (Tryz.runsP _ Tryz.func132 (by kernel_rfl) rfl) _ (e2.blk BX.out.blk) e2 (fun W i hW hr hi => modify1_walk hW hr i _ hi (fun h => by simpa using h))))
    have c0 := e2.cell BX.out.c0
    have c1 := e2.cell BX.out.c1
    have c2 := e2.cell BX.out.c2
    have HBL := Lib.hid hb
    have E2 := Lib.hid e2
    clear hb e2
    go_wp2_with fail
    refine HT.out.mono ?_
    rintro e w3 ⟨v, rfl, hv, e3⟩
    have HT2 := Lib.hid (roles_any _ _ n wv lv _ w3 N8.out (Tells.of BX.out.row 133 (keepP ws ls) w.heap.size (Tryz.runsP _ Tryz.func133 (by kernel_rfl) rfl) _ (e3.blk (E2.out.blk BX.out.blk)) (E2.out.trans e3) (fun W i hW hr hi => modify2_walk hW hr i _ hi (fun h => by simpa using h))))
    obtain ⟨A, cap, rfl, -, -⟩ := hv.shape
    have E3 := Lib.hid e3
    have c0' := e3.cell c0
    have c1' := e3.cell c1
    have c2' := e3.cell c2
    have hlen := sel_len (n + 2) (fun i => goneP ws ls (decide (i < n)) i)
    have hn := N8.out
    have HG := Lib.hid (show wayB n ws ls 2 = decide ((sel (n + 2) (fun i => goneP ws ls (decide (i < n)) i)).length = 0) by simp only [wayB, HBL.out, Bool.false_or]; rfl)
    generalize (sel (n + 2) (fun i => goneP ws ls (decide (i < n)) i)).length = gn at hlen HG
    clear hv e3 HT c0 c1 c2
    by_cases hz : gn = 0
    · obtain rfl := hz
      go_wp2_with fail
      refine HT2.out.mono ?_
      rintro e w4 ⟨v', rfl, hv', e4⟩
      have HV := Lib.hid hv'
      have E4 := Lib.hid e4
      clear hv' e4 HT2 c0' c1' c2' hlen hn
      go_wp2
      go_ret2
      refine ⟨v', ?_, ?_, BX.out.ext.trans (E2.out.trans (E3.out.trans E4.out))⟩
      · rw [HG.out]; rfl
      · simp only [wayL, HBL.out]; exact HV.out.mono (BX.out.ext.trans (E2.out.trans E3.out)).size
    · have hz1 : ((gn : Int) == 0) = false := by simpa using hz
      go_wp2_with fail
      refine HT2.out.mono ?_
      rintro e w4 ⟨v', rfl, hv', e4⟩
      have HV := Lib.hid hv'
      have E4 := Lib.hid e4
      clear hv' e4 HT2 c0' c1' c2' hlen hn
      go_wp2
      go_ret2
      refine ⟨v', ?_, ?_, BX.out.ext.trans (E2.out.trans (E3.out.trans E4.out))⟩
      · rw [HG.out, decide_eq_false hz]; rfl
      · simp only [wayL, HBL.out]; exact HV.out.mono (BX.out.ext.trans (E2.out.trans E3.out)).size

end

end Go.Proofs.YtdilchcnfnfdiaaGreatDoor
