/- Layer 15: which way is chosen. -/
import Derived.Test.YtdilchcnfnfdiaaGreatDoorTPMade
import Derived.Laws.EntriesVeiled
namespace Go.Proofs.YtdilchcnfnfdiaaGreatDoor
open Go.RowKit

theorem ways_walk (w : World) : Calls Tryz.prog 62 #[] w fun e w' => e = .returned (.agg #[.nilFunc, .func (.func 97) #[] #[], .func (.func 98) #[] #[], .func (.func 99) #[] #[], .func (.func 100) #[] #[]]) ∧ Ext w w' := by
  go_enter Tryz.func62, Tryz.ntmps62
  go_wp2
  exact bodyPost_ret (v := .agg #[.nilFunc, .func (.func 97) #[] #[], .func (.func 98) #[] #[], .func (.func 99) #[] #[], .func (.func 100) #[] #[]]) (by simp [results, Tryz.results62, go_sem]) rfl ⟨rfl, (Ext.refl w).alloc _⟩

theorem ways_at0 (W : World) : (Instr.index 129 (.agg #[.nilFunc, .func (.func 97) #[] #[], .func (.func 98) #[] #[], .func (.func 99) #[] #[], .func (.func 100) #[] #[]]) (.int .i64 0)).run Tryz.prog W = .ok (.nilFunc) W := by kernel_rfl
theorem ways_at1 (W : World) : (Instr.index 129 (.agg #[.nilFunc, .func (.func 97) #[] #[], .func (.func 98) #[] #[], .func (.func 99) #[] #[], .func (.func 100) #[] #[]]) (.int .i64 1)).run Tryz.prog W = .ok (.func (.func 97) #[] #[]) W := by kernel_rfl
theorem ways_at2 (W : World) : (Instr.index 129 (.agg #[.nilFunc, .func (.func 97) #[] #[], .func (.func 98) #[] #[], .func (.func 99) #[] #[], .func (.func 100) #[] #[]]) (.int .i64 2)).run Tryz.prog W = .ok (.func (.func 98) #[] #[]) W := by kernel_rfl
theorem ways_at3 (W : World) : (Instr.index 129 (.agg #[.nilFunc, .func (.func 97) #[] #[], .func (.func 98) #[] #[], .func (.func 99) #[] #[], .func (.func 100) #[] #[]]) (.int .i64 3)).run Tryz.prog W = .ok (.func (.func 99) #[] #[]) W := by kernel_rfl
theorem ways_at4 (W : World) : (Instr.index 129 (.agg #[.nilFunc, .func (.func 97) #[] #[], .func (.func 98) #[] #[], .func (.func 99) #[] #[], .func (.func 100) #[] #[]]) (.int .i64 4)).run Tryz.prog W = .ok (.func (.func 100) #[] #[]) W := by kernel_rfl

theorem ways_nil0 (W : World) : (binOp .eql 128 (.nilFunc) .nilFunc).run Tryz.prog W = .ok (.bool true) W := by kernel_rfl
theorem ways_nil1 (W : World) : (binOp .eql 128 (.func (.func 97) #[] #[]) .nilFunc).run Tryz.prog W = .ok (.bool false) W := by kernel_rfl
theorem ways_nil2 (W : World) : (binOp .eql 128 (.func (.func 98) #[] #[]) .nilFunc).run Tryz.prog W = .ok (.bool false) W := by kernel_rfl
theorem ways_nil3 (W : World) : (binOp .eql 128 (.func (.func 99) #[] #[]) .nilFunc).run Tryz.prog W = .ok (.bool false) W := by kernel_rfl
theorem ways_nil4 (W : World) : (binOp .eql 128 (.func (.func 100) #[] #[]) .nilFunc).run Tryz.prog W = .ok (.bool false) W := by kernel_rfl

/-- The best of the ways below k. -/
def best (n : Nat) (ws ls : List Bool) : Nat → Nat × List Int
  | 0 => (0, [])
  | k + 1 =>
    if k = 0 then best n ws ls k
    else if (wayB n ws ls k && ((best n ws ls k).1 == 0 || decide ((wayL n ws ls k).length < (best n ws ls k).2.length))) = true then (k, wayL n ws ls k)
    else best n ws ls k
def planOf (n : Nat) (ws ls : List Bool) : Nat × List Int × List Int :=
  if ((List.range ws.length).any fun i => true == ws.getD i false) = true then ((best n ws ls 5).1, (best n ws ls 5).2, wants n (keepP ws ls)) else (0, [], [])
def Chosen (n : Nat) (ws ls : List Bool) (w : World) (e : Ending) (w' : World) : Prop :=
  ∃ rv pv, e = .returned (.tuple #[.agg #[num (planOf n ws ls).1, rv, pv], num 0]) ∧ Own w' w.heap.size rv (planOf n ws ls).2.1 ∧ Own w' w.heap.size pv (planOf n ws ls).2.2 ∧ Ext w w'

theorem best_skip {n : Nat} {ws ls : List Bool} : best n ws ls 1 = best n ws ls 0 := rfl
theorem best_yes {n : Nat} {ws ls : List Bool} {k : Nat} (hk : k ≠ 0) (h : (wayB n ws ls k && ((best n ws ls k).1 == 0 || decide ((wayL n ws ls k).length < (best n ws ls k).2.length))) = true) : best n ws ls (k + 1) = (k, wayL n ws ls k) := by
  rw [best, if_neg hk, if_pos h]
theorem best_no {n : Nat} {ws ls : List Bool} {k : Nat} (hk : k ≠ 0) (h : (wayB n ws ls k && ((best n ws ls k).1 == 0 || decide ((wayL n ws ls k).length < (best n ws ls k).2.length))) = false) : best n ws ls (k + 1) = best n ws ls k := by
  rw [best, if_neg hk, if_neg (by rw [h]; simp)]
def planObj (way : Nat) (rv pv : Value) : Obj := .cells #[num way, rv, pv] 64
/-- Around the loop: the best of the ways below k lies in block g. -/
def ChRel (w w1 : World) (n g : Nat) (ws ls : List Bool) (pv : Value) (j : Value) (wr : World) : Prop :=
  ∃ k rv, k ≤ 5 ∧ j = num (k : Nat) ∧ wr.heap[g]? = some (planObj (best n ws ls k).1 rv pv) ∧ Own wr (w.heap.size + 1) rv (best n ws ls k).2 ∧ (∀ q, rv.ownBlock = some q → q ≠ g) ∧ Keeps (fun i => i = g) w1 wr ∧ Ext w wr
/-- One round, that takes the way. -/
theorem ChRel.yes {w w1 wr W : World} {n g k : Nat} {ws ls : List Bool} {pv rv rv' : Value} (hk : k < 5) (hk0 : k ≠ 0) (hgw : w.heap.size ≤ g) (hg : wr.heap[g]? = some (planObj (best n ws ls k).1 rv pv)) (hkp : Keeps (fun i => i = g) w1 wr) (he : Ext w wr) (hW : Ext wr W) (hv : Own W wr.heap.size rv' (wayL n ws ls k))
    (h : (wayB n ws ls k && ((best n ws ls k).1 == 0 || decide ((wayL n ws ls k).length < (best n ws ls k).2.length))) = true) :
    ChRel w w1 n g ws ls pv (num ((k : Int) + 1)) ((W.setCell ⟨g, 0, none⟩ (num k)).setCell ⟨g, 1, none⟩ rv') := by
  have hgs := block_lt hg
  have hne : ∀ q, rv'.ownBlock = some q → q ≠ g := fun q hq => by have := (hv.lt hq).1; omega
  refine ⟨k + 1, rv', by omega, by go_num, ?_, ?_, hne, ?_, (((he.trans hW).set (p := ⟨g, 0, none⟩) hgw _).set (p := ⟨g, 1, none⟩) hgw _)⟩
  · rw [set_blk (set_blk (hW.blk hg) 0 (num k)) 1 rv', best_yes hk0 h]
    rfl
  · rw [best_yes hk0 h]
    refine Own.mono (Own.of_eq hv fun q hq => ?_) (by omega)
    rw [set_far (hne q hq), set_far (hne q hq)]
  · exact ((hkp.trans hW.to_keeps (fun _ h => h.elim)).set (p := ⟨g, 0, none⟩) (.inl rfl) _).set (p := ⟨g, 1, none⟩) (.inl rfl) _
theorem ChRel.no {w w1 wr W : World} {n g k : Nat} {ws ls : List Bool} {pv rv : Value} (hk : k < 5) (hg : wr.heap[g]? = some (planObj (best n ws ls k).1 rv pv)) (ho : Own wr (w.heap.size + 1) rv (best n ws ls k).2) (hne : ∀ q, rv.ownBlock = some q → q ≠ g) (hkp : Keeps (fun i => i = g) w1 wr) (he : Ext w wr) (hW : Ext wr W)
    (h : best n ws ls (k + 1) = best n ws ls k) :
    ChRel w w1 n g ws ls pv (num ((k : Int) + 1)) W :=
  ⟨k + 1, rv, by omega, by go_num, by rw [h]; exact hW.blk hg, by rw [h]; exact ho.ext hW, hne, hkp.trans hW.to_keeps (fun _ h => h.elim), he.trans hW⟩

theorem wayL_len {n : Nat} (h8 : n ≤ 8) (ws ls : List Bool) (k : Nat) : (wayL n ws ls k).length ≤ 1048576 := by
  have h : ∀ p : Nat → Bool, (sel (n + 2) p).length ≤ 1048576 := fun p => by have := sel_len (n + 2) p; omega
  unfold wayL
  split
  · split
    · simp
    · exact h _
  · exact h _
  · exact h _
  · simp
theorem best_len {n : Nat} (h8 : n ≤ 8) (ws ls : List Bool) : ∀ k, (best n ws ls k).2.length ≤ 1048576
  | 0 => by simp [best]
  | k + 1 => by
    unfold best
    split
    · exact best_len h8 ws ls k
    · split
      · exact wayL_len h8 ws ls k
      · exact best_len h8 ws ls k

set_option maxRecDepth 100000 in
set_option maxHeartbeats 1000000 in
theorem choose_walk {w : World} {n : Nat} {wv v : Value} {ws : List Bool} {lo : List Int} (h2 : 2 ≤ n) (h8 : n ≤ 8) (hw : RdB w wv ws) (hn : ws.length = n) (hv : RdI w v lo) (hg : GoodLost n lo) (few : lo.length ≤ 2) :
    Calls Tryz.prog 27 #[num n, wv, v] w (Chosen n ws (lsOf n lo) w) := by
  obtain ⟨A, cap, rfl, hc, hA⟩ := id hv
  obtain ⟨A', cap', rfl, hc', hA'⟩ := id hw
  have HV := Lib.hid hv
  have HW := Lib.hid hw
  have HG := Lib.hid hg
  have HN := Lib.hid hn
  have hwl : ws.length ≤ 8 := by omega
  generalize hls : lsOf n lo = ls
  have HLS := Lib.hid hls
  clear hA hA' hv hw hg hn hls
  go_enter Tryz.func27, Tryz.ntmps27
  go_wp2_with fail
  have e0 := (Ext.refl w).alloc (.cells #[.int .i64 0, .slice none 0 0, .slice none 0 0] 64)
  have b0 := Lib.hid (alloc_new w (.cells #[.int .i64 0, .slice none 0 0, .slice none 0 0] 64))
  have hm := made_walk h2 h8 (HW.out.ext e0) HN.out (HV.out.ext e0) HG.out
  rw [HLS.out] at hm
  have HM := Lib.hid hm
  clear hm HLS
  have E0 := Lib.hid e0
  clear e0
  generalize w.alloc (.cells #[.int .i64 0, .slice none 0 0, .slice none 0 0] 64) = w1 at b0 HM E0 ⊢
  refine HM.out.mono ?_
  rintro e w2 ⟨lv, rfl, r, e2⟩
  have cb := e2.blk b0.out
  obtain ⟨A2, cap2, rfl, hc2, hA2⟩ := id r.lo
  have E2 := Lib.hid (E0.out.trans e2)
  have BX := Lib.hid (boxed r)
  clear hA2 r e2 HM HG HV HW
  go_wp2_with fail
  generalize w2.alloc (.cells #[.int .i64 n, .slice A' ws.length cap', .slice A2 ls.length cap2] 122) = w3 at BX ⊢
  have HWR := Lib.hid (contains_walkP BX.out.row.wr (by omega) true)
  refine HWR.out.mono ?_
  rintro e w' ⟨rfl, rfl⟩
  have CB := Lib.hid (BX.out.ext.blk cb)
  clear HWR cb b0 E0
  cases hany : (List.range ws.length).any (fun i => true == ws.getD i false) with
  | false =>
    have HP := Lib.hid (show planOf n ws ls = (0, [], []) by simp only [planOf, hany]; rfl)
    have cb := CB.out
    have d0 : w'.cell? ⟨w.heap.size, 0, none⟩ = some (.int .i64 0) := by rw [cell_blk cb]; rfl
    have d1 : w'.cell? ⟨w.heap.size, 1, none⟩ = some (.slice none 0 0) := by rw [cell_blk cb]; rfl
    have d2 : w'.cell? ⟨w.heap.size, 2, none⟩ = some (.slice none 0 0) := by rw [cell_blk cb]; rfl
    have g0 : w'.frozen? ⟨w.heap.size, 0, none⟩ = false := free_blk cb 0
    have g1 : w'.frozen? ⟨w.heap.size, 1, none⟩ = false := free_blk cb 1
    have g2 : w'.frozen? ⟨w.heap.size, 2, none⟩ = false := free_blk cb 2
    clear hany cb
    go_wp2
    have b := set_blk (set_blk (set_blk CB.out 0 (num 0)) 1 (.slice none 0 0)) 2 (.slice none 0 0)
    have D0 := cell_blk b 0
    have D1 := cell_blk b 1
    have D2 := cell_blk b 2
    have e3 := (((E2.out.trans BX.out.ext).set (p := ⟨w.heap.size, 0, none⟩) (Nat.le_refl _) (num 0)).set (p := ⟨w.heap.size, 1, none⟩) (Nat.le_refl _) (.slice none 0 0)).set (p := ⟨w.heap.size, 2, none⟩) (Nat.le_refl _) (.slice none 0 0)
    refine bodyPost_ret (v := .tuple #[.agg #[num 0, .slice none 0 0, .slice none 0 0], num 0]) (by simp [results, Tryz.results27, go_sem, D0, D1, D2]) rfl ⟨.slice none 0 0, .slice none 0 0, ?_, ?_, ?_, e3⟩
    · rw [HP.out]; rfl
    · rw [HP.out]; exact Own.nil _ _
    · rw [HP.out]; exact Own.nil _ _
  | true =>
    have HP := Lib.hid (show planOf n ws ls = ((best n ws ls 5).1, (best n ws ls 5).2, wants n (keepP ws ls)) by simp only [planOf, hany]; rfl)
    have HT := Lib.hid (roles_any _ _ n (.slice A' ws.length cap') (.slice A2 ls.length cap2) _ w' h8 (Tells.of BX.out.row 61 (keepP ws ls) w2.heap.size (Tryz.runsP _ Tryz.func61 (by kernel_rfl) rfl) _ BX.out.blk (Ext.refl _) (fun W i hW hr hi => choose1_walk hW hr i _ hi (fun h => by simpa using h))))
    have c0 := BX.out.c0
    have c1 := BX.out.c1
    have c2 := BX.out.c2
    clear hany
    go_wp2_with fail
    refine HT.out.mono ?_
    rintro e w4 ⟨pv, rfl, hpv, e4⟩
    have HPL := Lib.hid (show wants n (keepP ws ls) = sel (n + 2) (fun i => keepP ws ls (decide (i < n)) i) from rfl)
    generalize sel (n + 2) (fun i => keepP ws ls (decide (i < n)) i) = pl at hpv HPL
    obtain ⟨A3, cap3, rfl, hc3, -⟩ := hpv.shape
    have HPV := Lib.hid hpv
    have E4 := Lib.hid e4
    clear hpv e4 HT c0 c1 c2
    go_wp2_with fail
    have b5 := Lib.hid (alloc_new w4 (planObj 0 (.slice none 0 0) (.slice A3 pl.length cap3)))
    have e5 := Lib.hid (((E2.out.trans BX.out.ext).trans E4.out).alloc (planObj 0 (.slice none 0 0) (.slice A3 pl.length cap3)))
    have p5 := Lib.hid (And.intro (HPV.out.ext ((Ext.refl w4).alloc (planObj 0 (.slice none 0 0) (.slice A3 pl.length cap3)))) (fun q (hq : (Value.slice A3 pl.length cap3).ownBlock = some q) => (HPV.out.lt hq).2))
    have R5 := Lib.hid ((BX.out.row.ext E4.out).ext ((Ext.refl w4).alloc (planObj 0 (.slice none 0 0) (.slice A3 pl.length cap3))))
    have k5 := Lib.hid (((Ext.refl w4).alloc (planObj 0 (.slice none 0 0) (.slice A3 pl.length cap3))).blk (E4.out.blk BX.out.blk))
    have C5 := Lib.hid (((Ext.refl w4).alloc (planObj 0 (.slice none 0 0) (.slice A3 pl.length cap3))).blk (E4.out.blk CB.out))
    have k45 := Lib.hid ((Keeps.refl (fun _ => False) w4).alloc (planObj 0 (.slice none 0 0) (.slice A3 pl.length cap3)))
    change Calls _ _ _ (w4.alloc (planObj 0 (.slice none 0 0) (.slice A3 pl.length cap3))) _
    generalize w4.alloc (planObj 0 (.slice none 0 0) (.slice A3 pl.length cap3)) = w5 at b5 e5 p5 R5 k5 C5 k45 ⊢
    refine (ways_walk w5).mono ?_
    rintro e w6 ⟨rfl, e6⟩
    have B6 := Lib.hid (e6.blk b5.out)
    have E6 := Lib.hid (e5.out.trans e6)
    have P6 := Lib.hid (And.intro (p5.out.1.ext e6) p5.out.2)
    have R6 := Lib.hid (R5.out.ext e6)
    have K6 := Lib.hid (e6.blk k5.out)
    have C6 := Lib.hid (e6.blk C5.out)
    have G4 := Lib.hid (show w.heap.size ≤ w4.heap.size from (E2.out.trans (BX.out.ext.trans E4.out)).size)
    have G3 := Lib.hid (show w4.heap.size ≠ w2.heap.size from by have := block_lt (E4.out.blk BX.out.blk); omega)
    have G2 := Lib.hid (show w4.heap.size ≠ w.heap.size from by have := block_lt (E4.out.blk CB.out); omega)
    have RW := Lib.hid BX.out.row
    have G0 := Lib.hid (block_lt CB.out)
    have EW := Lib.hid (E4.out.trans (((Ext.refl w4).keeps k45.out (fun _ h => h.elim)).trans e6))
    clear b5 e5 p5 R5 k5 e6 HPV C5 CB BX k45
    go_wp2_with fail
    go_loopw [41] (fun j wr => ChRel w w6 n w4.heap.size ws ls (.slice A3 pl.length cap3) j wr) (fun j _ => 5 - (intOf j).toNat)
    case atStart => exact ⟨0, .slice none 0 0, by omega, rfl, B6.out, Own.nil _ _, (fun q hq => by simp [Value.ownBlock] at hq), Keeps.refl _ _, E6.out⟩
    case round =>
      obtain ⟨k, rv, hk, rfl, hb, ho, hne, hkp, he⟩ := hrel
      have hr := RW.out.ext (EW.out.keeps hkp (fun i hi => by rw [hi]; exact E4.out.size))
      have hbr := hkp.blk K6.out (fun h => G3.out h.symm)
      have c0 : wr.cell? ⟨w2.heap.size, 0, none⟩ = some (num n) := by rw [cell_blk hbr]; rfl
      have c1 : wr.cell? ⟨w2.heap.size, 1, none⟩ = some (.slice A' ws.length cap') := by rw [cell_blk hbr]; rfl
      have c2 : wr.cell? ⟨w2.heap.size, 2, none⟩ = some (.slice A2 ls.length cap2) := by rw [cell_blk hbr]; rfl
      by_cases hlt : k < 5
      · rcases (by omega : k = 0 ∨ k = 1 ∨ k = 2 ∨ k = 3 ∨ k = 4) with rfl | rfl | rfl | rfl | rfl
        · have hix := ways_at0
          have hnil := ways_nil0
          have R := Lib.hid (ChRel.no hlt hb ho hne hkp he (Ext.refl _) best_skip)
          clear hb ho hne hkp he hr hbr
          go_wp2
          go_roundw
          case rel => exact R.out
          case measure => simp [intOf]
        · have hix := ways_at1
          have hnil := ways_nil1
          have HK := Lib.hid (full_walk hr)
          clear hr hbr
          have F := Lib.hid (And.intro hb (And.intro ho (And.intro hne (And.intro hkp he))))
          obtain ⟨A8, cap8, rfl, hc8, -⟩ := ho.shape
          clear hb ho hne hkp he
          go_wp2_with fail
          refine HK.out.mono ?_
          rintro e W ⟨v, rfl, hv, hW⟩
          obtain ⟨A7, cap7, rfl, hc7, -⟩ := hv.shape
          have hbW := hW.blk F.out.1
          have d0 : W.cell? ⟨w4.heap.size, 0, none⟩ = some (num (best n ws ls 1).1) := by rw [cell_blk hbW]; rfl
          have d1 : W.cell? ⟨w4.heap.size, 1, none⟩ = some (.slice A8 (best n ws ls 1).2.length cap8) := by rw [cell_blk hbW]; rfl
          have f0 : W.frozen? ⟨w4.heap.size, 0, none⟩ = false := free_blk hbW 0
          have f1 : W.frozen? ⟨w4.heap.size, 1, none⟩ = false := free_blk hbW 1
          have Y := Lib.hid (fun h => ChRel.yes (k := 1) (by decide) (by decide) G4.out F.out.1 F.out.2.2.2.1 F.out.2.2.2.2 hW hv h)
          have N := Lib.hid (fun h => ChRel.no (k := 1) (by decide) F.out.1 F.out.2.1 F.out.2.2.1 F.out.2.2.2.1 F.out.2.2.2.2 hW (best_no (by decide) h))
          have l1 : (wayL n ws ls 1).length ≤ 1048576 := wayL_len h8 ws ls 1
          have l2 : (best n ws ls 1).2.length ≤ 1048576 := best_len h8 ws ls 1
          clear HK hW hv hbW F
          generalize wayB n ws ls 1 = bb at Y N ⊢
          generalize (best n ws ls 1).1 = bw at Y N d0
          generalize (best n ws ls 1).2.length = M at Y N d1 hc8 l2
          generalize (wayL n ws ls 1).length = L at Y N hc7 l1 ⊢
          cases bb with
          | false =>
            have R := Lib.hid (N.out rfl)
            clear Y N
            go_wp2
            go_roundw
            case rel => exact R.out
            case measure => simp [intOf]
          | true =>
            by_cases h0 : bw = 0
            · subst h0
              have R := Lib.hid (Y.out rfl)
              clear Y N
              go_wp2
              go_roundw
              case rel => exact R.out
              case measure => simp [intOf]
            · have q0 : ((bw : Int) == 0) = false := by simpa using h0
              have q1 : (bw == 0) = false := by simpa using h0
              by_cases hLM : L < M
              · have R := Lib.hid (Y.out (by rw [q1, decide_eq_true hLM]; rfl))
                clear Y N q1
                go_wp2
                go_roundw
                case rel => exact R.out
                case measure => simp [intOf]
              · have R := Lib.hid (N.out (by rw [q1, decide_eq_false hLM]; rfl))
                clear Y N q1
                go_wp2
                go_roundw
                case rel => exact R.out
                case measure => simp [intOf]
        · have hix := ways_at2
          have hnil := ways_nil2
          have HK := Lib.hid (modify_walk hr)
          clear hr hbr
          have F := Lib.hid (And.intro hb (And.intro ho (And.intro hne (And.intro hkp he))))
          obtain ⟨A8, cap8, rfl, hc8, -⟩ := ho.shape
          clear hb ho hne hkp he
          go_wp2_with fail
          refine HK.out.mono ?_
          rintro e W ⟨v, rfl, hv, hW⟩
          obtain ⟨A7, cap7, rfl, hc7, -⟩ := hv.shape
          have hbW := hW.blk F.out.1
          have d0 : W.cell? ⟨w4.heap.size, 0, none⟩ = some (num (best n ws ls 2).1) := by rw [cell_blk hbW]; rfl
          have d1 : W.cell? ⟨w4.heap.size, 1, none⟩ = some (.slice A8 (best n ws ls 2).2.length cap8) := by rw [cell_blk hbW]; rfl
          have f0 : W.frozen? ⟨w4.heap.size, 0, none⟩ = false := free_blk hbW 0
          have f1 : W.frozen? ⟨w4.heap.size, 1, none⟩ = false := free_blk hbW 1
          have Y := Lib.hid (fun h => ChRel.yes (k := 2) (by decide) (by decide) G4.out F.out.1 F.out.2.2.2.1 F.out.2.2.2.2 hW hv h)
          have N := Lib.hid (fun h => ChRel.no (k := 2) (by decide) F.out.1 F.out.2.1 F.out.2.2.1 F.out.2.2.2.1 F.out.2.2.2.2 hW (best_no (by decide) h))
          have l1 : (wayL n ws ls 2).length ≤ 1048576 := wayL_len h8 ws ls 2
          have l2 : (best n ws ls 2).2.length ≤ 1048576 := best_len h8 ws ls 2
          clear HK hW hv hbW F
          generalize wayB n ws ls 2 = bb at Y N ⊢
          generalize (best n ws ls 2).1 = bw at Y N d0
          generalize (best n ws ls 2).2.length = M at Y N d1 hc8 l2
          generalize (wayL n ws ls 2).length = L at Y N hc7 l1 ⊢
          cases bb with
          | false =>
            have R := Lib.hid (N.out rfl)
            clear Y N
            go_wp2
            go_roundw
            case rel => exact R.out
            case measure => simp [intOf]
          | true =>
            by_cases h0 : bw = 0
            · subst h0
              have R := Lib.hid (Y.out rfl)
              clear Y N
              go_wp2
              go_roundw
              case rel => exact R.out
              case measure => simp [intOf]
            · have q0 : ((bw : Int) == 0) = false := by simpa using h0
              have q1 : (bw == 0) = false := by simpa using h0
              by_cases hLM : L < M
              · have R := Lib.hid (Y.out (by rw [q1, decide_eq_true hLM]; rfl))
                clear Y N q1
                go_wp2
                go_roundw
                case rel => exact R.out
                case measure => simp [intOf]
              · have R := Lib.hid (N.out (by rw [q1, decide_eq_false hLM]; rfl))
                clear Y N q1
                go_wp2
                go_roundw
                case rel => exact R.out
                case measure => simp [intOf]
        · have hix := ways_at3
          have hnil := ways_nil3
          have HK := Lib.hid (rebuild_walk hr)
          clear hr hbr
          have F := Lib.hid (And.intro hb (And.intro ho (And.intro hne (And.intro hkp he))))
          obtain ⟨A8, cap8, rfl, hc8, -⟩ := ho.shape
          clear hb ho hne hkp he
          go_wp2_with fail
          refine HK.out.mono ?_
          rintro e W ⟨v, rfl, hv, hW⟩
          obtain ⟨A7, cap7, rfl, hc7, -⟩ := hv.shape
          have hbW := hW.blk F.out.1
          have d0 : W.cell? ⟨w4.heap.size, 0, none⟩ = some (num (best n ws ls 3).1) := by rw [cell_blk hbW]; rfl
          have d1 : W.cell? ⟨w4.heap.size, 1, none⟩ = some (.slice A8 (best n ws ls 3).2.length cap8) := by rw [cell_blk hbW]; rfl
          have f0 : W.frozen? ⟨w4.heap.size, 0, none⟩ = false := free_blk hbW 0
          have f1 : W.frozen? ⟨w4.heap.size, 1, none⟩ = false := free_blk hbW 1
          have Y := Lib.hid (fun h => ChRel.yes (k := 3) (by decide) (by decide) G4.out F.out.1 F.out.2.2.2.1 F.out.2.2.2.2 hW hv h)
          have N := Lib.hid (fun h => ChRel.no (k := 3) (by decide) F.out.1 F.out.2.1 F.out.2.2.1 F.out.2.2.2.1 F.out.2.2.2.2 hW (best_no (by decide) h))
          have l1 : (wayL n ws ls 3).length ≤ 1048576 := wayL_len h8 ws ls 3
          have l2 : (best n ws ls 3).2.length ≤ 1048576 := best_len h8 ws ls 3
          clear HK hW hv hbW F
          generalize wayB n ws ls 3 = bb at Y N ⊢
          generalize (best n ws ls 3).1 = bw at Y N d0
          generalize (best n ws ls 3).2.length = M at Y N d1 hc8 l2
          generalize (wayL n ws ls 3).length = L at Y N hc7 l1 ⊢
          cases bb with
          | false =>
            have R := Lib.hid (N.out rfl)
            clear Y N
            go_wp2
            go_roundw
            case rel => exact R.out
            case measure => simp [intOf]
          | true =>
            by_cases h0 : bw = 0
            · subst h0
              have R := Lib.hid (Y.out rfl)
              clear Y N
              go_wp2
              go_roundw
              case rel => exact R.out
              case measure => simp [intOf]
            · have q0 : ((bw : Int) == 0) = false := by simpa using h0
              have q1 : (bw == 0) = false := by simpa using h0
              by_cases hLM : L < M
              · have R := Lib.hid (Y.out (by rw [q1, decide_eq_true hLM]; rfl))
                clear Y N q1
                go_wp2
                go_roundw
                case rel => exact R.out
                case measure => simp [intOf]
              · have R := Lib.hid (N.out (by rw [q1, decide_eq_false hLM]; rfl))
                clear Y N q1
                go_wp2
                go_roundw
                case rel => exact R.out
                case measure => simp [intOf]
        · have hix := ways_at4
          have hnil := ways_nil4
          have HK := Lib.hid (whole_walk hr)
          clear hr hbr
          have F := Lib.hid (And.intro hb (And.intro ho (And.intro hne (And.intro hkp he))))
          obtain ⟨A8, cap8, rfl, hc8, -⟩ := ho.shape
          clear hb ho hne hkp he
          go_wp2_with fail
          refine HK.out.mono ?_
          rintro e W ⟨v, rfl, hv, hW⟩
          obtain ⟨A7, cap7, rfl, hc7, -⟩ := hv.shape
          have hbW := hW.blk F.out.1
          have d0 : W.cell? ⟨w4.heap.size, 0, none⟩ = some (num (best n ws ls 4).1) := by rw [cell_blk hbW]; rfl
          have d1 : W.cell? ⟨w4.heap.size, 1, none⟩ = some (.slice A8 (best n ws ls 4).2.length cap8) := by rw [cell_blk hbW]; rfl
          have f0 : W.frozen? ⟨w4.heap.size, 0, none⟩ = false := free_blk hbW 0
          have f1 : W.frozen? ⟨w4.heap.size, 1, none⟩ = false := free_blk hbW 1
          have Y := Lib.hid (fun h => ChRel.yes (k := 4) (by decide) (by decide) G4.out F.out.1 F.out.2.2.2.1 F.out.2.2.2.2 hW hv h)
          have N := Lib.hid (fun h => ChRel.no (k := 4) (by decide) F.out.1 F.out.2.1 F.out.2.2.1 F.out.2.2.2.1 F.out.2.2.2.2 hW (best_no (by decide) h))
          have l1 : (wayL n ws ls 4).length ≤ 1048576 := wayL_len h8 ws ls 4
          have l2 : (best n ws ls 4).2.length ≤ 1048576 := best_len h8 ws ls 4
          clear HK hW hv hbW F
          generalize wayB n ws ls 4 = bb at Y N ⊢
          generalize (best n ws ls 4).1 = bw at Y N d0
          generalize (best n ws ls 4).2.length = M at Y N d1 hc8 l2
          generalize (wayL n ws ls 4).length = L at Y N hc7 l1 ⊢
          cases bb with
          | false =>
            have R := Lib.hid (N.out rfl)
            clear Y N
            go_wp2
            go_roundw
            case rel => exact R.out
            case measure => simp [intOf]
          | true =>
            by_cases h0 : bw = 0
            · subst h0
              have R := Lib.hid (Y.out rfl)
              clear Y N
              go_wp2
              go_roundw
              case rel => exact R.out
              case measure => simp [intOf]
            · have q0 : ((bw : Int) == 0) = false := by simpa using h0
              have q1 : (bw == 0) = false := by simpa using h0
              by_cases hLM : L < M
              · have R := Lib.hid (Y.out (by rw [q1, decide_eq_true hLM]; rfl))
                clear Y N q1
                go_wp2
                go_roundw
                case rel => exact R.out
                case measure => simp [intOf]
              · have R := Lib.hid (N.out (by rw [q1, decide_eq_false hLM]; rfl))
                clear Y N q1
                go_wp2
                go_roundw
                case rel => exact R.out
                case measure => simp [intOf]
      · obtain rfl : k = 5 := by omega
        obtain ⟨A8, cap8, rfl, hc8, -⟩ := ho.shape
        have cb := hkp.blk C6.out (fun h => G2.out h.symm)
        have r0 : wr.cell? ⟨w.heap.size, 0, none⟩ = some (.int .i64 0) := by rw [cell_blk cb]; rfl
        have r1 : wr.cell? ⟨w.heap.size, 1, none⟩ = some (.slice none 0 0) := by rw [cell_blk cb]; rfl
        have r2 : wr.cell? ⟨w.heap.size, 2, none⟩ = some (.slice none 0 0) := by rw [cell_blk cb]; rfl
        have f0 : wr.frozen? ⟨w.heap.size, 0, none⟩ = false := free_blk cb 0
        have f1 : wr.frozen? ⟨w.heap.size, 1, none⟩ = false := free_blk cb 1
        have f2 : wr.frozen? ⟨w.heap.size, 2, none⟩ = false := free_blk cb 2
        have d0 : wr.cell? ⟨w4.heap.size, 0, none⟩ = some (num (best n ws ls 5).1) := by rw [cell_blk hb]; rfl
        have d1 : wr.cell? ⟨w4.heap.size, 1, none⟩ = some (.slice A8 (best n ws ls 5).2.length cap8) := by rw [cell_blk hb]; rfl
        have d2 : wr.cell? ⟨w4.heap.size, 2, none⟩ = some (.slice A3 pl.length cap3) := by rw [cell_blk hb]; rfl
        have HB := Lib.hid (set_blk (set_blk (set_blk cb 0 (num (best n ws ls 5).1)) 1 (.slice A8 (best n ws ls 5).2.length cap8)) 2 (.slice A3 pl.length cap3))
        have HE := Lib.hid (((he.set (p := ⟨w.heap.size, 0, none⟩) (Nat.le_refl _) (num (best n ws ls 5).1)).set (p := ⟨w.heap.size, 1, none⟩) (Nat.le_refl _) (.slice A8 (best n ws ls 5).2.length cap8)).set (p := ⟨w.heap.size, 2, none⟩) (Nat.le_refl _) (.slice A3 pl.length cap3))
        have HP7 := Lib.hid (And.intro ho (And.intro G0.out (P6.out.1.keep hkp (fun q hq h => by have := P6.out.2 q hq; omega))))
        clear hb ho hne hkp he hr hbr cb
        go_wp2
        have b := HB.out
        have D0 := cell_blk b 0
        have D1 := cell_blk b 1
        have D2 := cell_blk b 2
        refine bodyPost_ret (v := .tuple #[.agg #[num (best n ws ls 5).1, .slice A8 (best n ws ls 5).2.length cap8, .slice A3 pl.length cap3], num 0]) (by simp [results, Tryz.results27, go_sem, D0, D1, D2]) rfl ⟨.slice A8 (best n ws ls 5).2.length cap8, .slice A3 pl.length cap3, ?_, ?_, ?_, HE.out⟩
        · rw [HP.out]
        · rw [HP.out]
          refine Own.mono (Own.of_eq HP7.out.1 fun q hq => ?_) (Nat.le_succ _)
          have hq1 : q ≠ w.heap.size := by have := (HP7.out.1.lt hq).1; omega
          rw [set_far hq1, set_far hq1, set_far hq1]
        · rw [HP.out, HPL.out]
          refine Own.mono (Own.of_eq HP7.out.2.2 fun q hq => ?_) (Nat.le_of_lt HP7.out.2.1)
          have hq1 : q ≠ w.heap.size := by have := (HP7.out.2.2.lt hq).1; have := HP7.out.2.1; omega
          rw [set_far hq1, set_far hq1, set_far hq1]

end Go.Proofs.YtdilchcnfnfdiaaGreatDoor
