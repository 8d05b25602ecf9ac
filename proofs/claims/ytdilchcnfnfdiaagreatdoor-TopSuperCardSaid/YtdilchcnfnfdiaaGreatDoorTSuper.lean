/- TopSuper: the walk. -/
import Derived.Test.YtdilchcnfnfdiaaGreatDoorTNext
namespace Go.Proofs.YtdilchcnfnfdiaaGreatDoor
open Go.RowKit Go.Maps

section
variable {w : World} {d sf m sp n lim : Nat} {safe : Nat → Sec} {bad : Int → Bool} (h : Calm w d sf m sp n lim safe bad)
include h
set_option maxRecDepth 100000 in
/-- Spoil. -/
theorem spoil_keeps (i : Nat) (hi : i < n) (hlim : lim < 100000) :
    Calls Tryz.prog 16 #[ptr d, num i] w fun e w' => e = .returned (num 0) ∧ Calm w' d sf m sp n (lim + 1) safe (fun j => if j = (i : Int) then true else bad j) ∧ Keeps (fun q => q = sp) w w' := by
  obtain ⟨left, hblk⟩ := h.blk
  obtain ⟨k2, D2, hsm, hk2, hD2, hb⟩ := h.sm
  have hn := h.nn.2
  have HM := Lib.hid (may_walk h.pend i hi)
  obtain ⟨w2, hrun, hown, hturn⟩ := hsm.store Tryz.intKey Tryz.uSpoilt (by unfold maxLen; have := h.ll; omega) (keyI_mk i (by omega) (by omega)) (plainElem_bool Tryz.underlying4 true)
  have K := Keeps.of_grown hturn.grown
  have R := Lib.hid (show Calm w2 d sf m sp n (lim + 1) safe (fun j => if j = (i : Int) then true else bad j) ∧ Keeps (fun q => q = sp) w w2 from by
    obtain ⟨cs, hsec, hcs⟩ := h.sec
    obtain ⟨k, hm, hk⟩ := h.wm
    refine ⟨?_, K⟩
    refine ⟨⟨left, K.blk hblk h.ne3⟩, ⟨cs, K.blk hsec h.ne5, hcs⟩, h.s64, ⟨k, ownsMap_keep hm K h.ne6, by omega⟩, ⟨k2 + 1, _, hown, by omega, hD2.put _ _, fun j => ?_⟩, h.ne1, h.ne2, h.ne3, h.ne4, h.ne5, h.ne6, h.nn, by omega⟩
    by_cases e : j = (i : Int)
    · subst e
      rw [if_pos rfl, atKey_put_same hD2 (show WideAt.IsKeyLit (keyI (i : Int)) from trivial)]
    · rw [if_neg e, atKey_put_other (keyI_ne e)]
      exact hb j)
  have c2 : w.cell? ⟨d, 2, none⟩ = some (.map (some sp)) := by rw [cell_blk hblk]; rfl
  clear h hblk hsm hb hown hturn K hD2
  go_enter Tryz.func16, Tryz.ntmps16
  go_wp2_with fail
  refine HM.out.mono ?_
  rintro e w' ⟨rfl, rfl⟩
  clear HM
  go_wp2_with fail
  go_ret
  exact ⟨rfl, R.out⟩
end
theorem zero_shut : openB zeroS = false := by decide +kernel
theorem slots_first (s : Sup) (hf : s.Fine) : ∃ a b, SlotIs (fun j => if j = s.e % 2 then s.sec else zeroS) (fun j => if j = ((s.e % 2 : Nat) : Int) then false else false) 0 a ∧ SlotIs (fun j => if j = s.e % 2 then s.sec else zeroS) (fun j => if j = ((s.e % 2 : Nat) : Int) then false else false) 1 b ∧ pick a b = some s := by
  rcases Nat.mod_two_eq_zero_or_one s.e with h | h
  · rw [h]
    exact ⟨some s, none, ⟨rfl, rfl, hf⟩, .inr ⟨rfl, zero_shut⟩, rfl⟩
  · rw [h]
    exact ⟨none, some s, .inr ⟨rfl, zero_shut⟩, ⟨rfl, rfl, hf⟩, rfl⟩
theorem slots_second (s t : Sup) (hf : s.Fine) (ht : t.Fine) (he : t.e = s.e + 1) : ∃ a b, SlotIs (fun j => if j = (s.e + 1) % 2 then t.sec else if j = s.e % 2 then s.sec else zeroS) (fun j => if j = (((s.e + 1) % 2 : Nat) : Int) then false else if j = ((s.e % 2 : Nat) : Int) then false else false) 0 a ∧
    SlotIs (fun j => if j = (s.e + 1) % 2 then t.sec else if j = s.e % 2 then s.sec else zeroS) (fun j => if j = (((s.e + 1) % 2 : Nat) : Int) then false else if j = ((s.e % 2 : Nat) : Int) then false else false) 1 b ∧ pick a b = some t := by
  rcases Nat.mod_two_eq_zero_or_one s.e with h | h
  · rw [h, show (s.e + 1) % 2 = 1 by omega]
    refine ⟨some s, some t, ⟨rfl, rfl, hf⟩, ⟨rfl, rfl, ht⟩, ?_⟩
    simp [pick, newerB, eOf, he]
  · rw [h, show (s.e + 1) % 2 = 0 by omega]
    refine ⟨some t, some s, ⟨rfl, rfl, ht⟩, ⟨rfl, rfl, hf⟩, ?_⟩
    simp [pick, newerB, eOf, he]
    intro h'
    omega
theorem slots_spoilt (s t : Sup) (hf : s.Fine) : ∃ a b, SlotIs (fun j => if j = (s.e + 1) % 2 then t.sec else if j = s.e % 2 then s.sec else zeroS) (fun j => if j = (((s.e + 1) % 2 : Nat) : Int) then true else if j = (((s.e + 1) % 2 : Nat) : Int) then false else if j = ((s.e % 2 : Nat) : Int) then false else false) 0 a ∧
    SlotIs (fun j => if j = (s.e + 1) % 2 then t.sec else if j = s.e % 2 then s.sec else zeroS) (fun j => if j = (((s.e + 1) % 2 : Nat) : Int) then true else if j = (((s.e + 1) % 2 : Nat) : Int) then false else if j = ((s.e % 2 : Nat) : Int) then false else false) 1 b ∧ pick a b = some s := by
  rcases Nat.mod_two_eq_zero_or_one s.e with h | h
  · rw [h, show (s.e + 1) % 2 = 1 by omega]
    exact ⟨some s, none, ⟨rfl, rfl, hf⟩, .inl rfl, rfl⟩
  · rw [h, show (s.e + 1) % 2 = 0 by omega]
    exact ⟨none, some s, .inl rfl, ⟨rfl, rfl, hf⟩, rfl⟩
theorem Sup.sec_lt (s : Sup) : ∀ x ∈ s.sec, x < 256 := fun x hx => supS_lt _ _ _ _ _ _ _ x hx
theorem zeroS_lt : ∀ x ∈ zeroS, x < 256 := by decide
theorem open_any (s : ByteArray) (hs : s.size = 64) {lb : Bool} (h : openB (secOf s) = lb) : ∃ U : ByteArray, ∀ w, Calls Tryz.prog 10 #[.string s] w fun e w' => e = .returned (.tuple #[.string U, .bool lb]) ∧ Ext w w' :=
  ⟨if lb then s.extract 0 60 else { data := #[] }, fun w => by have := open_walk s w hs; rw [h] at this; exact this⟩
theorem fine5 {u e r : Nat} (h1 : u ≠ 0) (h2 : u < two64) (h3 : e < two64) (h4 : r < 5) : Sup.Fine ⟨u, e, r, 5, 1, 3, 3⟩ :=
  ⟨h1, h2, h3, show 4 ≤ 5 by decide, show 5 ≤ 10 by decide, show 1 ≤ 1 by decide, show 1 ≤ 4 by decide, show 1 ≤ 3 by decide, show 3 ≤ 256 by decide, h4, show 3 ≤ 3 by decide⟩
theorem drv_nil (w : World) (b : Nat) : (binOp .eql 36 (ptr b) (.pointer none)).run Tryz.prog w = .ok (.bool false) w := by
  have h : ∀ d : Nat, (Op.equalIn (d + 1) 36 (ptr b) (.pointer none)).run Tryz.prog w = .ok false w := fun d => by
    simp [Op.equalIn, run_underlying Tryz.uDrv]
  simp only [binOp]
  simp [Op.equal, Op.maxDepth, h 9999]

set_option maxRecDepth 100000 in
set_option maxHeartbeats 4000000 in
theorem super_law (uu ev ro : Nat) (spoil : Bool) (w : World) (hu : uu < two64) (_hev : ev < two64) (hro : ro ≤ 255) :
    Calls Tryz.prog 4 #[.int .u64 (uu : Int), .int .u64 (ev : Int), .int .u8 (ro : Int), .bool spoil] w fun e w' => e = .returned (.bool true) ∧ Ext w w' := by
  obtain ⟨u, hu1⟩ : ∃ u, max uu 1 = u := ⟨_, rfl⟩
  obtain ⟨e, he1⟩ : ∃ e, ev % 2 ^ 50 = e := ⟨_, rfl⟩
  obtain ⟨r, hr1⟩ : ∃ r, ro % 5 = r := ⟨_, rfl⟩
  have hf : Sup.Fine ⟨u, e, r, 5, 1, 3, 3⟩ := fine5 (by omega) (by unfold two64 at *; omega) (by unfold two64; omega) (by omega)
  have hft : Sup.Fine ⟨u, e + 1, r, 5, 1, 3, 3⟩ := fine5 (by omega) (by unfold two64 at *; omega) (by unfold two64; omega) (by omega)
  have hm1 : max (uu : Int) 1 = (u : Int) := by omega
  have hm2 : (ev : Int) % 1125899906842624 = (e : Int) := by omega
  have hm3 : (ro : Int) % 5 = (r : Int) := by omega
  have HF := Lib.hid hf
  have HFT := Lib.hid hft
  have HN := Lib.hid (dnew_walk 4 w (by decide) (by decide))
  have HSH := fun W => Lib.hid (shown_walk W)
  clear hu hu1 he1 hr1 hf hft
  go_enter Tryz.func4, Tryz.ntmps4
  go_wp2_with fail
  refine HN.out.mono ?_
  rintro e1 w1 ⟨d, sf, m, sp, rfl, hc, g1, g2, g3, g4, he1⟩
  have E1 := Lib.hid he1
  have C1 := Lib.hid hc
  have G1 := Lib.hid (And.intro g1 (And.intro g2 (And.intro g3 g4)))
  have hdn := drv_nil
  clear HN hc g1 g2 g3 g4 he1
  go_wp2_with fail
  have e2 := (Ext.refl w1).alloc (.cells #[.int .u64 (u : Int), .int .u64 (e : Int), num r, num 5, num 1, num 3, .bool false, num 3, num 0, num 0] 41)
  have b2 := alloc_new w1 (.cells #[.int .u64 (u : Int), .int .u64 (e : Int), num r, num 5, num 1, num 3, .bool false, num 3, num 0, num 0] 41)
  have hc2 := C1.out.keep e2.to_keeps (fun h => h) (fun h => h) (fun h => h) (fun h => h)
  have nd : ∀ q, drvF d sf m sp q → q < w1.heap.size ∧ w.heap.size ≤ q := fun q hq => by
    have hp := C1.out.pend
    rcases hq with rfl | rfl | rfl | rfl
    · exact ⟨hp.l1, G1.out.1⟩
    · exact ⟨hp.l2, G1.out.2.1⟩
    · exact ⟨hp.l3, G1.out.2.2.1⟩
    · exact ⟨hp.l4, G1.out.2.2.2⟩
  have ND := Lib.hid nd
  have HS := Lib.hid (ssave_walk hc2 (by decide) (by decide) u e r 5 1 3 3 HF.out.hu HF.out.hu2 HF.out.he (by decide) (by decide) (by decide) (by decide) (by decide) (by decide) HF.out.h7 (by decide))
  have E2 := Lib.hid (E1.out.trans e2)
  have B2 := Lib.hid b2
  clear e2 b2 hc2 nd C1 E1 G1
  refine HS.out.mono ?_
  rintro e3 w3 ⟨rfl, hsv⟩
  have b3 := hsv.2.blk B2.out (fun h => by have := ND.out _ h; omega)
  have e3 := E2.out.keeps hsv.2 (fun q hq => (ND.out q hq).2)
  have C3 := Lib.hid hsv.1
  have B3 := Lib.hid b3
  have E3 := Lib.hid e3
  clear hsv b3 e3 HS B2 E2
  go_wp2_with fail
  refine (HSH _).out.mono ?_
  rintro e4 w4 ⟨rfl, he4⟩
  have b4 := he4.blk B3.out
  have c4 := C3.out.keep he4.to_keeps (fun h => h) (fun h => h) (fun h => h) (fun h => h)
  have E4 := Lib.hid (E3.out.trans he4)
  have B4 := Lib.hid b4
  have C4 := Lib.hid c4
  have k0 : w4.cell? ⟨w1.heap.size, 0, none⟩ = some (.int .u64 (u : Int)) := by rw [cell_blk b4]; rfl
  have k1 : w4.cell? ⟨w1.heap.size, 1, none⟩ = some (.int .u64 (e : Int)) := by rw [cell_blk b4]; rfl
  have k2 : w4.cell? ⟨w1.heap.size, 2, none⟩ = some (num r) := by rw [cell_blk b4]; rfl
  have k3 : w4.cell? ⟨w1.heap.size, 3, none⟩ = some (num 5) := by rw [cell_blk b4]; rfl
  have k4 : w4.cell? ⟨w1.heap.size, 4, none⟩ = some (num 1) := by rw [cell_blk b4]; rfl
  have k5 : w4.cell? ⟨w1.heap.size, 5, none⟩ = some (num 3) := by rw [cell_blk b4]; rfl
  have k6 : w4.cell? ⟨w1.heap.size, 6, none⟩ = some (.bool false) := by rw [cell_blk b4]; rfl
  have k7 : w4.cell? ⟨w1.heap.size, 7, none⟩ = some (num 3) := by rw [cell_blk b4]; rfl
  have k8 : w4.cell? ⟨w1.heap.size, 8, none⟩ = some (num 0) := by rw [cell_blk b4]; rfl
  have k9 : w4.cell? ⟨w1.heap.size, 9, none⟩ = some (num 0) := by rw [cell_blk b4]; rfl
  obtain ⟨sa, sb, ha, hb, hpk⟩ := slots_first ⟨u, e, r, 5, 1, 3, 3⟩ HF.out
  have hnx0 := next_walk c4 (by decide) (by decide) (fun i hi x hx => by
    split at hx
    · exact supS_lt _ _ _ _ _ _ _ x hx
    · exact zeroS_lt x hx) sa sb ha hb ⟨u, e, r, 5, 1, 3, 3⟩ ⟨u, e, r, 5, 1, 3, 3⟩ hpk HFT.out
  obtain ⟨y, hy⟩ : ∃ y : Nat, e + 1 = y := ⟨_, rfl⟩
  obtain ⟨p, hp⟩ : ∃ p : Nat, y % 2 = p := ⟨_, rfl⟩
  have hnx : Calls Tryz.prog 14 #[ptr d, .agg #[.int .u64 (u : Int), .int .u64 (e : Int), num r, num 5, num 1, num 3, .bool false, num 3, num 0, num 0]] w4 fun r9 w' => r9 = .returned (.tuple #[.agg #[.int .u64 (u : Int), .int .u64 (y : Int), num r, num 5, num 1, num 3, .bool false, num 3, num 0, num 0], num 0]) ∧
      Saved w4 w' d sf m sp 4 1 (fun j => if j = e % 2 then supS u e r 5 1 3 3 else zeroS) (fun j => if j = ((e % 2 : Nat) : Int) then false else false) p (supS u y r 5 1 3 3) := by
    rw [← hp, ← hy]
    exact hnx0
  have HNX := Lib.hid hnx
  have hyi : (y : Int) = (e : Int) + 1 := by omega
  have hyw : IntKind.u64.wrap ((e : Int) + 1) = (y : Int) := by rw [IntKind.wrap_u64]; have := HFT.out.he; unfold two64 at this; omega
  have hym : (y : Int) % 2 = (p : Int) := by omega
  have hp2 : p < 2 := by omega
  have hpi : (p : Int) < 2 := by omega
  have HY := Lib.hid (And.intro hy (And.intro hyi hp))
  clear hnx0 hnx hy hyi hp
  clear HSH he4 b4 c4 ha hb hpk C3 B3 E3
  go_wp2_with fail
  clear k0 k1 k2 k3 k4 k5 k6 k7 k8 k9
  refine HNX.out.mono ?_
  rintro e5 w5 ⟨rfl, hsv⟩
  have b5 := hsv.2.blk B4.out (fun h => by have := ND.out _ h; omega)
  have e5 := E4.out.keeps hsv.2 (fun q hq => (ND.out q hq).2)
  have C5 := Lib.hid hsv.1
  have B5 := Lib.hid b5
  have E5 := Lib.hid e5
  clear hsv b5 e5 HNX B4 E4 C4
  have e6 := (Ext.refl w5).alloc (.cells #[.int .u64 (u : Int), .int .u64 (y : Int), num r, num 5, num 1, num 3, .bool false, num 3, num 0, num 0] 41)
  have n6 := alloc_new w5 (.cells #[.int .u64 (u : Int), .int .u64 (y : Int), num r, num 5, num 1, num 3, .bool false, num 3, num 0, num 0] 41)
  have b6 := e6.blk B5.out
  have c6 := C5.out.keep e6.to_keeps (fun h => h) (fun h => h) (fun h => h) (fun h => h)
  have E6 := Lib.hid (E5.out.trans e6)
  have hlt : ∀ i, i < 2 → ∀ x ∈ (fun j => if j = p then supS u y r 5 1 3 3 else if j = e % 2 then supS u e r 5 1 3 3 else zeroS) i, x < 256 := fun i hi x hx => by
    have hx : x ∈ (if i = p then supS u y r 5 1 3 3 else if i = e % 2 then supS u e r 5 1 3 3 else zeroS) := hx
    split at hx
    · exact supS_lt _ _ _ _ _ _ _ x hx
    · split at hx
      · exact supS_lt _ _ _ _ _ _ _ x hx
      · exact zeroS_lt x hx
  go_upto_region 6 with (fail)
  obtain ⟨w6, hw6⟩ : ∃ w6, w5.alloc (.cells #[.int .u64 (u : Int), .int .u64 (y : Int), num r, num 5, num 1, num 3, .bool false, num 3, num 0, num 0] 41) = w6 := ⟨_, rfl⟩
  rw [hw6] at e6 n6 b6 c6 E6 ⊢
  clear hw6
  have hrd := read_walk c6 p (by omega) (hlt _ (by omega))
  simp only [if_true, Bool.false_eq_true, if_false] at hrd
  have HRD := Lib.hid hrd
  have HLT := Lib.hid hlt
  have C6 := Lib.hid c6
  have B6 := Lib.hid (And.intro n6 (And.intro b6 (block_lt B5.out)))
  have y1 : w6.cell? ⟨w5.heap.size, 1, none⟩ = some (.int .u64 (y : Int)) := by rw [cell_blk n6]; rfl
  have z1 : w6.cell? ⟨w1.heap.size, 1, none⟩ = some (.int .u64 (e : Int)) := by rw [cell_blk b6]; rfl
  have hys : (textOf (supS u y r 5 1 3 3)).size = 64 := by rw [textOf_size]; exact supS_len ..
  obtain ⟨U3, hU3⟩ := open_any (textOf (supS u y r 5 1 3 3)) hys (lb := true) (by rw [secOf_textOf (fun x hx => supS_lt _ _ _ _ _ _ _ x hx)]; exact supS_open ..)
  have HOP := fun W => Lib.hid (hU3 W)
  clear hrd hlt c6 n6 b6 e6 hU3 hys C5 B5 E5
  generalize textOf (supS u y r 5 1 3 3) = T at HRD HOP
  go_wp2_with fail
  refine HRD.out.mono ?_
  rintro e7 w7 ⟨rfl, rfl⟩
  clear HRD
  go_wp2_with fail
  refine (HOP _).out.mono ?_
  rintro e8 w8 ⟨rfl, he8⟩
  have n8 := he8.blk B6.out.1
  have b8 := he8.blk B6.out.2.1
  have c8 := C6.out.keep he8.to_keeps (fun h => h) (fun h => h) (fun h => h) (fun h => h)
  have y1 : w8.cell? ⟨w5.heap.size, 1, none⟩ = some (.int .u64 (y : Int)) := by rw [cell_blk n8]; rfl
  have z1 : w8.cell? ⟨w1.heap.size, 1, none⟩ = some (.int .u64 (e : Int)) := by rw [cell_blk b8]; rfl
  have E8 := Lib.hid (E6.out.trans he8)
  have B8 := Lib.hid (And.intro n8 (And.intro b8 B6.out.2.2))
  have C8 := Lib.hid c8
  have hft : Sup.Fine ⟨u, y, r, 5, 1, 3, 3⟩ := by have h := HFT.out; rw [HY.out.1] at h; exact h
  have HFY := Lib.hid hft
  clear HOP he8 n8 b8 c8 E6 B6 C6 hft HFT
  have hpe : (e + 1) % 2 = p := by rw [HY.out.1]; exact HY.out.2.2
  have HPE := Lib.hid hpe
  clear hpe
  cases spoil
  · obtain ⟨sa2, sb2, ha, hb, hpk⟩ := slots_second ⟨u, e, r, 5, 1, 3, 3⟩ ⟨u, y, r, 5, 1, 3, 3⟩ HF.out HFY.out HY.out.1.symm
    have HLD := Lib.hid (load_walk C8.out (by decide) HLT.out sa2 sb2 (by rw [← HPE.out]; exact ha) (by rw [← HPE.out]; exact hb) ⟨u, y, r, 5, 1, 3, 3⟩ hpk)
    clear ha hb hpk
    go_wp2_with fail
    clear y1 z1
    refine HLD.out.mono ?_
    rintro e9 w9 ⟨rfl, he9⟩
    have E9 := Lib.hid (E8.out.trans he9)
    unfold Sup.cells supC
    clear HLD
    go_upto_region 13 with (fail)
    obtain ⟨wb, hwb⟩ : ∃ wb, w9.alloc (.cells #[.int .u64 (u : Int), .int .u64 (y : Int), num r, num 5, num 1, num 3, .bool false, num 3, num 0, num 0] 41) = wb := ⟨_, rfl⟩
    have eb : Ext w9 wb := by rw [← hwb]; exact (Ext.refl w9).alloc _
    have bb : wb.heap[w9.heap.size]? = some (.cells #[.int .u64 (u : Int), .int .u64 (y : Int), num r, num 5, num 1, num 3, .bool false, num 3, num 0, num 0] 41) := by rw [← hwb]; exact alloc_new w9 _
    have b9 := eb.blk (he9.blk B8.out.1)
    have EB := Lib.hid (E9.out.trans eb)
    have l0 : wb.cell? ⟨w9.heap.size, 0, none⟩ = some (.int .u64 (u : Int)) := by rw [cell_blk bb]; rfl
    have l1 : wb.cell? ⟨w9.heap.size, 1, none⟩ = some (.int .u64 (y : Int)) := by rw [cell_blk bb]; rfl
    have l2 : wb.cell? ⟨w9.heap.size, 2, none⟩ = some (num r) := by rw [cell_blk bb]; rfl
    have l3 : wb.cell? ⟨w9.heap.size, 3, none⟩ = some (num 5) := by rw [cell_blk bb]; rfl
    have l4 : wb.cell? ⟨w9.heap.size, 4, none⟩ = some (num 1) := by rw [cell_blk bb]; rfl
    have l5 : wb.cell? ⟨w9.heap.size, 5, none⟩ = some (num 3) := by rw [cell_blk bb]; rfl
    have l6 : wb.cell? ⟨w9.heap.size, 6, none⟩ = some (.bool false) := by rw [cell_blk bb]; rfl
    have l7 : wb.cell? ⟨w9.heap.size, 7, none⟩ = some (num 3) := by rw [cell_blk bb]; rfl
    have l8 : wb.cell? ⟨w9.heap.size, 8, none⟩ = some (num 0) := by rw [cell_blk bb]; rfl
    have l9 : wb.cell? ⟨w9.heap.size, 9, none⟩ = some (num 0) := by rw [cell_blk bb]; rfl
    have k0 : wb.cell? ⟨w5.heap.size, 0, none⟩ = some (.int .u64 (u : Int)) := by rw [cell_blk b9]; rfl
    have k1 : wb.cell? ⟨w5.heap.size, 1, none⟩ = some (.int .u64 (y : Int)) := by rw [cell_blk b9]; rfl
    have k2 : wb.cell? ⟨w5.heap.size, 2, none⟩ = some (num r) := by rw [cell_blk b9]; rfl
    have k3 : wb.cell? ⟨w5.heap.size, 3, none⟩ = some (num 5) := by rw [cell_blk b9]; rfl
    have k4 : wb.cell? ⟨w5.heap.size, 4, none⟩ = some (num 1) := by rw [cell_blk b9]; rfl
    have k5 : wb.cell? ⟨w5.heap.size, 5, none⟩ = some (num 3) := by rw [cell_blk b9]; rfl
    have k6 : wb.cell? ⟨w5.heap.size, 6, none⟩ = some (.bool false) := by rw [cell_blk b9]; rfl
    have k7 : wb.cell? ⟨w5.heap.size, 7, none⟩ = some (num 3) := by rw [cell_blk b9]; rfl
    have k8 : wb.cell? ⟨w5.heap.size, 8, none⟩ = some (num 0) := by rw [cell_blk b9]; rfl
    have k9 : wb.cell? ⟨w5.heap.size, 9, none⟩ = some (num 0) := by rw [cell_blk b9]; rfl
    clear bb b9 eb he9
    go_wp2_with fail
    go_ret
    exact ⟨rfl, EB.out⟩
  · have HSP := Lib.hid (spoil_keeps C8.out p (by omega) (by decide))
    go_wp2_with fail
    clear y1 z1
    refine HSP.out.mono ?_
    rintro ea wa ⟨rfl, hca, hka⟩
    have ba := hka.blk B8.out.2.1 (fun h => by have := (ND.out _ (.inr (.inr (.inr h)))).1; omega)
    have E8 := Lib.hid (E8.out.keeps hka (fun q hq => (ND.out q (.inr (.inr (.inr hq)))).2))
    obtain ⟨sa2, sb2, ha, hb, hpk⟩ := slots_spoilt ⟨u, e, r, 5, 1, 3, 3⟩ ⟨u, y, r, 5, 1, 3, 3⟩ HF.out
    have HLD := Lib.hid (load_walk hca (by decide) HLT.out sa2 sb2 (by rw [← HPE.out]; exact ha) (by rw [← HPE.out]; exact hb) ⟨u, e, r, 5, 1, 3, 3⟩ hpk)
    have BA := Lib.hid ba
    clear ha hb hpk hca hka ba HSP
    go_wp2_with fail
    refine HLD.out.mono ?_
    rintro e9 w9 ⟨rfl, he9⟩
    have E9 := Lib.hid (E8.out.trans he9)
    unfold Sup.cells supC
    clear HLD
    go_upto_region 13 with (fail)
    obtain ⟨wb, hwb⟩ : ∃ wb, w9.alloc (.cells #[.int .u64 (u : Int), .int .u64 (e : Int), num r, num 5, num 1, num 3, .bool false, num 3, num 0, num 0] 41) = wb := ⟨_, rfl⟩
    have eb : Ext w9 wb := by rw [← hwb]; exact (Ext.refl w9).alloc _
    have bb : wb.heap[w9.heap.size]? = some (.cells #[.int .u64 (u : Int), .int .u64 (e : Int), num r, num 5, num 1, num 3, .bool false, num 3, num 0, num 0] 41) := by rw [← hwb]; exact alloc_new w9 _
    have b9 := eb.blk (he9.blk BA.out)
    have EB := Lib.hid (E9.out.trans eb)
    have l0 : wb.cell? ⟨w9.heap.size, 0, none⟩ = some (.int .u64 (u : Int)) := by rw [cell_blk bb]; rfl
    have l1 : wb.cell? ⟨w9.heap.size, 1, none⟩ = some (.int .u64 (e : Int)) := by rw [cell_blk bb]; rfl
    have l2 : wb.cell? ⟨w9.heap.size, 2, none⟩ = some (num r) := by rw [cell_blk bb]; rfl
    have l3 : wb.cell? ⟨w9.heap.size, 3, none⟩ = some (num 5) := by rw [cell_blk bb]; rfl
    have l4 : wb.cell? ⟨w9.heap.size, 4, none⟩ = some (num 1) := by rw [cell_blk bb]; rfl
    have l5 : wb.cell? ⟨w9.heap.size, 5, none⟩ = some (num 3) := by rw [cell_blk bb]; rfl
    have l6 : wb.cell? ⟨w9.heap.size, 6, none⟩ = some (.bool false) := by rw [cell_blk bb]; rfl
    have l7 : wb.cell? ⟨w9.heap.size, 7, none⟩ = some (num 3) := by rw [cell_blk bb]; rfl
    have l8 : wb.cell? ⟨w9.heap.size, 8, none⟩ = some (num 0) := by rw [cell_blk bb]; rfl
    have l9 : wb.cell? ⟨w9.heap.size, 9, none⟩ = some (num 0) := by rw [cell_blk bb]; rfl
    have k0 : wb.cell? ⟨w1.heap.size, 0, none⟩ = some (.int .u64 (u : Int)) := by rw [cell_blk b9]; rfl
    have k1 : wb.cell? ⟨w1.heap.size, 1, none⟩ = some (.int .u64 (e : Int)) := by rw [cell_blk b9]; rfl
    have k2 : wb.cell? ⟨w1.heap.size, 2, none⟩ = some (num r) := by rw [cell_blk b9]; rfl
    have k3 : wb.cell? ⟨w1.heap.size, 3, none⟩ = some (num 5) := by rw [cell_blk b9]; rfl
    have k4 : wb.cell? ⟨w1.heap.size, 4, none⟩ = some (num 1) := by rw [cell_blk b9]; rfl
    have k5 : wb.cell? ⟨w1.heap.size, 5, none⟩ = some (num 3) := by rw [cell_blk b9]; rfl
    have k6 : wb.cell? ⟨w1.heap.size, 6, none⟩ = some (.bool false) := by rw [cell_blk b9]; rfl
    have k7 : wb.cell? ⟨w1.heap.size, 7, none⟩ = some (num 3) := by rw [cell_blk b9]; rfl
    have k8 : wb.cell? ⟨w1.heap.size, 8, none⟩ = some (num 0) := by rw [cell_blk b9]; rfl
    have k9 : wb.cell? ⟨w1.heap.size, 9, none⟩ = some (num 0) := by rw [cell_blk b9]; rfl
    clear bb b9 eb he9
    go_wp2_with fail
    go_ret
    exact ⟨rfl, EB.out⟩

end Go.Proofs.YtdilchcnfnfdiaaGreatDoor
