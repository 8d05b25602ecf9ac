/- IntentMerges: the walk, whole. -/
import Derived.Test.YtabjknljcmcmfaaDoorLawIMerges
namespace Go.Proofs.YtabjknljcmcmfaaDoor
open Go.RowKit

def AnyRel (W0 : World) (n m bz k bk len : Nat) (i : Value) (wr : World) : Prop := ∃ j : Nat, j ≤ len ∧ i = num j ∧ AnyMaps W0 n m bz k bk wr

theorem TwoMaps.ltB {W0 W : World} {n m bz k bk sa sb : Nat} (h : TwoMaps W0 n m bz k bk sa sb W) : k < W.heap.size ∧ bk < W.heap.size := by
  obtain ⟨_, ⟨b1, h1⟩, _⟩ := h
  exact h1.lt
theorem any_take {xs : List Int} {p : Int → Bool} {j : Nat} (h : j < xs.length) : (xs.take (j + 1)).any p = ((xs.take j).any p || p (xs.getD j 0)) := by
  rw [List.take_succ_eq_append_getElem h, List.any_append]
  simp [List.getD_eq_getElem?_getD, h]
theorem any_bits (x r : Nat) (hr : r < 64) : ((bitsI x).any fun y => y == (r : Int)) = x.testBit r := by
  rw [Bool.eq_iff_iff, List.any_eq_true, ← mem_bitsOf (x := x) hr]
  unfold bitsI
  constructor
  · rintro ⟨y, hy, he⟩
    obtain ⟨i, hi, rfl⟩ := List.mem_map.1 hy
    have : i = r := by
      have : (i : Int) = (r : Int) := by simpa using he
      omega
    rw [← this]
    exact hi
  · intro h
    exact ⟨(r : Int), List.mem_map.2 ⟨r, h, rfl⟩, by simp⟩
def WantRel (xs : List Int) (r : Nat) (w : World) (b i : Value) (wr : World) : Prop := ∃ j : Nat, j ≤ xs.length ∧ i = num j ∧ b = .bool ((xs.take j).any fun y => y == (r : Int)) ∧ wr = w
def RegsRel (W : World) (q : Nat) (i : Value) (wr : World) : Prop := ∃ r : Nat, r ≤ q ∧ i = num r ∧ Ext W wr

set_option maxRecDepth 100000 in
set_option maxHeartbeats 4000000 in
theorem imerges_walk (rows : Nat) (A : Option Addr) (len cap : Nat) (z : Nat → Nat) (A' : Option Addr) (len' cap' : Nat) (z' : Nat → Nat) {w : World} (ht : Tab 0 w) (hg : 0 < w.heap.size)
    (hr : rows ≤ 255) (hl : len ≤ 100) (hl' : len' ≤ 100) (hz : ByteArg w A len z) (hz' : ByteArg w A' len' z') :
    Calls Tryd.prog 5 #[.int .u8 rows, .slice A len cap, .slice A' len' cap'] w fun e w' => e = .returned (.bool true) ∧ Below w.heap.size w w' := by
  obtain ⟨n, hn⟩ : ∃ n : Nat, n = 1 + rows := ⟨_, rfl⟩
  have hn1 : 1 ≤ n := by omega
  have hn2 : n ≤ 256 := by omega
  have hN : 1 + (rows : Int) = (n : Int) := by omega
  have S := Lib.hid (shown_walk ht hg)
  have HT := Lib.hid ht
  have HG := Lib.hid hg
  have HZ := Lib.hid hz
  have HZ' := Lib.hid hz'
  have HW := Lib.hid (fun W : World => new_walk n W hn1 hn2)
  clear ht hg hz hz' hn
  go_enter Tryd.func5, Tryd.ntmps5
  go_wp2_with fail
  refine S.out.mono ?_
  rintro e w1 ⟨rfl, e1⟩
  have E1 := Lib.hid e1
  clear S e1
  go_wp2_with fail
  refine (HW.out w1).mono ?_
  rintro e w2 ⟨m, bz, rfl, hm, l1, l2, e2⟩
  have HM := Lib.hid hm
  have HL := Lib.hid (And.intro l1 l2)
  have E2 := Lib.hid e2
  clear hm l1 l2 e2 hN
  go_wp2_with fail
  refine (HW.out w2).mono ?_
  rintro e w3 ⟨k, bk, rfl, hk, l1, l2, e3⟩
  have hlt := HM.out.lt
  have s1 := E1.out.size
  have s2 := E2.out.size
  have hL := HL.out
  have D := Lib.hid (show Apart w m bz k bk from ⟨by omega, by omega, by omega, by omega, by omega, by omega, by omega, by omega⟩)
  have T0 := Lib.hid (show AnyMaps w n m bz k bk w3 from ⟨0, 0, ⟨⟨_, HM.out.ext e3⟩, ⟨_, hk⟩, Nat.two_pow_pos _, Nat.two_pow_pos _, (E1.out.trans E2.out).trans e3⟩⟩)
  have hq1 : 1 ≤ regs n := by unfold regs; omega
  have hq2 := regs_le hn2
  clear hk l1 l2 e3 hlt s1 s2 hL HM HL E1 E2 HW
  go_wp2_with fail
  go_loopw [10] (fun i wr => AnyRel w n m bz k bk len i wr) (fun i _ => len - (intOf i).toNat)
  case atStart => exact ⟨0, Nat.zero_le _, rfl, T0.out⟩
  case round =>
    obtain ⟨j, hj, rfl, ha⟩ := hrel
    clear T0
    by_cases hlt : j < len
    · obtain ⟨hy, x, rfl, hc⟩ := HZ.out j hlt
      have C0 := Lib.hid hc
      clear HZ HZ' hc
      generalize z j = y at hy C0
      have r1 : ∀ W : In (AnyMaps w n m bz k bk), W.val.cell? (x.add j) = some (.int .u8 (y : Nat)) := fun W => W.is.ext.cell C0.out
      have ne : Nonempty (In (AnyMaps w n m bz k bk)) := ⟨⟨wr, ha⟩⟩
      have DR := Lib.hid ha.drew
      have hyq : y % regs n < regs n := Nat.mod_lt _ (by omega)
      have hcast : ((y % regs n : Nat) : Int) = (y : Int) % (regs n : Int) := Int.natCast_emod _ _
      have HMk := Lib.hid (fun W : In (AnyMaps w n m bz k bk) => any_markA W D.out (y % regs n) hyq)
      rw [hcast] at HMk
      have HRg := Lib.hid (fun W : In (AnyMaps w n m bz k bk) => any_regsA W)
      clear C0 ha hcast hyq
      generalize regs n = q at HMk HRg hq1 hq2
      go_wp2_with fail
      refine wp_region_class (AnyMaps w n m bz k bk) (by kernel_rfl) (by kernel_rfl) DR.out ?_
      repeat (go_big_quiet_step (first
        | (go_at_call 13; exact HMk.out _)
        | (go_at_call 10; exact HRg.out _)))
      refine wpQuiet_nil ?_
      intro w7 hw'
      have ha : AnyMaps w n m bz k bk w7 := by obtain ⟨W, rfl⟩ := hw'; exact W.is
      clear hw' r1 ne DR HMk HRg
      go_wp2_with fail
      go_roundw
      case rel => exact ⟨j + 1, by omega, by go_num, ha⟩
      case measure => simp [intOf]; omega
    · have HA := Lib.hid ha
      clear ha HZ
      go_wp2_with fail
      go_loopw [11] (fun i wx => AnyRel w n m bz k bk len' i wx) (fun i _ => len' - (intOf i).toNat)
      case atStart => exact ⟨0, Nat.zero_le _, rfl, HA.out⟩
      case round =>
        clear HA
        obtain ⟨i, hi, rfl, ha⟩ := hrel
        by_cases hlt' : i < len'
        · obtain ⟨hy, x, rfl, hc⟩ := HZ'.out i hlt'
          have C0 := Lib.hid hc
          clear HZ' hc
          generalize z' i = y at hy C0
          have r1 : ∀ W : In (AnyMaps w n m bz k bk), W.val.cell? (x.add i) = some (.int .u8 (y : Nat)) := fun W => W.is.ext.cell C0.out
          have ne : Nonempty (In (AnyMaps w n m bz k bk)) := ⟨⟨_, ha⟩⟩
          have DR := Lib.hid ha.drew
          have hyq : y % regs n < regs n := Nat.mod_lt _ (by omega)
          have hcast : ((y % regs n : Nat) : Int) = (y : Int) % (regs n : Int) := Int.natCast_emod _ _
          have HMk := Lib.hid (fun W : In (AnyMaps w n m bz k bk) => any_markB W D.out (y % regs n) hyq)
          rw [hcast] at HMk
          have HRg := Lib.hid (fun W : In (AnyMaps w n m bz k bk) => any_regsB W)
          clear C0 ha hcast hyq
          generalize regs n = q at HMk HRg hq1 hq2
          go_wp2_with fail
          refine wp_region_class (AnyMaps w n m bz k bk) (by kernel_rfl) (by kernel_rfl) DR.out ?_
          repeat (go_big_quiet_step (first
            | (go_at_call 13; exact HMk.out _)
            | (go_at_call 10; exact HRg.out _)))
          refine wpQuiet_nil ?_
          intro w7 hw'
          have ha : AnyMaps w n m bz k bk w7 := by obtain ⟨W, rfl⟩ := hw'; exact W.is
          clear hw' r1 ne DR HMk HRg
          go_wp2_with fail
          go_roundw
          case rel => exact ⟨i + 1, by omega, by go_num, ha⟩
          case measure => simp [intOf]; omega
        · obtain ⟨sa, sb, h4⟩ := ha
          have HD := Lib.hid (h4.dirtyB (HT.out.ext h4.ext) (by have := h4.ext.size; have := HG.out; omega))
          have H4 := Lib.hid h4
          clear h4 HZ'
          go_wp2_with fail
          refine HD.out.mono ?_
          rintro e w5 ⟨v, rfl, hv, e5⟩
          have T5 := H4.out.later e5
          have hlt4 := H4.out.ltB
          have HLT := Lib.hid hlt4
          have HO := Lib.hid (show ∀ w', Keeps (mapF k bk) w5 w' → Own w' wr.heap.size v (bitsI sb) from fun w' kk => hv.keep kk (fun g hg hf => by
            have := hv.lt hg
            rcases hf with rfl | rfl <;> omega))
          have HB5 := Lib.hid T5.bytesA
          have H5 := Lib.hid T5
          clear hv e5 HD T5 hlt4 H4
          go_wp2_with fail
          refine HB5.out.mono ?_
          rintro e w6 ⟨rfl, e6⟩
          have T6 := H5.out.later e6
          have HM6 := Lib.hid (T6.mergeB D.out hn2)
          have K6 := Lib.hid (e6.to_keeps.mono (G := mapF k bk) (fun _ h => h.elim))
          clear HB5 e6 T6 H5
          go_wp2_with fail
          refine HM6.out.mono ?_
          rintro e w7 ⟨rfl, h7, k7⟩
          have HO7 := Lib.hid (HO.out w7 (K6.out.trans k7 (fun _ h => .inl h)))
          have HD := Lib.hid (h7.dirtyB (HT.out.ext h7.ext) (by have := h7.ext.size; have := HG.out; omega))
          have H7 := Lib.hid h7
          clear HM6 h7 k7 HO K6
          go_wp2_with fail
          refine HD.out.mono ?_
          rintro e w8 ⟨v2, rfl, hv2, e8⟩
          have T8 := H7.out.later e8
          have hlt7 := H7.out.ltB
          have HO2 := Lib.hid (show ∀ w', Keeps (mapF k bk) w8 w' → Own w' w7.heap.size v2 (bitsI (sb ||| sa)) from fun w' kk => hv2.keep kk (fun g hg hf => by
            have := hv2.lt hg
            rcases hf with rfl | rfl <;> omega))
          have HO1 := Lib.hid (show ∀ w', Keeps (mapF k bk) w8 w' → RdI w' v (bitsI sb) from fun w' kk => ((HO7.out.keep e8.to_keeps (fun _ _ h => h)).keep kk (fun g hg hf => by
            have := (HO7.out.keep e8.to_keeps (fun _ _ h => h)).lt hg
            have := HLT.out
            rcases hf with rfl | rfl <;> omega)).rd)
          have HB8 := Lib.hid T8.bytesA
          have H8 := Lib.hid T8
          clear hv2 e8 HD T8 hlt7 H7 HO7 HLT
          go_wp2_with fail
          refine HB8.out.mono ?_
          rintro e w9 ⟨rfl, e9⟩
          have T9 := H8.out.later e9
          have HM9 := Lib.hid (T9.mergeB D.out hn2)
          have K9 := Lib.hid (e9.to_keeps.mono (G := mapF k bk) (fun _ h => h.elim))
          clear HB8 e9 T9 H8
          go_wp2_with fail
          refine HM9.out.mono ?_
          rintro e w10 ⟨rfl, h10, k10⟩
          rw [Nat.or_assoc, Nat.or_self] at h10
          have kk := K9.out.trans k10 (fun _ h => .inl h)
          have R1 := HO1.out w10 kk
          have R2 := Lib.hid (HO2.out w10 kk).rd
          obtain ⟨A1, c1, rfl, hc1, hcell⟩ := R1
          have HC := Lib.hid hcell
          have H10 := Lib.hid h10
          clear HM9 h10 k10 HO1 HO2 K9 kk hcell
          have hl64 := bitsI_len sb
          obtain ⟨xs, hxs⟩ : ∃ xs, bitsI sb = xs := ⟨_, rfl⟩
          have HX := Lib.hid hxs
          rw [hxs] at HC hc1 hl64 ⊢
          clear hxs
          have hqn : (regs n : Int) ≤ 64 := by omega
          go_wp2_with fail
          go_loopw [15] (fun r wx => RegsRel w10 (regs n) r wx) (fun r _ => regs n - (intOf r).toNat)
          case atStart => exact ⟨0, Nat.zero_le _, rfl, Ext.refl _⟩
          case round =>
            obtain ⟨r, hrq, rfl, he⟩ := hrel
            have HR := Lib.hid (H10.out.later he).regsA
            by_cases hlt3 : r < regs n
            · have hlt3' : (r : Int) < (regs n : Int) := by omega
              have HE := Lib.hid he
              have HSB := Lib.hid ((H10.out.later he).staleB r hlt3)
              have HSA := Lib.hid (fun W' e => ((H10.out.later (W' := W') (he.trans e)).staleA r hlt3))
              have hcx : ∀ i, i < xs.length → ∃ x, A1 = some x ∧ _ := fun i hi => by
                obtain ⟨x, hx, hc⟩ := HC.out i hi
                exact ⟨x, hx, he.cell hc⟩
              have HCX := Lib.hid hcx
              clear hcx he
              go_wp2_with fail
              refine HR.out.mono ?_
              rintro e w11 ⟨rfl, rfl⟩
              clear HR
              go_wp2_with fail
              go_loopw [16, 17] (fun b i wy => WantRel xs r w11 b i wy) (fun _ i _ => xs.length - (intOf i).toNat)
              case atStart => exact ⟨0, Nat.zero_le _, rfl, rfl, rfl⟩
              case round =>
                obtain ⟨i, hi, rfl, rfl, rfl⟩ := hrel
                by_cases hlt4 : i < xs.length
                · obtain ⟨x, rfl, hc⟩ := HCX.out i hlt4
                  have HA := Lib.hid (any_take (p := fun y => y == (r : Int)) hlt4)
                  clear HCX HC
                  generalize xs.getD i 0 = y at hc HA
                  generalize hb : (xs.take i).any (fun y => y == (r : Int)) = b at HA ⊢
                  cases b
                  · clear hb
                    go_wp2_with fail
                    go_roundw
                    case rel => exact ⟨i + 1, by omega, by go_num, by rw [HA.out]; simp, rfl⟩
                    case measure => simp [intOf]; omega
                  · clear hb hc
                    go_wp2_with fail
                    go_roundw
                    case rel => exact ⟨i + 1, by omega, by go_num, by rw [HA.out]; simp, rfl⟩
                    case measure => simp [intOf]; omega
                · have hb : (xs.take i).any (fun y => y == (r : Int)) = sb.testBit r := by
                    rw [List.take_of_length_le (by omega), ← HX.out]
                    exact any_bits sb r (by omega)
                  rw [hb]
                  rw [Nat.testBit_or] at HSB
                  clear hb HCX HC
                  generalize sb.testBit r = b at HSB ⊢
                  generalize sa.testBit r = c at HSB HSA
                  have hcc : (c != c) = false := by simp
                  cases b
                  · rw [Bool.false_or] at HSB
                    go_wp2_with fail
                    rw [show (r : Int) * 4 = ((r * 4 : Nat) : Int) by omega]
                    refine HSB.out.mono ?_
                    rintro e wa ⟨rfl, ea⟩
                    have HSA' := Lib.hid (HSA.out wa ea)
                    have E := Lib.hid (HE.out.trans ea)
                    clear HSB HSA HE ea
                    go_wp2_with fail
                    rw [show (r : Int) * 4 = ((r * 4 : Nat) : Int) by omega]
                    refine HSA'.out.mono ?_
                    rintro e wb ⟨rfl, eb⟩
                    have E' := Lib.hid (E.out.trans eb)
                    clear HSA' eb E
                    go_wp2_with fail
                    go_roundw
                    case rel => exact ⟨r + 1, by omega, by go_num, E'.out⟩
                    case measure => simp [intOf]; omega
                  · rw [Bool.true_or] at HSB
                    go_wp2_with fail
                    rw [show (r : Int) * 4 = ((r * 4 : Nat) : Int) by omega]
                    refine HSB.out.mono ?_
                    rintro e wa ⟨rfl, ea⟩
                    have E := Lib.hid (HE.out.trans ea)
                    clear HSB HSA HE ea
                    go_wp2_with fail
                    go_roundw
                    case rel => exact ⟨r + 1, by omega, by go_num, E.out⟩
                    case measure => simp [intOf]; omega
            · have hlt3' : ¬ (r : Int) < (regs n : Int) := by omega
              have T := H10.out.later he
              have HD := Lib.hid (T.dirtyB (HT.out.ext T.ext) (by have := T.ext.size; have := HG.out; omega))
              have HE := Lib.hid he
              have HTE := Lib.hid T.ext
              clear T he
              go_wp2_with fail
              refine HR.out.mono ?_
              rintro e w11 ⟨rfl, rfl⟩
              clear HR
              go_wp2_with fail
              refine HD.out.mono ?_
              rintro e w12 ⟨v3, rfl, hv3, e12⟩
              have SM := Lib.hid (same_rd (R2.out.ext (HE.out.trans e12)) hv3.rd (by have := bitsI_len (sb ||| sa); omega) (by have := bitsI_len (sb ||| sa); omega))
              have E12 := Lib.hid (HTE.out.trans e12)
              clear hv3 e12 HD HTE HE R2
              go_wp2_with fail
              refine SM.out.mono ?_
              rintro e w13 ⟨rfl, k', rfl⟩
              have E13 := Lib.hid (E12.out.drewN k')
              clear SM E12
              go_wp2
              go_ret
              exact ⟨by simp, E13.out⟩

end Go.Proofs.YtabjknljcmcmfaaDoor
