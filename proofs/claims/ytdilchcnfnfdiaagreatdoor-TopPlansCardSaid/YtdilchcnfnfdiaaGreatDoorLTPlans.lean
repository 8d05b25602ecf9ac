/- TopPlans: the law answers true at whatever columns, flags and width: the walk through it. Conditions: the slices that came in lie in memory, the flags are fewer than 2^63. -/
import Derived.Test.YtdilchcnfnfdiaaGreatDoorTPlanG
import Derived.Test.YtdilchcnfnfdiaaGreatDoorTShown
import Derived.Test.YtdilchcnfnfdiaaGreatDoorClass
import Derived.StillTailTactics
namespace Go.Proofs.YtdilchcnfnfdiaaGreatDoor
open Go.RowKit
open Go.ChangeMaps (setBlock)

set_option maxRecDepth 100000 in
set_option maxHeartbeats 4000000 in
theorem plans_heavy (w : World) (v0 v1 v2 : Value) (l m : List ByteArray) (many : Nat) (hl : RdT w v0 l) (hm : RdT w v1 m) (h : heavyT l ∨ heavyT m) :
    Calls Tryz.prog 6 #[v0, v1, v2, .int .u8 many] w fun e w' => e = .returned (.bool true) ∧ Ext w w' := by
  have H1 := Lib.hid (heavyT_walk w v0 l hl)
  have H2 := Lib.hid (heavyT_walk w v1 m hm)
  have SH := Lib.hid (shown_walk w)
  have HD := Lib.hid h
  clear hl hm h
  go_enter Tryz.func6, Tryz.ntmps6
  go_wp2_with fail
  refine H1.out.mono ?_
  rintro e w1 ⟨b, rfl, hb, rfl⟩
  cases b with
  | true =>
    clear H1 H2 HD hb
    go_wp2_with fail
    refine SH.out.mono ?_
    rintro e w2 ⟨rfl, he⟩
    have R := Lib.hid he
    clear SH he
    go_wp2_with fail
    go_ret
    exact ⟨rfl, R.out⟩
  | false =>
    have HN := Lib.hid hb
    clear H1 hb
    go_wp2_with fail
    refine H2.out.mono ?_
    rintro e w2 ⟨b, rfl, hb, rfl⟩
    have hbt : b = true := hb.2 (HD.out.resolve_left (fun h => Bool.noConfusion (HN.out.2 h)))
    subst hbt
    clear H2 HD hb HN
    go_wp2_with fail
    refine SH.out.mono ?_
    rintro e w2 ⟨rfl, he⟩
    have R := Lib.hid he
    clear SH he
    go_wp2_with fail
    go_ret
    exact ⟨rfl, R.out⟩

set_option maxRecDepth 100000 in
set_option maxHeartbeats 40000000 in
theorem plans_main (w : World) (v0 v1 v2 : Value) (l m : List ByteArray) (xs : List Bool) (many : Nat) (hl : RdT w v0 l) (hm : RdT w v1 m) (hx : RdB w v2 xs) (hxs : (xs.length : Int) ≤ 9223372036854775807) (hL : ¬ heavyT l) (hM : ¬ heavyT m) (hmany : many ≤ 255) :
    Calls Tryz.prog 6 #[v0, v1, v2, .int .u8 many] w fun e w' => e = .returned (.bool true) ∧ Ext w w' := by
  obtain ⟨n, hn⟩ : ∃ n : Nat, n = 2 + many % 7 := ⟨_, rfl⟩
  have hn2 : 2 ≤ n := by omega
  have hn8 : n ≤ 8 := by omega
  have HN := Lib.hid (show 2 + (many : Int) % 7 = (n : Int) by omega)
  have hl40 : l.length ≤ 40 := by by_cases h : 40 < l.length; exact absurd (.inl h) hL; omega
  have hm40 : m.length ≤ 40 := by by_cases h : 40 < m.length; exact absurd (.inl h) hM; omega
  have hls : ∀ j, j < l.length → (l.getD j ByteArray.empty).size ≤ 100 := fun j hj => by by_cases h : 100 < (l.getD j ByteArray.empty).size; exact absurd (.inr ⟨j, hj, h⟩) hL; omega
  have hms : ∀ j, j < m.length → (m.getD j ByteArray.empty).size ≤ 100 := fun j hj => by by_cases h : 100 < (m.getD j ByteArray.empty).size; exact absurd (.inr ⟨j, hj, h⟩) hM; omega
  have H1 := Lib.hid (heavyT_walk w v0 l hl)
  have H2 := Lib.hid (heavyT_walk w v1 m hm)
  have SH := Lib.hid (shown_walk w)
  have SQ1 := Lib.hid (fun W (e : Ext w W) => squareT_walk W v0 l n (hl.ext e) hl40 hls hn8)
  have SQ2 := Lib.hid (fun W (e : Ext w W) => squareT_walk W v1 m n (hm.ext e) hm40 hms hn8)
  have HX := Lib.hid hx
  have HL := Lib.hid (And.intro hL hM)
  clear hl hm hx hL hM hl40 hm40 hls hms hn
  go_enter Tryz.func6, Tryz.ntmps6
  have hN := HN.out
  go_wp2_with fail
  refine H1.out.mono ?_
  rintro e w1 ⟨b, rfl, hb, hw⟩
  obtain rfl := hw.symm
  obtain rfl : b = false := by cases b; rfl; exact absurd (hb.1 rfl) HL.out.1
  clear H1 hb
  go_wp2_with fail
  refine H2.out.mono ?_
  rintro e w2 ⟨b, rfl, hb, hw⟩
  obtain rfl := hw.symm
  obtain rfl : b = false := by cases b; rfl; exact absurd (hb.1 rfl) HL.out.2
  clear H2 hb HL
  go_wp2_with fail
  refine SH.out.mono ?_
  rintro e w1 ⟨rfl, he⟩
  have E1 := Lib.hid he
  clear SH he
  go_wp2_with fail
  clear hN
  refine (SQ1.out _ E1.out).mono ?_
  rintro e w2 ⟨u0, rfl, ho, he⟩
  have OL := Lib.hid ho
  have E2 := Lib.hid (E1.out.trans he)
  clear SQ1 E1 ho he
  go_wp2_with fail
  have E3 := Lib.hid (((E2.out).alloc (.cells #[] 9)).alloc (.cells #[] 4))
  refine (SQ2.out _ E3.out).mono ?_
  rintro e w3 ⟨u9, rfl, hf, he⟩
  have T0 := Lib.hid (Two.start w2 (B := w.heap.size) E2.out.size he)
  have E4 := Lib.hid (E3.out.trans he)
  have lo : (squareL l n).length = n := squareL_len l n
  have lf : (squareL m n).length = n := squareL_len m n
  have HO := Lib.hid (show ∀ W, Keeps (fun q => q = w2.heap.size ∨ q = w2.heap.size + 1) w3 W → RdT W u0 (squareL l n) from fun W hk =>
    ((((OL.out.ext ((Ext.refl w2).alloc _)).ext ((Ext.refl _).alloc _)).ext he).keep hk (fun q hq h => by have := (OL.out.lt hq).2; omega)).rd _)
  have HF := Lib.hid (show ∀ W, Keeps (fun q => q = w2.heap.size ∨ q = w2.heap.size + 1) w3 W → RdT W u9 (squareL m n) from fun W hk =>
    (hf.keep hk (fun q hq h => by have := (hf.lt hq).1; rw [size_alloc, size_alloc] at this; omega)).rd _)
  have HE := Lib.hid (show ∀ W, Keeps (fun q => q = w2.heap.size ∨ q = w2.heap.size + 1) w3 W → Ext w W from fun W hk => E4.out.keeps hk (fun q hq => by have := E2.out.size; omega))
  have A5 := Lib.hid (And.intro (show All5 (squareL l n) from fun x hx => by obtain ⟨i, _, rfl⟩ := List.mem_map.1 hx; exact sq5_size _) (show All5 (squareL m n) from fun x hx => by obtain ⟨i, _, rfl⟩ := List.mem_map.1 hx; exact sq5_size _))
  have SZ := Lib.hid (show w.heap.size ≤ w3.heap.size from E4.out.size)
  clear SQ2 E3 E4 OL hf he
  generalize squareL l n = old at lo HO A5
  generalize squareL m n = fr at lf HF A5
  obtain ⟨x0, c0, rfl, hc0⟩ := Rd.form (HO.out w3 (Keeps.refl _ _)) (by omega)
  obtain ⟨x9, c9, rfl, hc9⟩ := Rd.form (HF.out w3 (Keeps.refl _ _)) (by omega)
  obtain ⟨Ax, cx, rfl, hcx, -⟩ := HX.out
  rw [lo] at HO hc0 ⊢
  rw [lf] at HF hc9 ⊢
  have LN := Lib.hid (And.intro lo lf)
  clear lo lf
  go_wp2_with fail
  obtain ⟨b1, hb1⟩ : ∃ b, w2.heap.size = b := ⟨_, rfl⟩
  simp only [hb1] at T0 HO HF HE ⊢
  clear hb1 E2

  go_loopw [11, 12, 14] (fun u1 u2 i wr => GathRel w.heap.size w3 b1 (b1 + 1) n old fr xs u1 u2 i wr) (fun _ _ i _ => n - (intOf i).toNat)
  case atStart => exact ⟨0, Nat.zero_le _, rfl, T0.out⟩
  case round =>
    obtain ⟨k, hk, rfl, ht⟩ := hrel
    clear T0
    by_cases hlt : k < n
    · have hki : (k : Int) < n := by omega
      have D0 := Lib.hid (fun W (h : Keeps (fun q => q = b1 ∨ q = b1 + 1) w3 W) => Rd.get (HO.out W h) (j := k) (by have := LN.out.1; omega))
      have D9 := Lib.hid (fun W (h : Keeps (fun q => q = b1 ∨ q = b1 + 1) w3 W) => Rd.get (HF.out W h) (j := k) (by have := LN.out.2; omega))
      have S1 := Lib.hid (nowL_succ old fr xs k)
      have S2 := Lib.hid (wsL_succ xs k)
      have Z1 := Lib.hid (nowL_len old fr xs k)
      have Z2 := Lib.hid (wsL_len xs k)
      have NA := Lib.hid (show nowAt old fr xs k = if xs.getD k false = true then fr.getD k ByteArray.empty else old.getD k ByteArray.empty from rfl)
      obtain ⟨yo, hyo⟩ : ∃ y, old.getD k ByteArray.empty = y := ⟨_, rfl⟩
      obtain ⟨yf, hyf⟩ : ∃ y, fr.getD k ByteArray.empty = y := ⟨_, rfl⟩
      obtain ⟨T1, hT1⟩ : ∃ T, nowL old fr xs k = T := ⟨_, rfl⟩
      obtain ⟨T2, hT2⟩ : ∃ T, wsL xs k = T := ⟨_, rfl⟩
      rw [hT1, hT2] at ht
      rw [hT1] at S1 Z1
      rw [hT2] at S2 Z2
      rw [hyo] at D0 NA
      rw [hyf] at D9 NA
      have hl1 : T1.length ≤ 1048576 := by have := Z1.out; omega
      have hl2 : T2.length ≤ 1048576 := by have := Z2.out; omega
      have hkT : (k : Int) < (T2.length : Int) + 1 := by have := Z2.out; omega
      have hcell := (HE.out _ ht.kp)
      have HXC := Lib.hid (fun (h : k < xs.length) => (HX.out.ext hcell))
      clear hT1 hT2 hyo hyf hcell
      by_cases hin : k < xs.length
      · have hini : (k : Int) < xs.length := by omega
        obtain ⟨A, cap, e, _, hA⟩ := HXC.out hin
        obtain ⟨x, rfl, hcx⟩ := hA k hin
        obtain rfl : Ax = some x := by injection e
        clear e hA
        cases hb : xs.getD k false with
        | true =>
          rw [hb] at hcx
          have HV := Lib.hid (ht.alloc (.cells #[.bool true] 4))
          have HB1 := Lib.hid (alloc_new wr (.cells #[.bool true] 4))
          have hB1 : w.heap.size ≤ (wr.alloc (.cells #[.bool true] 4)).heap.size := by rw [size_alloc]; have := ht.kp.size; have := SZ.out; omega
          have ST := Lib.hid (gath_step (n := n) (old := old) (fr := fr) (xs := xs) (y := yf) (xd := x9) (b := true) HV.out SZ.out hlt Z2.out (by rw [S1.out, NA.out, hb]; rfl) (by rw [S2.out, hb]) D9.out)
          clear ht hb D0 D9 S1 S2 Z1 Z2 NA HXC
          go_wp2_with (first
            | (at_builtin; refine wpList_append_bool rfl _ _ rfl w.heap.size u12 T2 rfl HV.out.o2 wr.heap.size true rfl HB1.out hl2 hB1 ?_; intro g cap5 w5 h1 h2 h3; obtain ⟨hd5, hb5, ho5, hst⟩ := ST.out g cap5 w5 h1 h2 h3; have HO5 := Lib.hid ho5; have ST2 := Lib.hid hst; clear h1 h2 h3 ho5 hst ST HV HB1 hB1)
            | (at_builtin; refine wpList_append_one Tryz.uStrs Tryz.iStr rfl (by decide) rfl _ _ rfl w.heap.size u11 T1 rfl HO5.out.1 w5.heap.size yf rfl HO5.out.2.1 rfl hl1 HO5.out.2.2 ?_; intro g6 cap6 w6 j1 j2 j3; have R := Lib.hid (ST2.out g6 cap6 w6 j1 j2 j3); clear j1 j2 j3 ST2 HO5))
          go_roundw
          case rel => exact R.out
          case measure => simp [intOf]; omega
        | false =>
          rw [hb] at hcx
          have HV := Lib.hid (ht.alloc (.cells #[.bool false] 4))
          have HB1 := Lib.hid (alloc_new wr (.cells #[.bool false] 4))
          have hB1 : w.heap.size ≤ (wr.alloc (.cells #[.bool false] 4)).heap.size := by rw [size_alloc]; have := ht.kp.size; have := SZ.out; omega
          have ST := Lib.hid (gath_step (n := n) (old := old) (fr := fr) (xs := xs) (y := yo) (xd := x0) (b := false) HV.out SZ.out hlt Z2.out (by rw [S1.out, NA.out, hb]; rfl) (by rw [S2.out, hb]) D0.out)
          clear ht hb D0 D9 S1 S2 Z1 Z2 NA HXC
          go_wp2_with (first
            | (at_builtin; refine wpList_append_bool rfl _ _ rfl w.heap.size u12 T2 rfl HV.out.o2 wr.heap.size false rfl HB1.out hl2 hB1 ?_; intro g cap5 w5 h1 h2 h3; obtain ⟨hd5, hb5, ho5, hst⟩ := ST.out g cap5 w5 h1 h2 h3; have HO5 := Lib.hid ho5; have ST2 := Lib.hid hst; clear h1 h2 h3 ho5 hst ST HV HB1 hB1)
            | (at_builtin; refine wpList_append_one Tryz.uStrs Tryz.iStr rfl (by decide) rfl _ _ rfl w.heap.size u11 T1 rfl HO5.out.1 w5.heap.size yo rfl HO5.out.2.1 rfl hl1 HO5.out.2.2 ?_; intro g6 cap6 w6 j1 j2 j3; have R := Lib.hid (ST2.out g6 cap6 w6 j1 j2 j3); clear j1 j2 j3 ST2 HO5))
          go_roundw
          case rel => exact R.out
          case measure => simp [intOf]; omega
      · have hini : (xs.length : Int) ≤ k := by omega
        have hb : xs.getD k false = false := by rw [List.getD_eq_getElem?_getD, List.getElem?_eq_none (by omega)]; rfl
        have HV := Lib.hid (ht.alloc (.cells #[.bool false] 4))
        have HB1 := Lib.hid (alloc_new wr (.cells #[.bool false] 4))
        have hB1 : w.heap.size ≤ (wr.alloc (.cells #[.bool false] 4)).heap.size := by rw [size_alloc]; have := ht.kp.size; have := SZ.out; omega
        have ST := Lib.hid (gath_step (n := n) (old := old) (fr := fr) (xs := xs) (y := yo) (xd := x0) (b := false) HV.out SZ.out hlt Z2.out (by rw [S1.out, NA.out, hb]; rfl) (by rw [S2.out, hb]) D0.out)
        clear ht hb D0 D9 S1 S2 Z1 Z2 NA HXC
        go_wp2_with (first
          | (at_builtin; refine wpList_append_bool rfl _ _ rfl w.heap.size u12 T2 rfl HV.out.o2 wr.heap.size false rfl HB1.out hl2 hB1 ?_; intro g cap5 w5 h1 h2 h3; obtain ⟨hd5, hb5, ho5, hst⟩ := ST.out g cap5 w5 h1 h2 h3; have HO5 := Lib.hid ho5; have ST2 := Lib.hid hst; clear h1 h2 h3 ho5 hst ST HV HB1 hB1)
          | (at_builtin; refine wpList_append_one Tryz.uStrs Tryz.iStr rfl (by decide) rfl _ _ rfl w.heap.size u11 T1 rfl HO5.out.1 w5.heap.size yo rfl HO5.out.2.1 rfl hl1 HO5.out.2.2 ?_; intro g6 cap6 w6 j1 j2 j3; have R := Lib.hid (ST2.out g6 cap6 w6 j1 j2 j3); clear j1 j2 j3 ST2 HO5))
        go_roundw
        case rel => exact R.out
        case measure => simp [intOf]; omega
    · have hkn : n = k := by omega
      subst hkn
      have EW := HE.out wr ht.kp
      have O4 := HO.out wr ht.kp
      have RW := ht.o2.rd
      have RN := ht.o1.rd ByteArray.empty
      have lnw := nowL_len old fr xs n
      have lws := wsL_len xs n
      obtain ⟨x12, c12, rfl, hc12⟩ := Rd.form RW (by omega)
      obtain ⟨x11, c11, rfl, hc11⟩ := Rd.form RN (by omega)
      rw [lws] at RW hc12 ⊢
      rw [lnw] at RN hc11 ⊢
      have HR := Lib.hid (refillT_walk wr _ old 5 O4 (by have := LN.out.1; omega) (by have := LN.out.1; omega) (by decide) A5.out.1)
      have HCH := Lib.hid (fun W (e : Ext wr W) => choose_walk hn2 hn8 (RW.ext e) (wsL_len xs n) (Rd.nil num 0 W) (good_nil n) (by decide))
      have HRN := Lib.hid (fun W (e : Ext wr W) => refillT_walk W _ (nowL old fr xs n) 5 (RN.ext e) (by omega) (by omega) (by decide) (nowL_all A5.out.1 A5.out.2 LN.out.1 LN.out.2 (Nat.le_refl n)))
      have F4 := Lib.hid (And.intro EW (And.intro RN RW))
      clear EW O4 RW RN lnw lws ht hk hlt HO HF HE HX
      go_wp2_with fail
      refine HR.out.mono ?_
      rintro e w4 ⟨ru, rfl, hr, e4⟩
      have CR := hr.rd ByteArray.empty
      have lc : (colsT old).length = n + 2 := by rw [colsT_len, LN.out.1]
      obtain ⟨xr, cr, rfl, hcr⟩ := Rd.form CR (by omega)
      rw [lc] at CR hcr ⊢
      have F5 := Lib.hid (And.intro CR e4)
      have HCH5 := Lib.hid (HCH.out w4 e4)
      clear HR hr e4 CR lc HCH
      go_wp2_with fail
      refine HCH5.out.mono ?_
      rintro e w5 ⟨rv, pv, rfl, hrv, hpv, e5⟩
      obtain ⟨p, hp, hfit⟩ := plan_fit (wsL_len xs n)
      have RR := hrv.rd
      have RP := hpv.rd
      rw [hp] at RR
      obtain ⟨A1, cap1, rfl, hc1, hA1⟩ := RR
      obtain ⟨A2, cap2, rfl, hc2, -⟩ := RP
      obtain ⟨way, hway⟩ : ∃ x, (planOf n (wsL xs n) (lsOf n [])).1 = x := ⟨_, rfl⟩
      rw [hway] at hfit ⊢
      generalize (planOf n (wsL xs n) (lsOf n [])).2.2.length = M2 at hc2 ⊢
      have hsl := sel_len (n + 2) p
      have F6 := Lib.hid (And.intro F4.out.1 (And.intro (F4.out.2.1.ext (F5.out.2.trans e5)) (And.intro (F4.out.2.2.ext (F5.out.2.trans e5)) (And.intro (F5.out.1.ext e5) (And.intro hA1 (F5.out.2.trans e5))))))
      have FIT := Lib.hid hfit
      clear HCH5 hrv hpv hp hA1 hway hfit e5 F4 F5
      have hmm := @run_makeMap Tryz.prog
      go_wp2_with fail
      clear hmm
      obtain ⟨wA, hwA⟩ : ∃ W, W = wr := ⟨_, rfl⟩
      subst hwA
      obtain ⟨w7, hw7⟩ : ∃ W, w5.alloc (.cells #[.int .i64 way, .slice A1 (sel (n + 2) p).length cap1, .slice A2 M2 cap2] 64) = W := ⟨_, rfl⟩
      have pb : w7.heap[w5.heap.size]? = some (.cells #[.int .i64 way, .slice A1 (sel (n + 2) p).length cap1, .slice A2 M2 cap2] 64) := by rw [← hw7]; exact alloc_new _ _
      have sz7 : w7.heap.size = w5.heap.size + 1 := by rw [← hw7, size_alloc]
      have E7 : Ext w5 w7 := by rw [← hw7]; exact (Ext.refl _).alloc _
      rw [hw7]
      obtain ⟨P, hP⟩ : ∃ P, w5.heap.size = P := ⟨_, rfl⟩
      rw [hP] at pb sz7 ⊢
      have SG := Lib.hid (fun k (h : k < (sel (n + 2) p).length) => sel_get h)
      have ND := Lib.hid (sel_nodup (n + 2) p)
      have MS := Lib.hid (fun i (h : i < n + 2) (hp : p i = true) => mem_sel h hp)
      obtain ⟨rs, hrs⟩ : ∃ l, sel (n + 2) p = l := ⟨_, rfl⟩
      rw [hrs] at pb hc1 hsl F6 SG ND MS ⊢
      have G0 := Lib.hid (fun W (e : Ext w7 W) => show W.cell? ⟨P, 0, none⟩ = some (num way) by rw [cell_blk (e.blk pb)]; rfl)
      have G1 := Lib.hid (fun W (e : Ext w7 W) => show W.cell? ⟨P, 1, none⟩ = some (.slice A1 rs.length cap1) by rw [cell_blk (e.blk pb)]; rfl)
      have GN := Lib.hid (fun W (e : Ext w7 W) => F6.out.2.1.ext (E7.trans e))
      have GW := Lib.hid (fun W (e : Ext w7 W) => F6.out.2.2.1.ext (E7.trans e))
      have GC := Lib.hid (fun W (e : Ext w7 W) => F6.out.2.2.2.1.ext (E7.trans e))
      have GR := Lib.hid (fun W (e : Ext w7 W) i (hi : i < rs.length) => show ∃ x, A1 = some x ∧ W.cell? (x.add i) = some (num (rs.getD i 0)) from by
        obtain ⟨x, hx, hc⟩ := F6.out.2.2.2.2.1 i hi
        exact ⟨x, hx, (E7.trans e).cell hc⟩)
      have GE := Lib.hid (And.intro F6.out.1 (F6.out.2.2.2.2.2.trans E7))
      have SZ7 := Lib.hid sz7
      have R0 := Lib.hid (show HaveRel w7 (P + 1) (colsT old) rs (num 0) (w7.alloc (.map #[] 0)) from ⟨0, Nat.zero_le _, rfl, ⟨#[], 0, by rw [← sz7]; exact alloc_new w7 _, rfl⟩, (Ext.refl w7).alloc _⟩)
      have hrsi : (rs.length : Int) ≤ (n : Int) + 2 := by omega
      clear hw7 pb sz7 E7 hP F6 hrs hsl SZ hc2
      go_loopw [20] (fun i wx => HaveRel w7 (P + 1) (colsT old) rs i wx) (fun i _ => rs.length - (intOf i).toNat)
      case atStart => exact R0.out
      case round =>
        obtain ⟨j, hj, rfl, hm, he⟩ := hrel
        clear R0
        by_cases hlt : j < rs.length
        · have hji : (j : Int) < rs.length := by omega
          obtain ⟨i, hi, hin⟩ := SG.out j hlt
          obtain ⟨x1, rfl, cr1⟩ := GR.out wr he j hlt
          have c1 := G1.out wr he
          have cr2 := Rd.get (GC.out wr he) (j := i) (by rw [colsT_len, LN.out.1]; exact hin)
          obtain ⟨o, hup, hst⟩ := have_step (cols := colsT old) (by rw [SZ7.out]; exact Nat.le_refl _) ND.out hlt hi hm he
          rw [hi] at cr1
          have hii : (i : Int) < (n : Int) + 2 := by omega
          have R := Lib.hid hst
          generalize (colsT old).getD i ByteArray.empty = y at cr2 hup
          clear hi hin hm he hst hj
          go_wp2_with fail
          go_still_tail 14, (by kernel_rfl)
          change wpList _ _ _ _ _ wr.drew
          revert hup R
          generalize wr.drew = wd
          intro R hup
          go_wp2_with fail
          go_roundw
          case rel => exact R.out
          case measure => simp [intOf]; omega
        · have hjk : rs.length = j := by omega
          subst hjk
          rw [List.take_length] at hm
          obtain ⟨wB, hwB⟩ : ∃ W, W = wr := ⟨_, rfl⟩
          subst hwB
          have cp := colsT_p old
          have cq := colsT_q old
          rw [LN.out.1] at cp cq
          have n1 := Rd.get (GC.out wB he) (j := n) (by rw [colsT_len, LN.out.1]; omega)
          have n2 := Rd.get (GC.out wB he) (j := n + 1) (by rw [colsT_len, LN.out.1]; omega)
          rw [cp] at n1
          rw [cq, show xr.add (n + 1) = ⟨xr.block, xr.off + (n + 1), none⟩ by simp [Addr.add]] at n2
          have c0 := G0.out wB he
          have c1 := G1.out wB he
          have LK := Lib.hid (fun W (e : Ext wB W) i (h : i < n + 2) (hp : p i = true) => (hm.ext e).look (by rw [kvL_keys]; exact ND.out) (kvL_mem (cols := colsT old) (MS.out i h hp)))
          have EB := Lib.hid he
          have EN0 := Lib.hid (GE.out.2.trans he)
          have CPQ := Lib.hid (And.intro cp cq)
          have hfit := FIT.out
          clear hm he hj hlt cp cq GC GR G1 SG FIT MS ND
          rcases hfit with ⟨rfl, h0⟩ | ⟨rfl, h1⟩ | ⟨rfl, hp1, hp2, hp3⟩ | ⟨rfl, h3⟩
          · have hnow : nowL old fr xs n = old := nowL_same (fun i hi => by rw [← wsL_at hi]; exact h0 i hi) LN.out.1
            rw [hnow] at HRN
            clear hnow h0 LK GN GW G0
            have EN := Lib.hid (EN0.out)
            have LNL : (old).length = n := LN.out.1
            have ep := colsT_p (old)
            have eq := colsT_q (old)
            rw [LNL] at ep eq
            have EPQ := Lib.hid (And.intro LNL (And.intro ep eq))
            clear LNL ep eq
            go_wp2_with fail
            refine (HRN.out _ EN.out).mono ?_
            rintro e w9 ⟨ru9, rfl, hr9, e9⟩
            have C9 := hr9.rd ByteArray.empty
            have l9 : (colsT (old)).length = n + 2 := by rw [colsT_len, EPQ.out.1]
            obtain ⟨xq, cq, rfl, hcq⟩ := Rd.form C9 (by omega)
            rw [l9] at C9 hcq ⊢
            have m1 := Rd.get C9 (j := n) (by omega)
            have m2 := Rd.get C9 (j := n + 1) (by omega)
            rw [EPQ.out.2.1] at m1
            rw [EPQ.out.2.2, show xq.add (n + 1) = ⟨xq.block, xq.off + (n + 1), none⟩ by simp [Addr.add]] at m2
            have F9 := Lib.hid (GE.out.1.trans (EN.out.trans e9))
            clear hr9 e9 C9 l9 HRN EN EPQ
            generalize addT (old) = PX at m1 ⊢
            generalize qT (old) n = QX at m2 ⊢
            go_wp2_with fail
            go_ret
            exact ⟨rfl, F9.out⟩
          · replace c0 : wB.cell? ⟨P, 0, none⟩ = some (.int .i64 1) := c0
            rw [show (((1 : Nat)) : Int) = (1 : Int) from rfl]
            have DP := Lib.hid (show ∀ i, i < n → xs.getD i false = false → p i = true from fun i hi hb => by have h := h1 i hi; rw [wsL_at hi, hb] at h; cases h)
            have R3 := Lib.hid (show DataRel wB n old fr xs (.slice (some ⟨wB.heap.size, 0, none⟩) 0 0) (num 0) (wB.alloc (.cells #[] 9)) from ⟨0, Nat.zero_le _, rfl, OwnM.lit wB [] (Nat.le_refl _) (Nat.zero_le _), (Ext.refl _).alloc _⟩)
            go_wp2_with fail
            go_loopw [23, 24] (fun u i wx => DataRel wB n old fr xs u i wx) (fun _ i _ => n - (intOf i).toNat)
            case atStart => exact R3.out
            case round =>
              clear R3 n1 n2 c0 c1
              obtain ⟨k, hk, rfl, ho, he8⟩ := hrel
              by_cases hlt : k < n
              · have hki : (k : Int) < n := by omega
                have cw := Rd.get (GW.out wr (EB.out.trans he8)) (j := k) (by rw [wsL_len]; exact hlt)
                have cn := Rd.get (GN.out wr (EB.out.trans he8)) (j := k) (by rw [nowL_len]; exact hlt)
                rw [wsL_at hlt] at cw
                rw [nowL_at hlt] at cn
                have s1 := nowL_succ old fr xs k
                have hl0 := nowL_len old fr xs k
                obtain ⟨y, hy⟩ : ∃ y, nowAt old fr xs k = y := ⟨_, rfl⟩
                obtain ⟨T, hT⟩ : ∃ T, nowL old fr xs k = T := ⟨_, rfl⟩
                rw [hy] at cn s1
                rw [hT] at s1 hl0 ho
                have HLK := Lib.hid (show xs.getD k false = false → (Instr.lookup 67 (.map (some (P + 1))) (num k) false).run Tryz.prog wr = .ok (strv y) wr from fun hb => by
                  have h := LK.out wr he8 k (by omega) (DP.out k hlt hb)
                  rw [colsT_data old (by have := LN.out.1; omega)] at h
                  rw [← hy, nowAt, if_neg (by rw [hb]; simp)]
                  exact h)
                have hl1 : T.length ≤ 1048576 := by omega
                have HO := Lib.hid (ho.ext ((Ext.refl wr).alloc (.cells #[strv y] 9)))
                have HB := Lib.hid (alloc_new wr (.cells #[strv y] 9))
                have hB : wB.heap.size ≤ (wr.alloc (.cells #[strv y] 9)).heap.size := by rw [size_alloc]; have := he8.size; omega
                have ST := Lib.hid (data_step hlt s1 ho he8)
                clear hT hy s1 hl0 ho he8 LK DP
                cases hb : xs.getD k false with
                | true =>
                  rw [hb] at cw
                  clear HLK hb
                  go_wp2_with (at_builtin; refine wpList_append_one Tryz.uStrs Tryz.iStr rfl (by decide) rfl _ _ rfl wB.heap.size u23 T rfl HO.out wr.heap.size y rfl HB.out rfl hl1 hB ?_; intro g cap5 w5 h1 h2 h3; have R := Lib.hid (ST.out g cap5 w5 h1 h2); clear h1 h2 h3 ST HO HB hB)
                  go_roundw
                  case rel => exact R.out
                  case measure => simp [intOf]; omega
                | false =>
                  rw [hb] at cw
                  have hlk := HLK.out hb
                  clear HLK hb cn
                  go_wp2_with (at_builtin; refine wpList_append_one Tryz.uStrs Tryz.iStr rfl (by decide) rfl _ _ rfl wB.heap.size u23 T rfl HO.out wr.heap.size y rfl HB.out rfl hl1 hB ?_; intro g cap5 w5 h1 h2 h3; have R := Lib.hid (ST.out g cap5 w5 h1 h2); clear h1 h2 h3 ST HO HB hB)
                  go_roundw
                  case rel => exact R.out
                  case measure => simp [intOf]; omega
              · have hkn : n = k := by omega
                subst hkn
                have RD := ho.rd ByteArray.empty
                have lnw := nowL_len old fr xs n
                have L5 := nowL_all (ws := xs) A5.out.1 A5.out.2 LN.out.1 LN.out.2 (Nat.le_refl n)
                have HP := Lib.hid (synP_walk wr _ _ RD (by omega) (fun x hx => by rw [L5 x hx]; decide))
                have HQ := Lib.hid (fun W (e : Ext wr W) => synQ_walk W _ _ (RD.ext e) (by omega) (fun x hx => by rw [L5 x hx]; decide))
                rw [lnw] at HQ
                have E8 := Lib.hid (EN0.out.trans he8)
                clear RD lnw L5 ho he8 hk hlt LK GN GW DP
                go_wp2_with fail
                refine HP.out.mono ?_
                rintro e w6 ⟨rfl, e6⟩
                have HQ1 := Lib.hid (HQ.out w6 e6)
                have E6 := Lib.hid (E8.out.trans e6)
                clear HP HQ e6 E8
                go_wp2_with fail
                refine HQ1.out.mono ?_
                rintro e w8 ⟨rfl, e8⟩
                have E9 := Lib.hid (E6.out.trans e8)
                clear HQ1 E6 e8
                have EN := Lib.hid (E9.out)
                have LNL : (nowL old fr xs n).length = n := nowL_len old fr xs n
                have ep := colsT_p (nowL old fr xs n)
                have eq := colsT_q (nowL old fr xs n)
                rw [LNL] at ep eq
                have EPQ := Lib.hid (And.intro LNL (And.intro ep eq))
                clear LNL ep eq
                go_wp2_with fail
                refine (HRN.out _ EN.out).mono ?_
                rintro e w9 ⟨ru9, rfl, hr9, e9⟩
                have C9 := hr9.rd ByteArray.empty
                have l9 : (colsT (nowL old fr xs n)).length = n + 2 := by rw [colsT_len, EPQ.out.1]
                obtain ⟨xq, cq, rfl, hcq⟩ := Rd.form C9 (by omega)
                rw [l9] at C9 hcq ⊢
                have m1 := Rd.get C9 (j := n) (by omega)
                have m2 := Rd.get C9 (j := n + 1) (by omega)
                rw [EPQ.out.2.1] at m1
                rw [EPQ.out.2.2, show xq.add (n + 1) = ⟨xq.block, xq.off + (n + 1), none⟩ by simp [Addr.add]] at m2
                have F9 := Lib.hid (GE.out.1.trans (EN.out.trans e9))
                clear hr9 e9 C9 l9 HRN EN EPQ
                generalize addT (nowL old fr xs n) = PX at m1 ⊢
                generalize qT (nowL old fr xs n) n = QX at m2 ⊢
                go_wp2_with fail
                go_ret
                exact ⟨rfl, F9.out⟩
          · replace c0 : wB.cell? ⟨P, 0, none⟩ = some (.int .i64 2) := c0
            rw [show (((2 : Nat)) : Int) = (2 : Int) from rfl]
            have hk1 := LK.out wB (Ext.refl _) n (by omega) hp1
            have hk2 := LK.out wB (Ext.refl _) (n + 1) (by omega) hp2
            rw [CPQ.out.1] at hk1
            rw [CPQ.out.2, show (((n + 1 : Nat)) : Int) = (n : Int) + 1 from rfl] at hk2
            have DP := Lib.hid (show ∀ i, i < n → xs.getD i false = true → p i = true from fun i hi hb => hp3 i hi (by rw [wsL_at hi]; exact hb))
            have R4 := Lib.hid (show ModRel wB n old fr xs (strv (addT old)) (strv (qT old n)) (num 0) wB from ⟨0, Nat.zero_le _, rfl, by rw [mixL_zero LN.out.1], by rw [mixL_zero LN.out.1], Ext.refl _⟩)
            clear hp1 hp2 hp3
            go_wp2_with fail
            go_loopw [21, 22, 25] (fun x y i wx => ModRel wB n old fr xs x y i wx) (fun _ _ i _ => n - (intOf i).toNat)
            case atStart => exact R4.out
            case round =>
              clear R4 n1 n2 c0 c1 hk1 hk2
              obtain ⟨k, hk, rfl, rfl, rfl, he8⟩ := hrel
              by_cases hlt : k < n
              · have hki : (k : Int) < n := by omega
                have h0n : 0 < n := by omega
                have cw := Rd.get (GW.out wr (EB.out.trans he8)) (j := k) (by rw [wsL_len]; exact hlt)
                rw [wsL_at hlt] at cw
                cases hb : xs.getD k false with
                | false =>
                  rw [hb] at cw
                  have R := Lib.hid (show ModRel wB n old fr xs (strv (addT (mixL old fr xs n k))) (strv (qT (mixL old fr xs n k) n)) (num ((k : Int) + 1)) wr from ⟨k + 1, by omega, by go_num, by rw [mixL_no hb], by rw [mixL_no hb], he8⟩)
                  clear hb he8 LK DP
                  go_wp2_with fail
                  go_roundw
                  case rel => exact R.out
                  case measure => simp [intOf]; omega
                | true =>
                  rw [hb] at cw
                  have cn := fun W (e : Ext wr W) => Rd.get (GN.out W (EB.out.trans (he8.trans e))) (j := k) (by rw [nowL_len]; exact hlt)
                  rw [nowL_at hlt, nowAt, if_pos hb] at cn
                  have lk := fun W (e : Ext wr W) => LK.out W (he8.trans e) k (by omega) (DP.out k hlt hb)
                  rw [colsT_data old (by have := LN.out.1; omega)] at lk
                  have sP := mix_stepP (n := n) A5.out.1 A5.out.2 LN.out.1 LN.out.2 hlt hb
                  have sQ := mix_stepQ (n := n) A5.out.1 A5.out.2 LN.out.1 LN.out.2 hn8 hlt hb
                  have zP := mix_p (ws := xs) A5.out.1 A5.out.2 LN.out.1 LN.out.2 h0n k
                  have zQ := mix_q (ws := xs) A5.out.1 A5.out.2 LN.out.1 LN.out.2 h0n k
                  have zo := A5.out.1.at (i := k) (by have := LN.out.1; omega)
                  have zf := A5.out.2.at (i := k) (by have := LN.out.2; omega)
                  obtain ⟨yo, hyo⟩ : ∃ y, old.getD k ByteArray.empty = y := ⟨_, rfl⟩
                  obtain ⟨yf, hyf⟩ : ∃ y, fr.getD k ByteArray.empty = y := ⟨_, rfl⟩
                  rw [hyo] at lk sP sQ zo
                  rw [hyf] at cn sP sQ zf
                  obtain ⟨DD, hDD⟩ : ∃ y, xorT yo yf = y := ⟨_, rfl⟩
                  have zD : DD.size = 5 := by rw [← hDD, xorT_size, zo, zf]; rfl
                  obtain ⟨TT, hTT⟩ : ∃ y, timesT DD (expL k) = y := ⟨_, rfl⟩
                  have zT : TT.size = 5 := by rw [← hTT, timesT_size, zD]
                  have hdel := fun W => delta_walk yo yf k W (by omega) (by omega) (by omega)
                  rw [hDD, hTT] at hdel
                  rw [hDD] at sP
                  rw [hDD, hTT] at sQ
                  obtain ⟨PX, hPX⟩ : ∃ y, addT (mixL old fr xs n k) = y := ⟨_, rfl⟩
                  obtain ⟨QX, hQX⟩ : ∃ y, qT (mixL old fr xs n k) n = y := ⟨_, rfl⟩
                  rw [hPX] at sP zP ⊢
                  rw [hQX] at sQ zQ ⊢
                  have HX1 := Lib.hid (fun W => xor_walk PX DD W (by omega) (by omega))
                  have HX2 := Lib.hid (fun W => xor_walk QX TT W (by omega) (by omega))
                  have HD := Lib.hid (fun W : In (Ext wr) => calls_class (C := Ext wr) (hdel W.val) (fun e w' r => ⟨r.1, W.is.trans r.2⟩))
                  have r1 : ∀ W : In (Ext wr), W.val.cell? (x11.add k) = some (strv yf) := fun W => cn W.val W.is
                  have r2 : ∀ W : In (Ext wr), (Instr.lookup 67 (.map (some (P + 1))) (num k) false).run Tryz.prog W.val = .ok (strv yo) W.val := fun W => lk W.val W.is
                  have ne : Nonempty (In (Ext wr)) := ⟨⟨wr, Ext.refl wr⟩⟩
                  have DR := Lib.hid ((Ext.refl wr).drew)
                  have R := Lib.hid (fun W (e : Ext wr W) => show ModRel wB n old fr xs (strv (xorT PX DD)) (strv (xorT QX TT)) (num ((k : Int) + 1)) W from ⟨k + 1, by omega, by go_num, by rw [sP], by rw [sQ], he8.trans e⟩)
                  clear hb he8 LK DP cn lk sP sQ zP zQ zo zf hyo hyf hDD zD hTT zT hdel hPX hQX
                  go_wp2_with fail
                  refine wp_region_class (Ext wr) (by kernel_rfl) (by kernel_rfl) DR.out ?_
                  repeat (go_big_quiet_step ((go_at_call 30; exact HD.out _)))
                  refine wpQuiet_nil ?_
                  intro w6 hw6
                  have e6 : Ext wr w6 := by obtain ⟨W, rfl⟩ := hw6; exact W.is
                  have E6 := Lib.hid e6
                  clear hw6 e6 r1 r2 ne DR HD
                  go_wp2_with fail
                  refine (HX1.out _).mono ?_
                  rintro e w8 ⟨rfl, e8⟩
                  have E8 := Lib.hid (E6.out.trans e8)
                  clear HX1 E6 e8
                  go_wp2_with fail
                  refine (HX2.out _).mono ?_
                  rintro e w9 ⟨rfl, e9⟩
                  have R9 := Lib.hid (R.out w9 (E8.out.trans e9))
                  clear HX2 E8 e9 R
                  go_wp2_with fail
                  go_roundw
                  case rel => exact R9.out
                  case measure => simp [intOf]; omega
              · have hkn : n = k := by omega
                subst hkn
                rw [mixL_all]
                have E8 := Lib.hid (EN0.out.trans he8)
                clear he8 hk hlt LK GN GW DP
                have EN := Lib.hid (E8.out)
                have LNL : (nowL old fr xs n).length = n := nowL_len old fr xs n
                have ep := colsT_p (nowL old fr xs n)
                have eq := colsT_q (nowL old fr xs n)
                rw [LNL] at ep eq
                have EPQ := Lib.hid (And.intro LNL (And.intro ep eq))
                clear LNL ep eq
                go_wp2_with fail
                refine (HRN.out _ EN.out).mono ?_
                rintro e w9 ⟨ru9, rfl, hr9, e9⟩
                have C9 := hr9.rd ByteArray.empty
                have l9 : (colsT (nowL old fr xs n)).length = n + 2 := by rw [colsT_len, EPQ.out.1]
                obtain ⟨xq, cq, rfl, hcq⟩ := Rd.form C9 (by omega)
                rw [l9] at C9 hcq ⊢
                have m1 := Rd.get C9 (j := n) (by omega)
                have m2 := Rd.get C9 (j := n + 1) (by omega)
                rw [EPQ.out.2.1] at m1
                rw [EPQ.out.2.2, show xq.add (n + 1) = ⟨xq.block, xq.off + (n + 1), none⟩ by simp [Addr.add]] at m2
                have F9 := Lib.hid (GE.out.1.trans (EN.out.trans e9))
                clear hr9 e9 C9 l9 HRN EN EPQ
                generalize addT (nowL old fr xs n) = PX at m1 ⊢
                generalize qT (nowL old fr xs n) n = QX at m2 ⊢
                go_wp2_with fail
                go_ret
                exact ⟨rfl, F9.out⟩
          · replace c0 : wB.cell? ⟨P, 0, none⟩ = some (.int .i64 3) := c0
            rw [show (((3 : Nat)) : Int) = (3 : Int) from rfl]
            have DP := Lib.hid (show ∀ i, i < n → xs.getD i false = false → p i = true from fun i hi hb => h3 i hi (by rw [wsL_at hi]; exact hb))
            have R3 := Lib.hid (show DataRel wB n old fr xs (.slice (some ⟨wB.heap.size, 0, none⟩) 0 0) (num 0) (wB.alloc (.cells #[] 9)) from ⟨0, Nat.zero_le _, rfl, OwnM.lit wB [] (Nat.le_refl _) (Nat.zero_le _), (Ext.refl _).alloc _⟩)
            go_wp2_with fail
            go_loopw [23, 24] (fun u i wx => DataRel wB n old fr xs u i wx) (fun _ i _ => n - (intOf i).toNat)
            case atStart => exact R3.out
            case round =>
              clear R3 n1 n2 c0 c1
              obtain ⟨k, hk, rfl, ho, he8⟩ := hrel
              by_cases hlt : k < n
              · have hki : (k : Int) < n := by omega
                have cw := Rd.get (GW.out wr (EB.out.trans he8)) (j := k) (by rw [wsL_len]; exact hlt)
                have cn := Rd.get (GN.out wr (EB.out.trans he8)) (j := k) (by rw [nowL_len]; exact hlt)
                rw [wsL_at hlt] at cw
                rw [nowL_at hlt] at cn
                have s1 := nowL_succ old fr xs k
                have hl0 := nowL_len old fr xs k
                obtain ⟨y, hy⟩ : ∃ y, nowAt old fr xs k = y := ⟨_, rfl⟩
                obtain ⟨T, hT⟩ : ∃ T, nowL old fr xs k = T := ⟨_, rfl⟩
                rw [hy] at cn s1
                rw [hT] at s1 hl0 ho
                have HLK := Lib.hid (show xs.getD k false = false → (Instr.lookup 67 (.map (some (P + 1))) (num k) false).run Tryz.prog wr = .ok (strv y) wr from fun hb => by
                  have h := LK.out wr he8 k (by omega) (DP.out k hlt hb)
                  rw [colsT_data old (by have := LN.out.1; omega)] at h
                  rw [← hy, nowAt, if_neg (by rw [hb]; simp)]
                  exact h)
                have hl1 : T.length ≤ 1048576 := by omega
                have HO := Lib.hid (ho.ext ((Ext.refl wr).alloc (.cells #[strv y] 9)))
                have HB := Lib.hid (alloc_new wr (.cells #[strv y] 9))
                have hB : wB.heap.size ≤ (wr.alloc (.cells #[strv y] 9)).heap.size := by rw [size_alloc]; have := he8.size; omega
                have ST := Lib.hid (data_step hlt s1 ho he8)
                clear hT hy s1 hl0 ho he8 LK DP
                cases hb : xs.getD k false with
                | true =>
                  rw [hb] at cw
                  clear HLK hb
                  go_wp2_with (at_builtin; refine wpList_append_one Tryz.uStrs Tryz.iStr rfl (by decide) rfl _ _ rfl wB.heap.size u23 T rfl HO.out wr.heap.size y rfl HB.out rfl hl1 hB ?_; intro g cap5 w5 h1 h2 h3; have R := Lib.hid (ST.out g cap5 w5 h1 h2); clear h1 h2 h3 ST HO HB hB)
                  go_roundw
                  case rel => exact R.out
                  case measure => simp [intOf]; omega
                | false =>
                  rw [hb] at cw
                  have hlk := HLK.out hb
                  clear HLK hb cn
                  go_wp2_with (at_builtin; refine wpList_append_one Tryz.uStrs Tryz.iStr rfl (by decide) rfl _ _ rfl wB.heap.size u23 T rfl HO.out wr.heap.size y rfl HB.out rfl hl1 hB ?_; intro g cap5 w5 h1 h2 h3; have R := Lib.hid (ST.out g cap5 w5 h1 h2); clear h1 h2 h3 ST HO HB hB)
                  go_roundw
                  case rel => exact R.out
                  case measure => simp [intOf]; omega
              · have hkn : n = k := by omega
                subst hkn
                have RD := ho.rd ByteArray.empty
                have lnw := nowL_len old fr xs n
                have L5 := nowL_all (ws := xs) A5.out.1 A5.out.2 LN.out.1 LN.out.2 (Nat.le_refl n)
                have HP := Lib.hid (synP_walk wr _ _ RD (by omega) (fun x hx => by rw [L5 x hx]; decide))
                have HQ := Lib.hid (fun W (e : Ext wr W) => synQ_walk W _ _ (RD.ext e) (by omega) (fun x hx => by rw [L5 x hx]; decide))
                rw [lnw] at HQ
                have E8 := Lib.hid (EN0.out.trans he8)
                clear RD lnw L5 ho he8 hk hlt LK GN GW DP
                go_wp2_with fail
                refine HP.out.mono ?_
                rintro e w6 ⟨rfl, e6⟩
                have HQ1 := Lib.hid (HQ.out w6 e6)
                have E6 := Lib.hid (E8.out.trans e6)
                clear HP HQ e6 E8
                go_wp2_with fail
                refine HQ1.out.mono ?_
                rintro e w8 ⟨rfl, e8⟩
                have E9 := Lib.hid (E6.out.trans e8)
                clear HQ1 E6 e8
                have EN := Lib.hid (E9.out)
                have LNL : (nowL old fr xs n).length = n := nowL_len old fr xs n
                have ep := colsT_p (nowL old fr xs n)
                have eq := colsT_q (nowL old fr xs n)
                rw [LNL] at ep eq
                have EPQ := Lib.hid (And.intro LNL (And.intro ep eq))
                clear LNL ep eq
                go_wp2_with fail
                refine (HRN.out _ EN.out).mono ?_
                rintro e w9 ⟨ru9, rfl, hr9, e9⟩
                have C9 := hr9.rd ByteArray.empty
                have l9 : (colsT (nowL old fr xs n)).length = n + 2 := by rw [colsT_len, EPQ.out.1]
                obtain ⟨xq, cq, rfl, hcq⟩ := Rd.form C9 (by omega)
                rw [l9] at C9 hcq ⊢
                have m1 := Rd.get C9 (j := n) (by omega)
                have m2 := Rd.get C9 (j := n + 1) (by omega)
                rw [EPQ.out.2.1] at m1
                rw [EPQ.out.2.2, show xq.add (n + 1) = ⟨xq.block, xq.off + (n + 1), none⟩ by simp [Addr.add]] at m2
                have F9 := Lib.hid (GE.out.1.trans (EN.out.trans e9))
                clear hr9 e9 C9 l9 HRN EN EPQ
                generalize addT (nowL old fr xs n) = PX at m1 ⊢
                generalize qT (nowL old fr xs n) n = QX at m2 ⊢
                go_wp2_with fail
                go_ret
                exact ⟨rfl, F9.out⟩

end Go.Proofs.YtdilchcnfnfdiaaGreatDoor
