/- Layer 15: Cost. -/
import Derived.Test.YtllomgkdplpecaaPlanRead
import Derived.Deep.CutRange
import Derived.Deep.RegionWith
namespace Go.Proofs.Ytllomgkdplpecaa
open Go.RowKit

def costOf (n : Nat) (ws ls : List Bool) (way : Nat) : Nat := if wayB n ws ls way = true then (wayL n ws ls way).length else 0

set_option maxRecDepth 100000 in
set_option maxHeartbeats 4000000 in
theorem cost_full {w : World} {n : Nat} {wv v : Value} {ws : List Bool} {lo : List Int} (h2 : 2 ≤ n) (h8 : n ≤ 8) (hw : RdB w wv ws) (hn : ws.length = n) (hv : RdI w v lo) (hg : GoodLost n lo) (few : lo.length ≤ 2) :
    Calls Try.prog 11 #[num n, wv, v, num 1] w fun e w' => e = .returned (.tuple #[num (costOf n ws (lsOf n lo) 1), .bool (wayB n ws (lsOf n lo) 1)]) ∧ Ext w w' := by
  obtain ⟨A, cap, rfl, hc, hA⟩ := id hv
  obtain ⟨A', cap', rfl, hc', hA'⟩ := id hw
  generalize hls : lsOf n lo = ls
  have hm := made_walk h2 h8 hw hn hv hg
  rw [hls] at hm
  have HM := Lib.hid hm
  clear hA hA' hv hw hg hn hm hls
  go_enter Try.func11, Try.ntmps11
  go_wp2_with fail
  refine HM.out.mono ?_
  rintro e w2 ⟨lv, rfl, r, e2⟩
  obtain ⟨A2, cap2, rfl, hc2, hA2⟩ := id r.lo
  have BX := Lib.hid (boxed r)
  have E2 := Lib.hid e2
  clear hA2 r e2 HM
  go_upto_region 4 with fail
  generalize w2.alloc (.cells #[.int .i64 n, .slice A' ws.length cap', .slice A2 ls.length cap2] 41) = w3 at BX ⊢
  have hix := ways_at1
  have c0 := BX.out.c0
  have c1 := BX.out.c1
  have c2 := BX.out.c2
  have HK := Lib.hid (fun (W : World) (h : Ext w3 W) => full_walk (BX.out.row.ext h))
  have E3 := Lib.hid (E2.out.trans BX.out.ext)
  go_cut [12, 13] from 36 to 43 (fun l b wx => ∃ v, l = v ∧ b = .bool (wayB n ws ls 1) ∧ Own wx w.heap.size v (wayL n ws ls 1) ∧ Ext w wx)
  case first =>
    clear BX
    go_region_with (first
      | (go_at_call 18; refine (ways_walk _).mono ?_; rintro e wA ⟨rfl, eA⟩; have EA := Lib.hid (show Ext w3 wA from ⟨eA.os, eA.tape, eA.output, eA.size, eA.block⟩); have d0 := EA.out.cell c0; have d1 := EA.out.cell c1; have d2 := EA.out.cell c2; clear eA)
      | (go_at_call 21; refine (HK.out _ ⟨EA.out.os, EA.out.tape, EA.out.output, EA.out.size, EA.out.block⟩).mono ?_; rintro e wB ⟨v, rfl, hv, eB⟩; have HV := Lib.hid hv; have EB := Lib.hid (show Ext wA wB from ⟨eB.os, eB.tape, eB.output, eB.size, eB.block⟩); clear hv eB))
    all_goals (
      go_wp2_with fail
      go_meet
      case rel => exact ⟨_, rfl, rfl, HV.out.mono (E3.out.trans EA.out).size, E3.out.trans (EA.out.trans EB.out)⟩)
  case rest =>
    obtain ⟨v, rfl, rfl, hv, he⟩ := hcut
    have hlen : (wayL n ws ls 1).length ≤ 1048576 := wayL_len h8 ws ls 1
    obtain ⟨A5, cap5, rfl, hc5, -⟩ := hv.shape
    have HE := Lib.hid he
    have HC := Lib.hid (show costOf n ws ls 1 = if wayB n ws ls 1 = true then (wayL n ws ls 1).length else 0 from rfl)
    clear hv he BX HK E3 hix c0 c1 c2
    generalize hbb : wayB n ws ls 1 = bb at HC ⊢
    generalize hco : costOf n ws ls 1 = co at HC
    have HBB := Lib.hid hbb
    have HCO := Lib.hid hco
    clear hbb hco
    generalize (wayL n ws ls 1).length = L at HC hlen hc5 ⊢
    cases bb with
    | true =>
      obtain rfl : co = L := HC.out
      go_wp2
      go_ret2
      exact ⟨by rw [HCO.out, HBB.out]; rfl, HE.out⟩
    | false =>
      obtain rfl : co = 0 := HC.out
      go_wp2
      go_ret2
      exact ⟨by rw [HCO.out, HBB.out]; rfl, HE.out⟩

set_option maxRecDepth 100000 in
set_option maxHeartbeats 4000000 in
theorem cost_modify {w : World} {n : Nat} {wv v : Value} {ws : List Bool} {lo : List Int} (h2 : 2 ≤ n) (h8 : n ≤ 8) (hw : RdB w wv ws) (hn : ws.length = n) (hv : RdI w v lo) (hg : GoodLost n lo) (few : lo.length ≤ 2) :
    Calls Try.prog 11 #[num n, wv, v, num 2] w fun e w' => e = .returned (.tuple #[num (costOf n ws (lsOf n lo) 2), .bool (wayB n ws (lsOf n lo) 2)]) ∧ Ext w w' := by
  obtain ⟨A, cap, rfl, hc, hA⟩ := id hv
  obtain ⟨A', cap', rfl, hc', hA'⟩ := id hw
  generalize hls : lsOf n lo = ls
  have hm := made_walk h2 h8 hw hn hv hg
  rw [hls] at hm
  have HM := Lib.hid hm
  clear hA hA' hv hw hg hn hm hls
  go_enter Try.func11, Try.ntmps11
  go_wp2_with fail
  refine HM.out.mono ?_
  rintro e w2 ⟨lv, rfl, r, e2⟩
  obtain ⟨A2, cap2, rfl, hc2, hA2⟩ := id r.lo
  have BX := Lib.hid (boxed r)
  have E2 := Lib.hid e2
  clear hA2 r e2 HM
  go_upto_region 4 with fail
  generalize w2.alloc (.cells #[.int .i64 n, .slice A' ws.length cap', .slice A2 ls.length cap2] 41) = w3 at BX ⊢
  have hix := ways_at2
  have c0 := BX.out.c0
  have c1 := BX.out.c1
  have c2 := BX.out.c2
  have HK := Lib.hid (fun (W : World) (h : Ext w3 W) => modify_walk (BX.out.row.ext h))
  have E3 := Lib.hid (E2.out.trans BX.out.ext)
  go_cut [12, 13] from 36 to 43 (fun l b wx => ∃ v, l = v ∧ b = .bool (wayB n ws ls 2) ∧ Own wx w.heap.size v (wayL n ws ls 2) ∧ Ext w wx)
  case first =>
    clear BX
    go_region_with (first
      | (go_at_call 18; refine (ways_walk _).mono ?_; rintro e wA ⟨rfl, eA⟩; have EA := Lib.hid (show Ext w3 wA from ⟨eA.os, eA.tape, eA.output, eA.size, eA.block⟩); have d0 := EA.out.cell c0; have d1 := EA.out.cell c1; have d2 := EA.out.cell c2; clear eA)
      | (go_at_call 22; refine (HK.out _ ⟨EA.out.os, EA.out.tape, EA.out.output, EA.out.size, EA.out.block⟩).mono ?_; rintro e wB ⟨v, rfl, hv, eB⟩; have HV := Lib.hid hv; have EB := Lib.hid (show Ext wA wB from ⟨eB.os, eB.tape, eB.output, eB.size, eB.block⟩); clear hv eB))
    all_goals (
      go_wp2_with fail
      go_meet
      case rel => exact ⟨_, rfl, rfl, HV.out.mono (E3.out.trans EA.out).size, E3.out.trans (EA.out.trans EB.out)⟩)
  case rest =>
    obtain ⟨v, rfl, rfl, hv, he⟩ := hcut
    have hlen : (wayL n ws ls 2).length ≤ 1048576 := wayL_len h8 ws ls 2
    obtain ⟨A5, cap5, rfl, hc5, -⟩ := hv.shape
    have HE := Lib.hid he
    have HC := Lib.hid (show costOf n ws ls 2 = if wayB n ws ls 2 = true then (wayL n ws ls 2).length else 0 from rfl)
    clear hv he BX HK E3 hix c0 c1 c2
    generalize hbb : wayB n ws ls 2 = bb at HC ⊢
    generalize hco : costOf n ws ls 2 = co at HC
    have HBB := Lib.hid hbb
    have HCO := Lib.hid hco
    clear hbb hco
    generalize (wayL n ws ls 2).length = L at HC hlen hc5 ⊢
    cases bb with
    | true =>
      obtain rfl : co = L := HC.out
      go_wp2
      go_ret2
      exact ⟨by rw [HCO.out, HBB.out]; rfl, HE.out⟩
    | false =>
      obtain rfl : co = 0 := HC.out
      go_wp2
      go_ret2
      exact ⟨by rw [HCO.out, HBB.out]; rfl, HE.out⟩

set_option maxRecDepth 100000 in
set_option maxHeartbeats 4000000 in
theorem cost_rebuild {w : World} {n : Nat} {wv v : Value} {ws : List Bool} {lo : List Int} (h2 : 2 ≤ n) (h8 : n ≤ 8) (hw : RdB w wv ws) (hn : ws.length = n) (hv : RdI w v lo) (hg : GoodLost n lo) (few : lo.length ≤ 2) :
    Calls Try.prog 11 #[num n, wv, v, num 3] w fun e w' => e = .returned (.tuple #[num (costOf n ws (lsOf n lo) 3), .bool (wayB n ws (lsOf n lo) 3)]) ∧ Ext w w' := by
  obtain ⟨A, cap, rfl, hc, hA⟩ := id hv
  obtain ⟨A', cap', rfl, hc', hA'⟩ := id hw
  generalize hls : lsOf n lo = ls
  have hm := made_walk h2 h8 hw hn hv hg
  rw [hls] at hm
  have HM := Lib.hid hm
  clear hA hA' hv hw hg hn hm hls
  go_enter Try.func11, Try.ntmps11
  go_wp2_with fail
  refine HM.out.mono ?_
  rintro e w2 ⟨lv, rfl, r, e2⟩
  obtain ⟨A2, cap2, rfl, hc2, hA2⟩ := id r.lo
  have BX := Lib.hid (boxed r)
  have E2 := Lib.hid e2
  clear hA2 r e2 HM
  go_upto_region 4 with fail
  generalize w2.alloc (.cells #[.int .i64 n, .slice A' ws.length cap', .slice A2 ls.length cap2] 41) = w3 at BX ⊢
  have hix := ways_at3
  have c0 := BX.out.c0
  have c1 := BX.out.c1
  have c2 := BX.out.c2
  have HK := Lib.hid (fun (W : World) (h : Ext w3 W) => rebuild_walk (BX.out.row.ext h))
  have E3 := Lib.hid (E2.out.trans BX.out.ext)
  go_cut [12, 13] from 36 to 43 (fun l b wx => ∃ v, l = v ∧ b = .bool (wayB n ws ls 3) ∧ Own wx w.heap.size v (wayL n ws ls 3) ∧ Ext w wx)
  case first =>
    clear BX
    go_region_with (first
      | (go_at_call 18; refine (ways_walk _).mono ?_; rintro e wA ⟨rfl, eA⟩; have EA := Lib.hid (show Ext w3 wA from ⟨eA.os, eA.tape, eA.output, eA.size, eA.block⟩); have d0 := EA.out.cell c0; have d1 := EA.out.cell c1; have d2 := EA.out.cell c2; clear eA)
      | (go_at_call 23; refine (HK.out _ ⟨EA.out.os, EA.out.tape, EA.out.output, EA.out.size, EA.out.block⟩).mono ?_; rintro e wB ⟨v, rfl, hv, eB⟩; have HV := Lib.hid hv; have EB := Lib.hid (show Ext wA wB from ⟨eB.os, eB.tape, eB.output, eB.size, eB.block⟩); clear hv eB))
    all_goals (
      go_wp2_with fail
      go_meet
      case rel => exact ⟨_, rfl, rfl, HV.out.mono (E3.out.trans EA.out).size, E3.out.trans (EA.out.trans EB.out)⟩)
  case rest =>
    obtain ⟨v, rfl, rfl, hv, he⟩ := hcut
    have hlen : (wayL n ws ls 3).length ≤ 1048576 := wayL_len h8 ws ls 3
    obtain ⟨A5, cap5, rfl, hc5, -⟩ := hv.shape
    have HE := Lib.hid he
    have HC := Lib.hid (show costOf n ws ls 3 = if wayB n ws ls 3 = true then (wayL n ws ls 3).length else 0 from rfl)
    clear hv he BX HK E3 hix c0 c1 c2
    generalize hbb : wayB n ws ls 3 = bb at HC ⊢
    generalize hco : costOf n ws ls 3 = co at HC
    have HBB := Lib.hid hbb
    have HCO := Lib.hid hco
    clear hbb hco
    generalize (wayL n ws ls 3).length = L at HC hlen hc5 ⊢
    cases bb with
    | true =>
      obtain rfl : co = L := HC.out
      go_wp2
      go_ret2
      exact ⟨by rw [HCO.out, HBB.out]; rfl, HE.out⟩
    | false =>
      obtain rfl : co = 0 := HC.out
      go_wp2
      go_ret2
      exact ⟨by rw [HCO.out, HBB.out]; rfl, HE.out⟩

set_option maxRecDepth 100000 in
set_option maxHeartbeats 4000000 in
theorem cost_whole {w : World} {n : Nat} {wv v : Value} {ws : List Bool} {lo : List Int} (h2 : 2 ≤ n) (h8 : n ≤ 8) (hw : RdB w wv ws) (hn : ws.length = n) (hv : RdI w v lo) (hg : GoodLost n lo) (few : lo.length ≤ 2) :
    Calls Try.prog 11 #[num n, wv, v, num 4] w fun e w' => e = .returned (.tuple #[num (costOf n ws (lsOf n lo) 4), .bool (wayB n ws (lsOf n lo) 4)]) ∧ Ext w w' := by
  obtain ⟨A, cap, rfl, hc, hA⟩ := id hv
  obtain ⟨A', cap', rfl, hc', hA'⟩ := id hw
  generalize hls : lsOf n lo = ls
  have hm := made_walk h2 h8 hw hn hv hg
  rw [hls] at hm
  have HM := Lib.hid hm
  clear hA hA' hv hw hg hn hm hls
  go_enter Try.func11, Try.ntmps11
  go_wp2_with fail
  refine HM.out.mono ?_
  rintro e w2 ⟨lv, rfl, r, e2⟩
  obtain ⟨A2, cap2, rfl, hc2, hA2⟩ := id r.lo
  have BX := Lib.hid (boxed r)
  have E2 := Lib.hid e2
  clear hA2 r e2 HM
  go_upto_region 4 with fail
  generalize w2.alloc (.cells #[.int .i64 n, .slice A' ws.length cap', .slice A2 ls.length cap2] 41) = w3 at BX ⊢
  have hix := ways_at4
  have c0 := BX.out.c0
  have c1 := BX.out.c1
  have c2 := BX.out.c2
  have HK := Lib.hid (fun (W : World) (h : Ext w3 W) => whole_walk (BX.out.row.ext h))
  have E3 := Lib.hid (E2.out.trans BX.out.ext)
  go_cut [12, 13] from 36 to 43 (fun l b wx => ∃ v, l = v ∧ b = .bool (wayB n ws ls 4) ∧ Own wx w.heap.size v (wayL n ws ls 4) ∧ Ext w wx)
  case first =>
    clear BX
    go_region_with (first
      | (go_at_call 18; refine (ways_walk _).mono ?_; rintro e wA ⟨rfl, eA⟩; have EA := Lib.hid (show Ext w3 wA from ⟨eA.os, eA.tape, eA.output, eA.size, eA.block⟩); have d0 := EA.out.cell c0; have d1 := EA.out.cell c1; have d2 := EA.out.cell c2; clear eA)
      | (go_at_call 19; refine (HK.out _ ⟨EA.out.os, EA.out.tape, EA.out.output, EA.out.size, EA.out.block⟩).mono ?_; rintro e wB ⟨v, rfl, hv, eB⟩; have HV := Lib.hid hv; have EB := Lib.hid (show Ext wA wB from ⟨eB.os, eB.tape, eB.output, eB.size, eB.block⟩); clear hv eB))
    all_goals (
      go_wp2_with fail
      go_meet
      case rel => exact ⟨_, rfl, rfl, HV.out.mono (E3.out.trans EA.out).size, E3.out.trans (EA.out.trans EB.out)⟩)
  case rest =>
    obtain ⟨v, rfl, rfl, hv, he⟩ := hcut
    have hlen : (wayL n ws ls 4).length ≤ 1048576 := wayL_len h8 ws ls 4
    obtain ⟨A5, cap5, rfl, hc5, -⟩ := hv.shape
    have HE := Lib.hid he
    have HC := Lib.hid (show costOf n ws ls 4 = if wayB n ws ls 4 = true then (wayL n ws ls 4).length else 0 from rfl)
    clear hv he BX HK E3 hix c0 c1 c2
    generalize hbb : wayB n ws ls 4 = bb at HC ⊢
    generalize hco : costOf n ws ls 4 = co at HC
    have HBB := Lib.hid hbb
    have HCO := Lib.hid hco
    clear hbb hco
    generalize (wayL n ws ls 4).length = L at HC hlen hc5 ⊢
    cases bb with
    | true =>
      obtain rfl : co = L := HC.out
      go_wp2
      go_ret2
      exact ⟨by rw [HCO.out, HBB.out]; rfl, HE.out⟩
    | false =>
      obtain rfl : co = 0 := HC.out
      go_wp2
      go_ret2
      exact ⟨by rw [HCO.out, HBB.out]; rfl, HE.out⟩

theorem cost_walk {w : World} {n way : Nat} {wv v : Value} {ws : List Bool} {lo : List Int} (h2 : 2 ≤ n) (h8 : n ≤ 8) (hw : RdB w wv ws) (hn : ws.length = n) (hv : RdI w v lo) (hg : GoodLost n lo) (few : lo.length ≤ 2) (h1 : 1 ≤ way) (h4 : way ≤ 4) :
    Calls Try.prog 11 #[num n, wv, v, num way] w fun e w' => e = .returned (.tuple #[num (costOf n ws (lsOf n lo) way), .bool (wayB n ws (lsOf n lo) way)]) ∧ Ext w w' := by
  rcases (by omega : way = 1 ∨ way = 2 ∨ way = 3 ∨ way = 4) with rfl | rfl | rfl | rfl
  · exact cost_full h2 h8 hw hn hv hg few
  · exact cost_modify h2 h8 hw hn hv hg few
  · exact cost_rebuild h2 h8 hw hn hv hg few
  · exact cost_whole h2 h8 hw hn hv hg few

end Go.Proofs.Ytllomgkdplpecaa
