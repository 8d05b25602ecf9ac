/- PlanRead: the walk: a column that is not lost is read alone; one that is, from all that are left, as long as no more than two are. -/
import Derived.Test.YtllomgkdplpecaaPlanRead
namespace Go.Proofs.Ytllomgkdplpecaa
open Go.RowKit

def leftL (n : Nat) (lo : List Int) : List Int := wants n (fun _ i => !(lsOf n lo).getD i false)
theorem left_mem {n : Nat} {lo : List Int} {i : Nat} (hi : i < (leftL n lo).length) : lo.contains ((leftL n lo).getD i 0) = false := by
  have hm : (leftL n lo).getD i 0 ∈ leftL n lo := by
    rw [List.getD_eq_getElem?_getD, List.getElem?_eq_getElem hi]
    exact List.getElem_mem hi
  generalize (leftL n lo).getD i 0 = z at hm
  simp only [leftL, wants, sel, List.mem_map, List.mem_filter, List.mem_range] at hm
  obtain ⟨m, ⟨hm, hp⟩, rfl⟩ := hm
  rw [lsOf_get lo hm] at hp
  simpa using hp
theorem left_two : ∀ n, n < 9 → ∀ i : Nat, i < 10 → ∀ k : Nat, k < 10 → (i < n + 2 ∧ k < n + 2 ∧ i ≠ k) → (leftL n [((i : Nat) : Int), ((k : Nat) : Int)]).length = n := by decide +kernel
theorem left_one : ∀ n, n < 9 → ∀ i : Nat, i < 10 → i < n + 2 → (leftL n [(i : Int)]).length = n + 1 := by decide +kernel
theorem left_none : ∀ n, n < 9 → (leftL n []).length = n + 2 := by decide +kernel
theorem left_len {n : Nat} {lo : List Int} (hn : n ≤ 8) (h : GoodLost n lo) (h2 : ¬ 2 < lo.length) : (leftL n lo).length + lo.length = n + 2 := by
  match lo, h, h2 with
  | [], _, _ => have := left_none n (by omega); simp; omega
  | [x], h, _ =>
    obtain ⟨i, hi, rfl⟩ := h.inn x (by simp)
    have := left_one n (by omega) i (by omega) hi
    simp; omega
  | [x, y], h, _ =>
    obtain ⟨i, hi, rfl⟩ := h.inn x (by simp)
    obtain ⟨k, hk, rfl⟩ := h.inn y (by simp)
    have hne := h.nodup
    have := left_two n (by omega) i (by omega) k (by omega) ⟨hi, hk, by rintro rfl; simp at hne⟩
    simp; omega
  | x :: y :: z :: t, _, h2 => simp at h2
theorem GoodLost.more {n : Nat} {lo : List Int} (h : GoodLost n lo) {i : Nat} (hi : i < n + 2) (hl : lo.length < 3) (hc : lo.contains (i : Int) = false) : GoodLost n (lo ++ [(i : Int)]) := by
  have hm : ¬ (i : Int) ∈ lo := by simpa using hc
  refine ⟨fun x hx => ?_, ?_, by simp; omega⟩
  · rcases List.mem_append.1 hx with hx | hx
    · exact h.inn x hx
    · simp at hx
      exact ⟨i, hi, hx⟩
  · rw [List.nodup_append]
    refine ⟨h.nodup, by simp, fun a ha b hb => ?_⟩
    simp at hb
    rintro rfl
    exact hm (hb ▸ ha)

def MoreRel (w : World) (n : Nat) (v j : Value) (wr : World) : Prop :=
  ∃ (i : Nat) (lo : List Int), i ≤ n + 2 ∧ j = num i ∧ Own wr w.heap.size v lo ∧ GoodLost n lo ∧ Ext w wr
def LeftRel (m : Nat) (W : World) (j : Value) (wr : World) : Prop := ∃ i : Nat, i ≤ m ∧ j = num i ∧ wr = W

set_option maxRecDepth 100000 in
set_option maxHeartbeats 2000000 in
theorem read_law (many role a b : Nat) (third : Bool) (w : World) (h1 : many ≤ 255) (h2 : role ≤ 255) (h3 : a ≤ 255) (h4 : b ≤ 255) :
    Calls Try.prog 6 #[.int .u8 many, .int .u8 role, .int .u8 a, .int .u8 b, .bool third] w fun e w' => e = .returned (.bool true) ∧ Below w.heap.size w w' := by
  obtain ⟨n, hn⟩ : ∃ n : Nat, n = 2 + many % 7 := ⟨_, rfl⟩
  obtain ⟨k, hk⟩ : ∃ k : Nat, k = role % (n + 2) := ⟨_, rfl⟩
  have hn2 : 2 ≤ n := by omega
  have hn8 : n ≤ 8 := by omega
  have hkn : k < n + 2 := by rw [hk]; exact Nat.mod_lt role (by omega)
  have HN := Lib.hid (show 2 + (many : Int) % 7 = (n : Int) by omega)
  have HK := Lib.hid (show (role : Int) % ((n : Int) + 2) = (k : Int) by rw [hk, Int.natCast_emod]; rfl)
  have H2 := Lib.hid (two_walk n a b w hn8 (by omega) (by omega))
  have HG0 := Lib.hid (twoL_good n (a % (n + 3)) (b % (n + 3)))
  have hN := HN.out
  clear hk hn
  go_enter Try.func6, Try.ntmps6
  go_wp2_with fail
  refine H2.out.mono ?_
  rintro e w1 ⟨v, rfl, hv, he⟩
  generalize twoL n (a % (n + 3)) (b % (n + 3)) = lo at hv HG0
  have HG := Lib.hid HG0.out.1
  obtain ⟨A, cap, rfl, hc, -⟩ := hv.shape
  have HV := Lib.hid hv
  have HE := Lib.hid he
  have hK := HK.out
  clear hv he H2 HG0 hc
  by_cases h3rd : third = true ∧ lo.length = 2
  · obtain ⟨rfl, hl2⟩ := h3rd
    rw [hl2] at HV ⊢
    clear hl2
    go_wp2_with fail
    rw [hK]
    go_loopw [12, 14] (fun v j wr => MoreRel w n v j wr) (fun _ j _ => n + 2 - (intOf j).toNat)
    case atStart => exact ⟨0, lo, Nat.zero_le _, rfl, HV.out, HG.out, HE.out⟩
    case round =>
      clear HV HG HE
      obtain ⟨i, lo, hi, rfl, hv, hg, he⟩ := hrel
      obtain ⟨A, cap, rfl, hc, -⟩ := hv.shape
      have few := hg.few
      by_cases hlt : i < n + 2
      · by_cases hl3 : lo.length < 3
        · have HH := Lib.hid (has_walk hv.rd (by omega) (i : Int))
          cases hcon : lo.contains (i : Int) with
          | true =>
            have R := Lib.hid (show MoreRel w n (.slice A lo.length cap) (num ((i : Int) + 1)) wr from ⟨i + 1, lo, by omega, by go_num, hv, hg, he⟩)
            rw [hcon] at HH
            clear hv hg he hcon
            go_wp2_with fail
            refine HH.out.mono ?_
            rintro e w' ⟨rfl, rfl⟩
            clear HH
            go_wp2_with fail
            go_roundw
            case rel => exact R.out
            case measure => simp [intOf]; omega
          | false =>
            have ST := Lib.hid (fun (g c2 : Nat) (w2 : World) (h1 : Own w2 w.heap.size (.slice (some ⟨g, 0, none⟩) (lo.length + 1) c2) (lo ++ [(i : Int)])) (h2 : Keeps (fun q => (Value.slice A lo.length cap).ownBlock = some q) (wr.alloc (.cells #[num i] 3)) w2) =>
              show MoreRel w n (.slice (some ⟨g, 0, none⟩) (lo.length + 1) c2) (num ((i : Int) + 1)) w2 from
                ⟨i + 1, lo ++ [(i : Int)], by omega, by go_num, h1, hg.more hlt hl3 hcon, (he.alloc _).keeps h2 (fun q hq => (hv.lt hq).1)⟩)
            have hB : w.heap.size ≤ (wr.alloc (.cells #[num i] 3)).heap.size := (he.alloc _).size
            have HNW := Lib.hid (alloc_new wr (.cells #[num i] 3))
            have HA := Lib.hid (hv.ext ((Ext.refl wr).alloc (.cells #[num i] 3)))
            have hll : lo.length ≤ 1048576 := by omega
            rw [hcon] at HH
            clear hv hg he hcon
            go_wp2_with fail
            refine HH.out.mono ?_
            rintro e w' ⟨rfl, rfl⟩
            clear HH
            go_wp2_with (at_builtin; refine wpList_append_num rfl _ _ rfl w.heap.size (.slice A lo.length cap) lo rfl HA.out w'.heap.size i rfl HNW.out hll hB ?_; intro g c2 w2 h1 h2 h3; have R := Lib.hid (ST.out g c2 w2 h1 h2); clear h1 h2 h3 ST HA HNW hll hB)
            go_roundw
            case rel => exact R.out
            case measure => simp [intOf]; omega
        · have HV := Lib.hid hv
          have HG := Lib.hid hg
          have HE := Lib.hid he
          clear hv hg he
          go_wp2_with fail
          refine (read_walk hn2 hn8 hkn HV.out.rd HG.out).mono ?_
          rintro e w3 ⟨rv, rfl, hrv, e3⟩
          have SH := Lib.hid (shown_walk w3)
          have E3 := Lib.hid (HE.out.trans e3)
          have HV3 := Lib.hid (HV.out.ext e3)
          have HRV := Lib.hid hrv
          clear hrv e3 HV HE
          go_wp2_with fail
          refine SH.out.mono ?_
          rintro e w4 ⟨rfl, e4⟩
          have E4 := Lib.hid (E3.out.trans e4)
          have HH := Lib.hid (has_walk (HV3.out.ext e4).rd (by omega) (k : Int))
          have HV4 := Lib.hid (HV3.out.ext e4)
          have HRV4 := Lib.hid (HRV.out.ext e4)
          clear e4 E3 HV3 SH HRV
          go_wp2_with fail
          refine HH.out.mono ?_
          rintro e w5 ⟨rfl, rfl⟩
          clear HH
          cases hcon : lo.contains (k : Int) with
          | false =>
            have hro : readOf n k lo = ([(k : Int)], 0) := by rw [readOf, hcon, if_pos rfl]
            rw [hro] at HRV4 ⊢
            have SM := Lib.hid (same_rd (a := [(k : Int)]) (b := [(k : Int)]) (HRV4.out.rd.ext ((Ext.refl w5).alloc (.cells #[num k] 3))) (Own.one w5 0 k (Nat.zero_le _)).rd (by simp) (by simp))
            have E5 := Lib.hid (E4.out.alloc (.cells #[num k] 3))
            clear hcon hro HG HV4
            go_wp2_with fail
            refine SM.out.mono ?_
            rintro e w6 ⟨rfl, m, rfl⟩
            have E6 := Lib.hid (E5.out.drewN m)
            clear SM E5
            go_wp2
            go_ret
            exact ⟨by simp, E6.out⟩
          | true =>
            by_cases hl2 : 2 < lo.length
            · have hro : readOf n k lo = ([], 60) := by rw [readOf, hcon, if_neg (by simp), if_pos hl2]
              rw [hro] at HRV4 ⊢
              obtain ⟨A6, cap6, rfl, -, -⟩ := HRV4.out.shape
              clear hcon hro HG HV4
              go_wp2
              go_ret
              exact ⟨rfl, E4.out⟩
            · omega
      · obtain rfl : i = n + 2 := by omega
        have HV := Lib.hid hv
        have HG := Lib.hid hg
        have HE := Lib.hid he
        have hl3 : ¬ ((n : Int) + 2 < (n : Int) + 2) := by omega
        clear hv hg he hlt
        go_wp2_with fail
        refine (read_walk hn2 hn8 hkn HV.out.rd HG.out).mono ?_
        rintro e w3 ⟨rv, rfl, hrv, e3⟩
        have SH := Lib.hid (shown_walk w3)
        have E3 := Lib.hid (HE.out.trans e3)
        have HV3 := Lib.hid (HV.out.ext e3)
        have HRV := Lib.hid hrv
        clear hrv e3 HV HE
        go_wp2_with fail
        refine SH.out.mono ?_
        rintro e w4 ⟨rfl, e4⟩
        have E4 := Lib.hid (E3.out.trans e4)
        have HH := Lib.hid (has_walk (HV3.out.ext e4).rd (by omega) (k : Int))
        have HV4 := Lib.hid (HV3.out.ext e4)
        have HRV4 := Lib.hid (HRV.out.ext e4)
        clear e4 E3 HV3 SH HRV
        go_wp2_with fail
        refine HH.out.mono ?_
        rintro e w5 ⟨rfl, rfl⟩
        clear HH
        cases hcon : lo.contains (k : Int) with
        | false =>
          have hro : readOf n k lo = ([(k : Int)], 0) := by rw [readOf, hcon, if_pos rfl]
          rw [hro] at HRV4 ⊢
          have SM := Lib.hid (same_rd (a := [(k : Int)]) (b := [(k : Int)]) (HRV4.out.rd.ext ((Ext.refl w5).alloc (.cells #[num k] 3))) (Own.one w5 0 k (Nat.zero_le _)).rd (by simp) (by simp))
          have E5 := Lib.hid (E4.out.alloc (.cells #[num k] 3))
          clear hcon hro HG HV4
          go_wp2_with fail
          refine SM.out.mono ?_
          rintro e w6 ⟨rfl, m, rfl⟩
          have E6 := Lib.hid (E5.out.drewN m)
          clear SM E5
          go_wp2
          go_ret
          exact ⟨by simp, E6.out⟩
        | true =>
          by_cases hl2 : 2 < lo.length
          · have hro : readOf n k lo = ([], 60) := by rw [readOf, hcon, if_neg (by simp), if_pos hl2]
            rw [hro] at HRV4 ⊢
            obtain ⟨A6, cap6, rfl, -, -⟩ := HRV4.out.shape
            clear hcon hro HG HV4
            go_wp2
            go_ret
            exact ⟨rfl, E4.out⟩
          · have hro : readOf n k lo = (leftL n lo, 0) := by rw [readOf, hcon, if_neg (by simp), if_neg hl2]; rfl
            rw [hro] at HRV4 ⊢
            have hlen := left_len hn8 HG.out hl2
            obtain ⟨A6, cap6, rfl, hc6, hcells⟩ := HRV4.out.rd
            have HCL := Lib.hid hcells
            have HLM := Lib.hid (fun (i : Nat) (hi : i < (leftL n lo).length) => left_mem (n := n) (lo := lo) hi)
            clear hcon hro HG hcells HRV4
            generalize leftL n lo = ll at hlen hc6 HCL HLM ⊢
            go_wp2_with fail
            go_loopw [17] (fun j wr => LeftRel ll.length w5 j wr) (fun j _ => ll.length - (intOf j).toNat)
            case atStart => exact ⟨0, Nat.zero_le _, rfl, rfl⟩
            case round =>
              obtain ⟨q, hq, rfl, rfl⟩ := hrel
              by_cases hqt : q < ll.length
              · obtain ⟨g, rfl, hcell⟩ := HCL.out q hqt
                have HH := Lib.hid (has_walk HV4.out.rd (by omega) (ll.getD q 0))
                rw [HLM.out q hqt] at HH
                clear HCL HLM HV4
                generalize ll.getD q 0 = z at hcell HH
                go_wp2_with fail
                refine HH.out.mono ?_
                rintro e w6 ⟨rfl, rfl⟩
                clear HH
                go_wp2_with fail
                go_roundw
                case rel => exact ⟨q + 1, by omega, by go_num, rfl⟩
                case measure => simp [intOf]; omega
              · obtain rfl : q = ll.length := by omega
                have hend : ((ll.length : Int) == (n : Int) + 2 - (lo.length : Int)) = true := by simp; omega
                clear HCL HLM HV4
                go_wp2
                go_ret
                exact ⟨rfl, E4.out⟩
  · have few := HG.out.few
    cases third with
    | false =>
      clear h3rd
      go_wp2_with fail
      refine (read_walk hn2 hn8 hkn HV.out.rd HG.out).mono ?_
      rintro e w3 ⟨rv, rfl, hrv, e3⟩
      have SH := Lib.hid (shown_walk w3)
      have E3 := Lib.hid (HE.out.trans e3)
      have HV3 := Lib.hid (HV.out.ext e3)
      have HRV := Lib.hid hrv
      clear hrv e3 HV HE
      go_wp2_with fail
      refine SH.out.mono ?_
      rintro e w4 ⟨rfl, e4⟩
      have E4 := Lib.hid (E3.out.trans e4)
      have HH := Lib.hid (has_walk (HV3.out.ext e4).rd (by omega) (k : Int))
      have HV4 := Lib.hid (HV3.out.ext e4)
      have HRV4 := Lib.hid (HRV.out.ext e4)
      clear e4 E3 HV3 SH HRV
      go_wp2_with fail
      refine HH.out.mono ?_
      rintro e w5 ⟨rfl, rfl⟩
      clear HH
      cases hcon : lo.contains (k : Int) with
      | false =>
        have hro : readOf n k lo = ([(k : Int)], 0) := by rw [readOf, hcon, if_pos rfl]
        rw [hro] at HRV4 ⊢
        have SM := Lib.hid (same_rd (a := [(k : Int)]) (b := [(k : Int)]) (HRV4.out.rd.ext ((Ext.refl w5).alloc (.cells #[num k] 3))) (Own.one w5 0 k (Nat.zero_le _)).rd (by simp) (by simp))
        have E5 := Lib.hid (E4.out.alloc (.cells #[num k] 3))
        clear hcon hro HG HV4
        go_wp2_with fail
        refine SM.out.mono ?_
        rintro e w6 ⟨rfl, m, rfl⟩
        have E6 := Lib.hid (E5.out.drewN m)
        clear SM E5
        go_wp2
        go_ret
        exact ⟨by simp, E6.out⟩
      | true =>
        by_cases hl2 : 2 < lo.length
        · have hro : readOf n k lo = ([], 60) := by rw [readOf, hcon, if_neg (by simp), if_pos hl2]
          rw [hro] at HRV4 ⊢
          obtain ⟨A6, cap6, rfl, -, -⟩ := HRV4.out.shape
          clear hcon hro HG HV4
          go_wp2
          go_ret
          exact ⟨rfl, E4.out⟩
        · have hro : readOf n k lo = (leftL n lo, 0) := by rw [readOf, hcon, if_neg (by simp), if_neg hl2]; rfl
          rw [hro] at HRV4 ⊢
          have hlen := left_len hn8 HG.out hl2
          obtain ⟨A6, cap6, rfl, hc6, hcells⟩ := HRV4.out.rd
          have HCL := Lib.hid hcells
          have HLM := Lib.hid (fun (i : Nat) (hi : i < (leftL n lo).length) => left_mem (n := n) (lo := lo) hi)
          clear hcon hro HG hcells HRV4
          generalize leftL n lo = ll at hlen hc6 HCL HLM ⊢
          go_wp2_with fail
          go_loopw [17] (fun j wr => LeftRel ll.length w5 j wr) (fun j _ => ll.length - (intOf j).toNat)
          case atStart => exact ⟨0, Nat.zero_le _, rfl, rfl⟩
          case round =>
            obtain ⟨q, hq, rfl, rfl⟩ := hrel
            by_cases hqt : q < ll.length
            · obtain ⟨g, rfl, hcell⟩ := HCL.out q hqt
              have HH := Lib.hid (has_walk HV4.out.rd (by omega) (ll.getD q 0))
              rw [HLM.out q hqt] at HH
              clear HCL HLM HV4
              generalize ll.getD q 0 = z at hcell HH
              go_wp2_with fail
              refine HH.out.mono ?_
              rintro e w6 ⟨rfl, rfl⟩
              clear HH
              go_wp2_with fail
              go_roundw
              case rel => exact ⟨q + 1, by omega, by go_num, rfl⟩
              case measure => simp [intOf]; omega
            · obtain rfl : q = ll.length := by omega
              have hend : ((ll.length : Int) == (n : Int) + 2 - (lo.length : Int)) = true := by simp; omega
              clear HCL HLM HV4
              go_wp2
              go_ret
              exact ⟨rfl, E4.out⟩
    | true =>
      have hl2 : ((lo.length : Int) == 2) = false := by simp at h3rd ⊢; omega
      clear h3rd
      go_wp2_with fail
      refine (read_walk hn2 hn8 hkn HV.out.rd HG.out).mono ?_
      rintro e w3 ⟨rv, rfl, hrv, e3⟩
      have SH := Lib.hid (shown_walk w3)
      have E3 := Lib.hid (HE.out.trans e3)
      have HV3 := Lib.hid (HV.out.ext e3)
      have HRV := Lib.hid hrv
      clear hrv e3 HV HE
      go_wp2_with fail
      refine SH.out.mono ?_
      rintro e w4 ⟨rfl, e4⟩
      have E4 := Lib.hid (E3.out.trans e4)
      have HH := Lib.hid (has_walk (HV3.out.ext e4).rd (by omega) (k : Int))
      have HV4 := Lib.hid (HV3.out.ext e4)
      have HRV4 := Lib.hid (HRV.out.ext e4)
      clear e4 E3 HV3 SH HRV
      go_wp2_with fail
      refine HH.out.mono ?_
      rintro e w5 ⟨rfl, rfl⟩
      clear HH
      cases hcon : lo.contains (k : Int) with
      | false =>
        have hro : readOf n k lo = ([(k : Int)], 0) := by rw [readOf, hcon, if_pos rfl]
        rw [hro] at HRV4 ⊢
        have SM := Lib.hid (same_rd (a := [(k : Int)]) (b := [(k : Int)]) (HRV4.out.rd.ext ((Ext.refl w5).alloc (.cells #[num k] 3))) (Own.one w5 0 k (Nat.zero_le _)).rd (by simp) (by simp))
        have E5 := Lib.hid (E4.out.alloc (.cells #[num k] 3))
        clear hcon hro HG HV4
        go_wp2_with fail
        refine SM.out.mono ?_
        rintro e w6 ⟨rfl, m, rfl⟩
        have E6 := Lib.hid (E5.out.drewN m)
        clear SM E5
        go_wp2
        go_ret
        exact ⟨by simp, E6.out⟩
      | true =>
        by_cases hl2 : 2 < lo.length
        · have hro : readOf n k lo = ([], 60) := by rw [readOf, hcon, if_neg (by simp), if_pos hl2]
          rw [hro] at HRV4 ⊢
          obtain ⟨A6, cap6, rfl, -, -⟩ := HRV4.out.shape
          clear hcon hro HG HV4
          go_wp2
          go_ret
          exact ⟨rfl, E4.out⟩
        · have hro : readOf n k lo = (leftL n lo, 0) := by rw [readOf, hcon, if_neg (by simp), if_neg hl2]; rfl
          rw [hro] at HRV4 ⊢
          have hlen := left_len hn8 HG.out hl2
          obtain ⟨A6, cap6, rfl, hc6, hcells⟩ := HRV4.out.rd
          have HCL := Lib.hid hcells
          have HLM := Lib.hid (fun (i : Nat) (hi : i < (leftL n lo).length) => left_mem (n := n) (lo := lo) hi)
          clear hcon hro HG hcells HRV4
          generalize leftL n lo = ll at hlen hc6 HCL HLM ⊢
          go_wp2_with fail
          go_loopw [17] (fun j wr => LeftRel ll.length w5 j wr) (fun j _ => ll.length - (intOf j).toNat)
          case atStart => exact ⟨0, Nat.zero_le _, rfl, rfl⟩
          case round =>
            obtain ⟨q, hq, rfl, rfl⟩ := hrel
            by_cases hqt : q < ll.length
            · obtain ⟨g, rfl, hcell⟩ := HCL.out q hqt
              have HH := Lib.hid (has_walk HV4.out.rd (by omega) (ll.getD q 0))
              rw [HLM.out q hqt] at HH
              clear HCL HLM HV4
              generalize ll.getD q 0 = z at hcell HH
              go_wp2_with fail
              refine HH.out.mono ?_
              rintro e w6 ⟨rfl, rfl⟩
              clear HH
              go_wp2_with fail
              go_roundw
              case rel => exact ⟨q + 1, by omega, by go_num, rfl⟩
              case measure => simp [intOf]; omega
            · obtain rfl : q = ll.length := by omega
              have hend : ((ll.length : Int) == (n : Int) + 2 - (lo.length : Int)) = true := by simp; omega
              clear HCL HLM HV4
              go_wp2
              go_ret
              exact ⟨rfl, E4.out⟩

end Go.Proofs.Ytllomgkdplpecaa
