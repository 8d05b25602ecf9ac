/- LruOrder: the walk. -/
import Derived.Test.YtmdpnilokodbpaaLawOrder
namespace Go.Proofs.Ytmdpnilokodbpaa
open Go.RowKit

theorem Own.take {w : World} {B g cap n : Nat} {A : Option Addr} {xs : List Int} (h : Own w B (.slice A xs.length cap) xs) (hA : A = some ⟨g, 0, none⟩) (hn : n ≤ xs.length) : Own w B (.slice A n cap) (xs.take n) := by
  subst hA
  rcases h.2 with ⟨hn', _⟩ | ⟨g', cap', cur, hv, hb, hgg, hc, hm, hs, ht⟩
  · cases hn'
  · injection hv with e1 _ e3
    injection e1 with e1
    injection e1 with e1
    subst e1
    subst e3
    have hl : (xs.take n).length = n := by simp; omega
    refine ⟨by rw [nums_length, hl]; omega, .inr ⟨g, cap, cur, by rw [hl], hb, hgg, by omega, hm, hs, ?_⟩⟩
    rw [hl]
    have := congrArg (List.take n) ht
    rw [List.take_take] at this
    simp only [Nat.mul_one] at this ⊢
    rw [show min n xs.length = n by omega] at this
    rw [this]
    simp [nums]

set_option maxRecDepth 100000 in
theorem order_long (r : Nat) (A : Option Addr) (len cap : Nat) (w : World) (hl : 200 < len) :
    Calls Try.prog 3 #[.int .u8 r, .slice A len cap] w fun e w' => e = .returned (.bool true) ∧ Below w.heap.size w w' := by
  have S := Lib.hid (shown_any w)
  go_enter Try.func3, Try.ntmps3
  go_wp2_with fail
  refine S.out.mono ?_
  rintro e w' ⟨rfl, b⟩
  have B := Lib.hid b
  clear b S
  go_wp2_with fail
  go_ret
  exact ⟨rfl, B.out⟩

theorem take_key {st : List (Int × Int)} {m : Nat} (h : m < st.length) : ∃ q, st.take (m + 1) = st.take m ++ [((keysOf st).getD m 0, q)] := by
  refine ⟨st[m].2, ?_⟩
  rw [List.take_succ_eq_append_getElem h]
  have : (keysOf st).getD m 0 = st[m].1 := by simp [keysOf, List.getD_eq_getElem?_getD, h]
  rw [this]
theorem inner_eq {st : List (Int × Int)} {m : Nat} {z : Int} (h : m < st.length) (e : (keysOf st).getD m 0 = z) : hasK z (st.take (m + 1)) = true ∧ nextL z (keysOf (st.take (m + 1))) = nextL z (keysOf (st.take m)) := by
  obtain ⟨q, hq⟩ := take_key h
  rw [hq, e]
  refine ⟨hasK_mem.2 ⟨(z, q), by simp, rfl⟩, ?_⟩
  rw [show keysOf (st.take m ++ [(z, q)]) = keysOf (st.take m) ++ [z] by simp [keysOf], nextL_snoc_eq]
theorem inner_ne {st : List (Int × Int)} {m : Nat} {z : Int} (h : m < st.length) (e : (keysOf st).getD m 0 ≠ z) : hasK z (st.take (m + 1)) = hasK z (st.take m) ∧ nextL z (keysOf (st.take (m + 1))) = nextL z (keysOf (st.take m)) ++ [(keysOf st).getD m 0] := by
  obtain ⟨q, hq⟩ := take_key h
  rw [hq]
  refine ⟨?_, ?_⟩
  · unfold hasK
    rw [List.any_append]
    have : ((keysOf st).getD m 0 == z) = false := by simpa using e
    simp only [List.any_cons, List.any_nil, this, Bool.or_false]
  · rw [show keysOf (st.take m ++ [((keysOf st).getD m 0, q)]) = keysOf (st.take m) ++ [(keysOf st).getD m 0] by simp [keysOf], nextL_snoc_ne _ e]

def OrderRel (w : World) (L n len : Nat) (v i : Value) (wr : World) : Prop :=
  ∃ (j : Nat) (st : List (Int × Int)), j ≤ len ∧ i = num j ∧ Ord n st ∧ Own wr w.heap.size v (keysOf st) ∧ StX w wr L n st v.ownBlock.toList
def InnerRel (wr : World) (z : Int) (st : List (Int × Int)) (nx was j : Value) (w' : World) : Prop :=
  ∃ (m : Nat) (b : Bool), m ≤ st.length ∧ j = num m ∧ was = .bool b ∧ b = hasK z (st.take m) ∧ Own w' wr.heap.size nx (nextL z (keysOf (st.take m))) ∧ Keeps (fun _ => False) wr w'

set_option maxRecDepth 100000 in
set_option maxHeartbeats 1600000 in
theorem order_walk (r : Nat) (A : Option Addr) (zs : List Int) (len cap : Nat) (w : World) (hr : r ≤ 255) (hl : len ≤ 200) (hlz : len ≤ zs.length) (hz : BytesAt w A zs) (hzb : ∀ i, 0 ≤ zs.getD i 0 ∧ zs.getD i 0 ≤ 255) :
    Calls Try.prog 3 #[.int .u8 r, .slice A len cap] w fun e w' => e = .returned (.bool true) ∧ Below w.heap.size w w' := by
  obtain ⟨n, hn⟩ : ∃ n : Nat, n = 1 + r % 8 := ⟨_, rfl⟩
  have hn1 : 1 ≤ n := by omega
  have hn64 : n ≤ 8 := by omega
  have HN := Lib.hid (show 1 + (r : Int) % 8 = (n : Int) by omega)
  have HS := Lib.hid (shown_any w)
  have HZ := Lib.hid hz
  have HB := Lib.hid hzb
  clear hn hz hzb
  go_enter Try.func3, Try.ntmps3
  go_wp2_with fail
  refine HS.out.mono ?_
  rintro e w1 ⟨rfl, b1⟩
  have N1 := Lib.hid (s_new_at n w w1 b1 hn1 (by omega))
  clear b1 HS
  go_wp2_with fail
  rw [HN.out]
  clear HN
  refine N1.out.mono ?_
  rintro e w2 ⟨L, rfl, s2⟩
  clear N1
  go_wp2_with fail
  have own0 : Own (w2.alloc (.cells #[] 3)) w.heap.size (.slice (some ⟨w2.heap.size, 0, none⟩) 0 0) [] :=
    ⟨rfl, .inr ⟨w2.heap.size, 0, #[], rfl, s2.below.size, alloc_new w2 _, Nat.le_refl 0, by unfold maxLen; omega, rfl, rfl⟩⟩
  have sx0 : StX w (w2.alloc (.cells #[] 3)) L n [] [w2.heap.size] := (StX.of_st s2).same ((Keeps.refl _ w2).alloc _) (fun x hx => by simp only [List.mem_singleton] at hx; subst hx; rw [size_alloc]; exact ⟨Nat.lt_succ_self _, .inr (Nat.le_refl _)⟩)
  have R0 := Lib.hid (show OrderRel w L n len (.slice (some ⟨w2.heap.size, 0, none⟩) 0 0) (num 0) (w2.alloc (.cells #[] 3)) from ⟨0, [], Nat.zero_le _, rfl, ord_nil n, own0, sx0⟩)
  clear own0 sx0 s2
  go_loopw [7, 8] (fun v i wr => OrderRel w L n len v i wr) (fun _ i _ => len - (intOf i).toNat)
  case atStart => exact R0.out
  case round =>
    obtain ⟨j, st, hj, rfl, ho, hv, sx⟩ := hrel
    clear R0
    by_cases hlt : j < len
    · obtain ⟨x, rfl, hc⟩ := HZ.out j (by omega)
      have hxb : x.block < w.heap.size := by have := World.block_lt_of_cell? w _ hc; rw [add_block] at this; exact this
      have hcr : wr.cell? (x.add j) = some (.int .u8 (zs.getD j 0)) := (sx.below.cell (p := x.add j) (by rw [add_block]; exact hxb)).trans hc
      obtain ⟨z0, z1⟩ := HB.out j
      clear HZ HB hc
      generalize zs.getD j 0 = z at hcr z0 z1
      have HO := Lib.hid ho
      have HV := Lib.hid hv
      have SX := Lib.hid sx
      have LN := Lib.hid ho.len
      obtain ⟨Av, capv, rfl, _, hAv⟩ := hv.shape
      have kl : (keysOf st).length = st.length := by simp [keysOf]
      rw [kl] at hAv ⊢
      have HA := Lib.hid hAv
      have HW := Lib.hid sx.below.size
      have hst : st.length ≤ 8 := by have := ho.len; omega
      clear ho hv sx hAv kl hxb
      have I0 := Lib.hid (show InnerRel wr z st (.slice (some ⟨wr.heap.size, 0, none⟩) 1 1) (.bool false) (num 0) (wr.alloc (.cells #[num z] 3)) from ⟨0, false, Nat.zero_le _, rfl, rfl, rfl, own_lit wr z, (Keeps.refl _ wr).alloc _⟩)
      obtain ⟨wo, hwo⟩ : ∃ wo : World, wo = wr := ⟨_, rfl⟩
      subst hwo
      go_wp2_with fail
      go_loopw [10, 11, 12] (fun nx was m w' => InnerRel wo z st nx was m w') (fun _ _ m _ => st.length - (intOf m).toNat)
      case atStart => exact I0.out
      case round =>
        obtain ⟨m, b, hm, rfl, rfl, hb, hnx, hkp⟩ := hrel
        clear I0
        have HK := Lib.hid hkp
        have HB' := Lib.hid hb
        by_cases hm' : m < st.length
        · obtain ⟨g, rfl, hc⟩ := HA.out m hm'
          have hcw : wr.cell? ⟨g, m, none⟩ = some (num ((keysOf st).getD m 0)) := (hkp.cell_same hc).trans hc
          by_cases e : (keysOf st).getD m 0 = z
          · obtain ⟨f1, f2⟩ := inner_eq hm' e
            rw [e] at hcw
            have R := Lib.hid (show InnerRel wo z st u10 (.bool true) (num ((m : Int) + 1)) wr from ⟨m + 1, true, hm', by go_num, rfl, f1.symm, by rw [f2]; exact hnx, hkp⟩)
            have q : (z == z) = true := by simp
            clear f1 f2 e hc hnx hkp hb
            go_wp2_with fail
            go_roundw
            case rel => exact R.out
            case measure => simp [intOf]; omega
          · obtain ⟨f1, f2⟩ := inner_ne hm' e
            have HNX := Lib.hid (hnx.keep (F := fun _ => False) ((Keeps.refl _ wr).alloc (.cells #[num ((keysOf st).getD m 0)] 3)) (fun _ _ h => h))
            have HNW := Lib.hid (alloc_new wr (.cells #[num ((keysOf st).getD m 0)] 3))
            have q : ((keysOf st).getD m 0 == z) = false := by simpa using e
            have ST := Lib.hid (fun (g' cap' : Nat) (w1 : World) (h1 : Own w1 wo.heap.size (.slice (some ⟨g', 0, none⟩) ((nextL z (keysOf (st.take m))).length + 1) cap') (nextL z (keysOf (st.take m)) ++ [(keysOf st).getD m 0]))
              (h2 : Keeps (fun k => u10.ownBlock = some k) (wr.alloc (.cells #[num ((keysOf st).getD m 0)] 3)) w1) =>
              show InnerRel wo z st (.slice (some ⟨g', 0, none⟩) ((nextL z (keysOf (st.take m))).length + 1) cap') (.bool b) (num ((m : Int) + 1)) w1 from
                ⟨m + 1, b, hm', by go_num, rfl, hb.trans f1.symm, by rw [f2]; exact h1, (hkp.alloc _).trans h2 (fun i hi => .inr (hnx.lt hi).1)⟩)
            have hB : wo.heap.size ≤ (wr.alloc (.cells #[num ((keysOf st).getD m 0)] 3)).heap.size := by rw [size_alloc]; have := hkp.size; omega
            have hlen : (nextL z (keysOf (st.take m))).length ≤ 1048576 := by
              have h1 := nextL_len z (keysOf (st.take m))
              have h2 : (keysOf (st.take m)).length ≤ m := by simp [keysOf]; omega
              omega
            have hglt := World.block_lt_of_cell? wr _ hcw
            clear f1 f2 e hc hnx hkp hb HB'
            generalize (keysOf st).getD m 0 = km at hcw q HNX HNW ST hB
            go_wp2_with (at_builtin; refine wpList_append_num rfl _ _ rfl wo.heap.size u10 (nextL z (keysOf (st.take m))) rfl HNX.out wr.heap.size km rfl HNW.out hlen hB ?_; intro g' cap' w1 h1 h2 h3; have R := Lib.hid (ST.out g' cap' w1 h1 h2); clear h1 h2 h3 ST HNX HNW hlen hB hcw hglt)
            go_roundw
            case rel => exact R.out
            case measure => simp [intOf]; omega
        · obtain rfl : m = st.length := by omega
          rw [List.take_length] at hb hnx HB'
          have sxr := SX.out.same hkp (X' := u10.ownBlock.toList) (fun y hy => by
            have hy' : u10.ownBlock = some y := by simpa using hy
            have := hnx.lt hy'
            exact ⟨this.2, .inr (by omega)⟩)
          rcases ord_put HO.out hn1 ⟨z0, z1⟩ with ⟨st', e1, e2, e3, e4⟩ | ⟨st', g, e1, e2, e3, e4, e5, e6, e7⟩
          · have hlen : (nextL z (keysOf st)).length ≤ n := e3
            obtain ⟨A', cap', hu, hcap, _⟩ := hnx.shape
            have P1 := x_put sxr z
            rw [e1] at P1
            have P := Lib.hid P1
            have NX := Lib.hid hnx
            have E2 := Lib.hid e2
            have E4 := Lib.hid e4
            have KW := Lib.hid hkp.size
            subst hu
            have hge : ¬ (n : Int) < ((nextL z (keysOf st)).length : Int) := by omega
            clear P1 hnx hkp sxr e1 e2 e3 e4 hb HB' HK
            go_wp2_with fail
            refine P.out.mono ?_
            rintro e w3 ⟨rfl, s3, k3⟩
            have nx3 := NX.out.of_eq (w' := w3) (fun q hq => k3 q (.inr (by rw [hq]; simp)))
            have N3 := Lib.hid nx3
            have K := Lib.hid (x_keys s3 (by have := E4.out.len; omega))
            have W3 := Lib.hid s3.below.size
            clear P s3 k3 nx3 NX
            cases b <;> (
              go_wp2_with fail
              refine K.out.mono ?_
              rintro e w4 ⟨vk, rfl, hvk, k4, hX⟩
              have n4 := N3.out.keep k4 (fun _ _ h => h)
              have S4 := Lib.hid (hX ((Value.slice A' (nextL z (keysOf st)).length cap').ownBlock.toList) (fun y hy => by
                have hy' : (Value.slice A' (nextL z (keysOf st)).length cap').ownBlock = some y := by simpa using hy
                exact ⟨(n4.lt hy').2, .inl hy⟩))
              have N4 := Lib.hid n4
              have SM := Lib.hid (same_any hvk n4 (by have := E4.out.len; simp [keysOf]; omega) (by omega))
              clear hvk k4 hX n4 K N3
              go_wp2_with fail
              refine SM.out.mono ?_
              rintro e w5 ⟨he, q, rfl⟩
              obtain rfl : e = .returned (.bool true) := he.trans (by rw [E2.out]; simp)
              clear SM he
              go_wp2_with fail
              go_roundw
              case rel => exact ⟨j + 1, st', by omega, by go_num, E4.out, by
                have h1 := (N4.out.mono HW.out).keep (F := fun _ => False) ((Keeps.refl _ w4).drewN q) (fun _ _ h => h)
                rw [E2.out] at h1 ⊢
                exact h1, S4.out.drewN q⟩
              case measure => simp [intOf]; omega)
          · obtain ⟨A', cap', hu, hcap, hcell⟩ := hnx.shape
            obtain ⟨g', rfl, hg⟩ := hcell n (by omega)
            rw [e3] at hg
            have hgt : (n : Int) < ((nextL z (keysOf st)).length : Int) := by omega
            have hb0 : b = false := by rw [hb]; exact e6
            subst hb0
            subst hu
            have tk := hnx.take rfl (show n ≤ (nextL z (keysOf st)).length by omega)
            have P1 := x_put sxr z
            rw [e1] at P1
            have P := Lib.hid P1
            have NX := Lib.hid tk
            have E2 := Lib.hid e5
            have E4 := Lib.hid e7
            have HL := Lib.hid e2
            have hnc : n ≤ cap' := by omega
            have hgl := World.block_lt_of_cell? wr _ hg
            clear P1 hnx hkp sxr e1 e2 e3 e5 e6 e7 hb HB' HK tk hcap hcell
            go_wp2_with fail
            refine P.out.mono ?_
            rintro e w3 ⟨rfl, s3, k3⟩
            have nx3 := NX.out.of_eq (w' := w3) (fun q hq => k3 q (.inr (by
              have : g' = q := by simpa [Value.ownBlock] using hq
              subst this
              simp [Value.ownBlock])))
            have N3 := Lib.hid nx3
            have K := Lib.hid (x_keys s3 (by have := E4.out.len; omega))
            clear P s3 k3 nx3 NX hg hgl
            go_wp2_with fail
            refine K.out.mono ?_
            rintro e w4 ⟨vk, rfl, hvk, k4, hX⟩
            have n4 := N3.out.keep k4 (fun _ _ h => h)
            have S4 := Lib.hid (hX ((Value.slice (some ⟨g', 0, none⟩) n cap').ownBlock.toList) (fun y hy => by
              have hy' : y = g' := by simpa [Value.ownBlock] using hy
              subst hy'
              exact ⟨(n4.lt rfl).2, .inl (by simp [Value.ownBlock])⟩))
            have hl8 : ((nextL z (keysOf st)).take n).length = n := by have := HL.out; simp; omega
            have N4 := Lib.hid n4
            have n4' := n4
            have SM := Lib.hid (same_any hvk n4' (by have := E4.out.len; simp [keysOf]; omega) (by omega))
            clear hvk k4 hX n4 n4' K N3 hl8
            go_wp2_with fail
            refine SM.out.mono ?_
            rintro e w5 ⟨he, q, rfl⟩
            obtain rfl : e = .returned (.bool true) := he.trans (by rw [E2.out]; simp)
            clear SM he
            go_wp2_with fail
            go_roundw
            case rel => exact ⟨j + 1, st', by omega, by go_num, E4.out, by
              have h1 := (N4.out.mono HW.out).keep (F := fun _ => False) ((Keeps.refl _ w4).drewN q) (fun _ _ h => h)
              rw [E2.out] at h1
              exact h1, S4.out.drewN q⟩
            case measure => simp [intOf]; omega
    · obtain rfl : j = len := by omega
      have B := Lib.hid sx.below
      clear sx ho hv HZ HB
      go_wp2_with fail
      go_ret
      exact ⟨rfl, B.out⟩

end Go.Proofs.Ytmdpnilokodbpaa
