/- TopWanted: the walk: rows that are wanted stay at hand; what is pinned never goes. -/
import Derived.Test.YtdilchcnfnfdiaaGreatDoorTShown
import Derived.Test.YtdilchcnfnfdiaaGreatDoorTL
namespace Go.Proofs.YtdilchcnfnfdiaaGreatDoor
open Go.RowKit

/-! ### Plain -/
/-- At most three keys; p is among them, pinned once; nothing else is pinned. -/
structure Wn (p : Int) (st : List (Int × Int)) : Prop where
  len : st.length ≤ 3
  nd : (st.map (·.1)).Nodup
  mem : (p, 1) ∈ st
  rest : ∀ x ∈ st, x.1 ≠ p → x.2 = 0
theorem hasK_mem {k : Int} {st : List (Int × Int)} : hasK k st = true ↔ ∃ x ∈ st, x.1 = k := by simp [hasK]
theorem rmK_mem {k : Int} {st : List (Int × Int)} {x : Int × Int} : x ∈ rmK k st ↔ x ∈ st ∧ x.1 ≠ k := by simp [rmK]
theorem rmK_nd {k : Int} {st : List (Int × Int)} (h : (st.map (·.1)).Nodup) : ((rmK k st).map (·.1)).Nodup ∧ k ∉ (rmK k st).map (·.1) := by
  refine ⟨h.sublist ((List.filter_sublist).map _), fun hm => ?_⟩
  obtain ⟨x, hx, e⟩ := List.mem_map.1 hm
  exact (rmK_mem.1 hx).2 e
theorem rmK_len {k : Int} {st : List (Int × Int)} (h : hasK k st = true) : (rmK k st).length + 1 ≤ st.length := by
  obtain ⟨x, hx, rfl⟩ := hasK_mem.1 h
  exact List.length_filter_lt_length_iff_exists.2 ⟨x, hx, by simp⟩
theorem nd_eq {st : List (Int × Int)} (h : (st.map (·.1)).Nodup) {x y : Int × Int} (hx : x ∈ st) (hy : y ∈ st) (e : x.1 = y.1) : x = y := by
  induction st with
  | nil => cases hx
  | cons z r ih =>
    have hc := h
    rw [List.map_cons, List.nodup_cons] at hc
    obtain ⟨hc1, hc2⟩ := hc
    rcases List.mem_cons.1 hx with rfl | hx' <;> rcases List.mem_cons.1 hy with rfl | hy'
    · rfl
    · exact absurd (List.mem_map.2 ⟨y, hy', e.symm⟩) hc1
    · exact absurd (List.mem_map.2 ⟨x, hx', e⟩) hc1
    · exact ih hc2 hx' hy'
theorem pinsK_of {st : List (Int × Int)} (h : (st.map (·.1)).Nodup) {x : Int × Int} (hx : x ∈ st) : pinsK x.1 st = x.2 := by
  unfold pinsK
  cases hf : st.find? (fun y => y.1 == x.1) with
  | none =>
    have := List.find?_eq_none.1 hf x hx
    simp at this
  | some y =>
    have h1 := List.mem_of_find?_eq_some hf
    have h2 := List.find?_some hf
    have e : y = x := nd_eq h h1 hx (by simpa using h2)
    subst e
    rfl
theorem Wn.has {p : Int} {st : List (Int × Int)} (h : Wn p st) : hasK p st = true := hasK_mem.2 ⟨_, h.mem, rfl⟩
theorem Wn.pins {p : Int} {st : List (Int × Int)} (h : Wn p st) : pinsK p st = 1 := pinsK_of h.nd h.mem
theorem Wn.pins0 {p k : Int} {st : List (Int × Int)} (h : Wn p st) (hk : hasK k st = true) (hne : k ≠ p) : pinsK k st = 0 := by
  obtain ⟨x, hx, rfl⟩ := hasK_mem.1 hk
  rw [pinsK_of h.nd hx]
  exact h.rest x hx hne
theorem Wn.get {p k : Int} {st : List (Int × Int)} (h : Wn p st) (hk : hasK k st = true) : Wn p (getSt k st) := by
  unfold getSt
  rw [if_pos hk]
  have hl := rmK_len hk
  have hn := rmK_nd (k := k) h.nd
  refine ⟨by have := h.len; simp; omega, by rw [List.map_cons]; exact List.nodup_cons.2 ⟨hn.2, hn.1⟩, ?_, fun x hx hne => ?_⟩
  · by_cases e : k = p
    · subst e; rw [h.pins]; exact List.mem_cons_self
    · exact List.mem_cons_of_mem _ (rmK_mem.2 ⟨h.mem, fun e' => e e'.symm⟩)
  · rcases List.mem_cons.1 hx with rfl | hx
    · exact h.pins0 hk hne
    · exact h.rest x (rmK_mem.1 hx).1 hne
theorem Wn.cons {p k : Int} {st : List (Int × Int)} (h : Wn p st) (hk : hasK k st = false) (hl : st.length < 3) : Wn p ((k, 0) :: st) := by
  have hk' : ∀ x ∈ st, x.1 ≠ k := fun x hx e => by
    have := hasK_mem.2 ⟨x, hx, e⟩
    rw [this] at hk
    cases hk
  refine ⟨by simp; omega, ?_, List.mem_cons_of_mem _ h.mem, fun x hx hne => ?_⟩
  · rw [List.map_cons]
    refine List.nodup_cons.2 ⟨fun hm => ?_, h.nd⟩
    obtain ⟨x, hx, e⟩ := List.mem_map.1 hm
    exact hk' x hx e
  · rcases List.mem_cons.1 hx with rfl | hx
    · rfl
    · exact h.rest x hx hne
theorem Wn.rm {p k : Int} {st : List (Int × Int)} (h : Wn p st) (hne : k ≠ p) : Wn p (rmK k st) :=
  ⟨Nat.le_trans (List.length_filter_le _ _) h.len, (rmK_nd h.nd).1, rmK_mem.2 ⟨h.mem, fun e => hne e.symm⟩, fun x hx hn => h.rest x (rmK_mem.1 hx).1 hn⟩
theorem Wn.goes {p : Int} {st : List (Int × Int)} (h : Wn p st) (hl : 1 < st.length) : ∃ g, goesK st = some g ∧ g ∈ st ∧ g.1 ≠ p := by
  unfold goesK
  cases hf : st.reverse.find? (fun x => decide (x.2 ≤ 0)) with
  | none =>
    have hall : ∀ x ∈ st, x = (p, 1) := fun x hx => by
      have := List.find?_eq_none.1 hf x (List.mem_reverse.2 hx)
      have hx0 : ¬ x.2 ≤ 0 := by simpa using this
      have e : x.1 = p := Classical.byContradiction fun hne => hx0 (by rw [h.rest x hx hne]; decide)
      exact nd_eq h.nd hx h.mem e
    match st, h, hl, hall with
    | x :: y :: r, h, _, hall =>
      have h1 := hall x List.mem_cons_self
      have h2 := hall y (List.mem_cons_of_mem _ List.mem_cons_self)
      have := h.nd
      rw [h1, h2] at this
      simp at this
  | some g =>
    have h1 : g ∈ st := List.mem_reverse.1 (List.mem_of_find?_eq_some hf)
    have h2 := List.find?_some hf
    have h2' : g.2 ≤ 0 := by simpa using h2
    refine ⟨g, rfl, h1, fun e => ?_⟩
    have := nd_eq h.nd h1 h.mem e
    rw [this] at h2'
    have h3 : (1 : Int) ≤ 0 := h2'
    omega
theorem Wn.put {p k : Int} {st : List (Int × Int)} (h : Wn p st) : Wn p (putR 3 k st).1 ∧ (putR 3 k st).2.2.2 = 0 ∧ hasK k (putR 3 k st).1 = true := by
  unfold putR
  by_cases hk : hasK k st = true
  · rw [if_pos hk]
    refine ⟨h.get hk, rfl, ?_⟩
    simp [getSt, hk]
    simp [hasK]
  · have hk' : hasK k st = false := by simpa using hk
    rw [if_neg hk]
    by_cases hl : st.length < 3
    · rw [if_pos hl]
      exact ⟨h.cons hk' hl, rfl, by simp [hasK]⟩
    · rw [if_neg hl]
      obtain ⟨g, hg, hgm, hgp⟩ := h.goes (by omega)
      rw [hg]
      have hr := rmK_len (hasK_mem.2 ⟨g, hgm, rfl⟩)
      have hlen := h.len
      refine ⟨(h.rm hgp).cons ?_ (by omega), rfl, by simp [hasK]⟩
      cases hq : hasK k (rmK g.1 st) with
      | false => rfl
      | true =>
        obtain ⟨x, hx, e⟩ := hasK_mem.1 hq
        rw [hasK_mem.2 ⟨x, (rmK_mem.1 hx).1, e⟩] at hk'
        cases hk'

/-! ### The walk -/
/-- What the walk is told of bytes that came in. -/
def ByteArg (w : World) (a : Option Addr) (len : Nat) (xs : Nat → Nat) : Prop := ∀ i, i < len → xs i ≤ 255 ∧ ∃ x, a = some x ∧ w.cell? (x.add i) = some (.int .u8 (xs i : Int))
theorem Tryz.uLst : Tryz.prog.underlying 49 = some (.pointer 111) := by kernel_rfl
theorem lst_some (w : World) (b : Nat) : (binOp .eql 49 (ptr b) (.pointer none)).run Tryz.prog w = .ok (.bool false) w := by
  have h : ∀ d : Nat, (Op.equalIn (d + 1) 49 (ptr b) (.pointer none)).run Tryz.prog w = .ok false w := fun d => by
    simp [Op.equalIn, run_underlying Tryz.uLst]
  simp only [binOp]
  simp [Op.equal, Op.maxDepth, h 9999]
def WantRel (w : World) (L : Nat) (p : Int) (len : Nat) (i : Value) (wr : World) : Prop := ∃ (k : Nat) (st : List (Int × Int)), k ≤ len ∧ i = num k ∧ Wn p st ∧ St w wr L 3 st

set_option maxRecDepth 100000 in
theorem wanted_long (a : Option Addr) (len cap p : Nat) (w : World) (hl : 100 < len) :
    Calls Tryz.prog 5 #[.slice a len cap, .int .u8 p] w fun e w' => e = .returned (.bool true) ∧ Below w.heap.size w w' := by
  have hli : (100 : Int) < len := by omega
  have HS := Lib.hid (shown_walk w)
  go_enter Tryz.func5, Tryz.ntmps5
  go_wp2_with fail
  refine HS.out.mono ?_
  rintro e w1 ⟨rfl, h1⟩
  have H1 := Lib.hid h1
  clear HS h1
  go_wp2_with fail
  go_ret
  exact ⟨rfl, H1.out⟩

set_option maxRecDepth 100000 in
set_option maxHeartbeats 1000000 in
theorem wanted_walk (a : Option Addr) (len cap : Nat) (xs : Nat → Nat) (p : Nat) (w : World) (hl : len ≤ 100) (hp : p ≤ 255) (hx : ByteArg w a len xs) :
    Calls Tryz.prog 5 #[.slice a len cap, .int .u8 p] w fun e w' => e = .returned (.bool true) ∧ Below w.heap.size w w' := by
  have hli : (len : Int) ≤ 100 := by omega
  have hpi : (p : Int) ≤ 255 := by omega
  have hd : decide ((100 : Int) < len) = false := by simp; omega
  have HX := Lib.hid hx
  have HS := Lib.hid (shown_walk w)
  clear hx
  go_enter Tryz.func5, Tryz.ntmps5
  go_wp2_with fail
  refine HS.out.mono ?_
  rintro e w1 ⟨rfl, h1⟩
  have HN := Lib.hid (s_new_at 3 w w1 h1 (by decide) (by decide))
  clear HS h1
  go_wp2_with fail
  refine HN.out.mono ?_
  rintro e w2 ⟨L, rfl, s2⟩
  have hls := fun W => lst_some W L
  have HP := Lib.hid (show Calls Tryz.prog 19 #[ptr L, num p] w2 fun e w' => e = .returned (.tuple #[num 0, .bool false, num 0]) ∧ St w w' L 3 [((p : Int), 0)] from s_put s2 p)
  clear HN s2
  go_wp2_with fail
  refine HP.out.mono ?_
  rintro e w3 ⟨rfl, s3⟩
  have HQ := Lib.hid (show Calls Tryz.prog 20 #[ptr L, num p] w3 fun e w' => e = .returned (num 0) ∧ St w w' L 3 [((p : Int), 1)] from by
    have := s_pin s3 p
    rw [show pinSt (p : Int) [((p : Int), 0)] = [((p : Int), 1)] by simp [pinSt, hasK, pinsK, setK, wrap64], show hasK (p : Int) [((p : Int), 0)] = true by simp [hasK], if_pos rfl] at this
    exact this)
  clear HP s3
  go_wp2_with fail
  refine HQ.out.mono ?_
  rintro e w4 ⟨rfl, s4⟩
  have A0 := Lib.hid (show WantRel w L p len (num 0) w4 from ⟨0, _, Nat.zero_le _, rfl, ⟨by simp, by simp, List.mem_cons_self, fun x hx hne => by
    rcases List.mem_cons.1 hx with rfl | hx
    · exact absurd rfl hne
    · cases hx⟩, s4⟩)
  clear HQ s4
  go_wp2_with fail
  go_loopw [7] (fun i wr => WantRel w L p len i wr) (fun i _ => len - (intOf i).toNat)
  case atStart => exact A0.out
  case round =>
    obtain ⟨k, st, hk, rfl, hw, hs⟩ := hrel
    clear A0
    by_cases hlt : k < len
    · obtain ⟨hb, x, rfl, hc⟩ := HX.out k hlt
      have hcr := (show Ext w wr from hs.below).cell hc
      have HC := Lib.hid hc
      obtain ⟨y, hy⟩ : ∃ y, xs k = y := ⟨_, rfl⟩
      rw [hy] at hcr hb HC
      have hyi : (y : Int) ≤ 255 := by omega
      obtain ⟨w1', e1, q1⟩ := hw.put (k := (y : Int))
      have HP := Lib.hid (s_put hs (y : Int))
      rw [e1] at HP
      obtain ⟨r1, hr1⟩ : ∃ r1, (putR 3 (y : Int) st).1 = r1 := ⟨_, rfl⟩
      obtain ⟨r2, hr2⟩ : ∃ r2, (putR 3 (y : Int) st).2.1 = r2 := ⟨_, rfl⟩
      obtain ⟨r3, hr3⟩ : ∃ r3, (putR 3 (y : Int) st).2.2.1 = r3 := ⟨_, rfl⟩
      rw [hr1, hr2, hr3] at HP
      rw [hr1] at w1' q1
      clear hr1 hr2 hr3 e1
      have HW := Lib.hid w1'
      have HQ := Lib.hid q1
      have hdy : decide ((k : Int) < len) = true := by simp; omega
      clear w1' q1 hc hy hw hs
      go_wp2_with fail
      refine HP.out.mono ?_
      rintro e2 w5 ⟨rfl, s5⟩
      have hcr5 := (show Ext w w5 from s5.below).cell HC.out
      have HG := Lib.hid (s_get s5 (y : Int))
      rw [HQ.out] at HG
      have HW2 := Lib.hid (HW.out.get HQ.out)
      obtain ⟨t1, ht1⟩ : ∃ t1, getSt (y : Int) r1 = t1 := ⟨_, rfl⟩
      rw [ht1] at HG HW2
      clear HP s5 ht1 HW HQ hcr
      go_wp2_with fail
      refine HG.out.mono ?_
      rintro e3 w6 ⟨rfl, s6⟩
      have HPP := Lib.hid (s_pinned s6 (p : Int))
      rw [HW2.out.pins] at HPP
      clear HG s6 hcr5
      go_wp2_with fail
      refine HPP.out.mono ?_
      rintro e4 w7 ⟨rfl, s7⟩
      have HK := Lib.hid (s_keys s7 (by have := HW2.out.len; omega))
      clear HPP s7
      go_wp2_with fail
      refine HK.out.mono ?_
      rintro e5 w8 ⟨v, rfl, ho, s8⟩
      obtain ⟨A, c8, rfl, _, _⟩ := ho.shape
      have hkl : ((keysOf t1).length : Int) ≤ 3 := by have := HW2.out.len; simp [keysOf]; omega
      have hkd : decide ((3 : Int) < ((keysOf t1).length : Int)) = false := by simp; omega
      have R := Lib.hid (show WantRel w L p len (num ((k : Int) + 1)) w8 from ⟨k + 1, t1, by omega, by go_num, HW2.out, s8⟩)
      clear HK ho s8 HW2
      go_wp2_with fail
      go_roundw
      case rel => exact R.out
      case measure => simp [intOf]; omega
    · obtain rfl : k = len := by omega
      have HG := Lib.hid (s_get hs (p : Int))
      rw [hw.has] at HG
      clear hs hw
      go_wp2_with fail
      refine HG.out.mono ?_
      rintro e3 w6 ⟨rfl, s6⟩
      have R := Lib.hid s6.below
      clear HG s6
      go_wp2_with fail
      go_ret
      exact ⟨rfl, R.out⟩

end Go.Proofs.YtdilchcnfnfdiaaGreatDoor
