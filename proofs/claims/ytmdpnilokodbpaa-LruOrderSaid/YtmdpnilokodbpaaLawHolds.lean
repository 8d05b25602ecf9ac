/- LruHolds: the walk: never more keys than there is room for; a pinned one never goes. -/
import Derived.Test.YtmdpnilokodbpaaLawBusy
import Derived.Test.YtmdpnilokodbpaaLruStX
import Derived.Test.YtmdpnilokodbpaaClass
namespace Go.Proofs.Ytmdpnilokodbpaa
open Go.RowKit

/-- The key p is there and pinned once; no other one is pinned. -/
structure Held (n : Nat) (p : Int) (st : List (Int × Int)) : Prop where
  nd : (st.map (·.1)).Nodup
  len : st.length ≤ n
  has : hasK p st = true
  pins : ∀ x ∈ st, x.2 = if x.1 = p then 1 else 0

theorem Held.pinned {n : Nat} {p : Int} {st : List (Int × Int)} (h : Held n p st) : pinsK p st = 1 := by
  obtain ⟨s1, q, s2, e, h1, _⟩ := split_of_has h.nd h.has
  have := h.pins (p, q) (by rw [e]; simp)
  rw [e, pinsK_split h1]
  simpa using this
theorem Held.drop {n : Nat} {p : Int} {st : List (Int × Int)} (h : Held n p st) : dropE p st = 5 ∧ dropSt p st = st := by
  simp [dropE, dropSt, h.has, h.pinned]

theorem hasK_mem {k : Int} {st : List (Int × Int)} : hasK k st = true ↔ ∃ x ∈ st, x.1 = k := by simp [hasK]
theorem rmK_mem {k : Int} {st : List (Int × Int)} {x : Int × Int} (h : x ∈ rmK k st) : x ∈ st ∧ x.1 ≠ k := by
  unfold rmK at h
  rw [List.mem_filter] at h
  exact ⟨h.1, by simpa using h.2⟩
theorem rmK_nodup {k : Int} {st : List (Int × Int)} (nd : (st.map (·.1)).Nodup) : ((rmK k st).map (·.1)).Nodup := by
  unfold rmK
  exact List.Nodup.sublist (List.Sublist.map _ List.filter_sublist) nd
theorem cons_rm_nodup {k v : Int} {st : List (Int × Int)} (nd : (st.map (·.1)).Nodup) : (((k, v) :: rmK k st).map (·.1)).Nodup := by
  rw [List.map_cons, List.nodup_cons]
  refine ⟨fun h => ?_, rmK_nodup nd⟩
  obtain ⟨x, hx, e⟩ := List.mem_map.1 h
  exact (rmK_mem hx).2 e
theorem rmK_len {k p : Int} {s1 s2 : List (Int × Int)} (h1 : ∀ x ∈ s1, x.1 ≠ k) (h2 : ∀ x ∈ s2, x.1 ≠ k) : (rmK k (s1 ++ (k, p) :: s2)).length + 1 = (s1 ++ (k, p) :: s2).length := by
  rw [rmK_split h1 h2]
  simp
  omega

theorem held_put {n : Nat} {p : Int} {st : List (Int × Int)} (h : Held n p st) (hn : 2 ≤ n) (k : Int) :
    ∃ st' g b v rest, putR n k st = (st', g, b, 0) ∧ (b = true → (g == p) = false) ∧ Held n p st' ∧ st' = (k, v) :: rest := by
  unfold putR
  by_cases hk : hasK k st = true
  · rw [if_pos hk, getSt, if_pos hk]
    obtain ⟨s1, q, s2, e, h1, h2⟩ := split_of_has h.nd hk
    have hl := rmK_len (p := q) h1 h2
    rw [← e] at hl
    have hp := pinsK_split (k := k) (p := q) (s2 := s2) h1
    rw [← e] at hp
    refine ⟨_, _, _, _, _, rfl, (fun hf => by cases hf), ⟨cons_rm_nodup h.nd, by rw [List.length_cons]; have := h.len; omega, ?_, ?_⟩, rfl⟩
    · rw [hasK_mem]
      by_cases ek : k = p
      · exact ⟨_, List.mem_cons_self, ek⟩
      · obtain ⟨x, hx, ex⟩ := hasK_mem.1 h.has
        refine ⟨x, List.mem_cons_of_mem _ ?_, ex⟩
        unfold rmK
        rw [List.mem_filter]
        exact ⟨hx, by rw [ex]; simpa using Ne.symm ek⟩
    · intro x hx
      rcases List.mem_cons.1 hx with rfl | hx
      · rw [hp]; exact h.pins (k, q) (by rw [e]; simp)
      · exact h.pins x (rmK_mem hx).1
  · have hkp : k ≠ p := by rintro rfl; exact hk h.has
    have hnew : ∀ x ∈ st, x.1 ≠ k := fun x hx e => hk (hasK_mem.2 ⟨x, hx, e⟩)
    rw [if_neg hk]
    by_cases hr : st.length < n
    · rw [if_pos hr]
      refine ⟨_, _, _, _, _, rfl, (fun hf => by cases hf), ⟨?_, by rw [List.length_cons]; omega, ?_, ?_⟩, rfl⟩
      · rw [List.map_cons, List.nodup_cons]
        refine ⟨fun hh => ?_, h.nd⟩
        obtain ⟨x, hx, e⟩ := List.mem_map.1 hh
        exact hnew x hx e
      · obtain ⟨x, hx, ex⟩ := hasK_mem.1 h.has
        exact hasK_mem.2 ⟨x, List.mem_cons_of_mem _ hx, ex⟩
      · intro x hx
        rcases List.mem_cons.1 hx with rfl | hx
        · rw [if_neg hkp]
        · exact h.pins x hx
    · rw [if_neg hr]
      have hlen : st.length = n := by have := h.len; omega
      cases hg : goesK st with
      | none =>
        exfalso
        unfold goesK at hg
        rw [List.find?_eq_none] at hg
        have all : ∀ x ∈ st, x.1 = p := by
          intro x hx
          have h1 := hg x (List.mem_reverse.2 hx)
          have h2 := h.pins x hx
          by_cases e : x.1 = p
          · exact e
          · rw [if_neg e] at h2
            rw [h2] at h1
            simp at h1
        match st, h.nd, all, hlen with
        | [], _, _, hl => simp at hl; omega
        | [_], _, _, hl => simp at hl; omega
        | a :: b :: r, nd, al, _ =>
          rw [List.map_cons, List.nodup_cons] at nd
          exact nd.1 (by rw [al a (by simp), ← al b (by simp)]; simp)
      | some g =>
        have hgm : g ∈ st := by unfold goesK at hg; exact List.mem_reverse.1 (List.mem_of_find?_eq_some hg)
        have hg0 : g.2 ≤ 0 := by unfold goesK at hg; simpa using List.find?_some hg
        have hgp : g.1 ≠ p := by
          intro e
          have := h.pins g hgm
          rw [if_pos e] at this
          omega
        obtain ⟨s1, q, s2, e, h1, h2⟩ := split_of_has h.nd (hasK_mem.2 ⟨g, hgm, rfl⟩)
        have hl := rmK_len (p := q) h1 h2
        rw [← e] at hl
        refine ⟨_, _, _, _, _, rfl, fun _ => by simpa using hgp, ⟨?_, by rw [List.length_cons]; omega, ?_, ?_⟩, rfl⟩
        · rw [List.map_cons, List.nodup_cons]
          refine ⟨fun hh => ?_, rmK_nodup h.nd⟩
          obtain ⟨x, hx, e⟩ := List.mem_map.1 hh
          exact hnew x (rmK_mem hx).1 e
        · obtain ⟨x, hx, ex⟩ := hasK_mem.1 h.has
          refine hasK_mem.2 ⟨x, List.mem_cons_of_mem _ ?_, ex⟩
          unfold rmK
          rw [List.mem_filter]
          exact ⟨hx, by rw [ex]; simpa using Ne.symm hgp⟩
        · intro x hx
          rcases List.mem_cons.1 hx with rfl | hx
          · rw [if_neg hkp]
          · exact h.pins x (rmK_mem hx).1

/-- At the end: let go once, and no second time; then it goes. -/
theorem held_end {n : Nat} {p : Int} {st : List (Int × Int)} (h : Held n p st) : ∃ st1 st2, unpinE p st = 0 ∧ unpinSt p st = st1 ∧ unpinE p st1 = 5 ∧ unpinSt p st1 = st1 ∧ dropE p st1 = 0 ∧ dropSt p st1 = st2 ∧ dropE p st2 = 3 ∧ dropSt p st2 = st2 ∧ hasK p st2 = false := by
  obtain ⟨s1, q, s2, e, h1, h2⟩ := split_of_has h.nd h.has
  have hp := h.pinned
  have hh := h.has
  have e1 : unpinSt p st = s1 ++ (p, 0) :: s2 := by
    rw [unpinSt, hh, hp, if_pos (by decide), show wrap64 (1 - 1) = 0 from by unfold wrap64; omega, e, setK_split h1 h2]
  have h3 : hasK p (s1 ++ (p, 0) :: s2) = true := hasK_mem.2 ⟨(p, 0), by simp, rfl⟩
  have h4 : pinsK p (s1 ++ (p, 0) :: s2) = 0 := pinsK_split h1
  have h5 : hasK p (s1 ++ s2) = false := by
    unfold hasK
    rw [List.any_eq_false]
    intro x hx
    rcases List.mem_append.1 hx with hx | hx
    · simpa using h1 x hx
    · simpa using h2 x hx
  refine ⟨s1 ++ (p, 0) :: s2, s1 ++ s2, by rw [unpinE, hh, hp]; rfl, e1, by rw [unpinE, h3, h4]; rfl, by rw [unpinSt, h3, h4]; rfl, by rw [dropE, h3, h4]; rfl, by rw [dropSt, h3, h4, if_pos (by decide), rmK_split h1 h2], by rw [dropE, h5]; rfl, by rw [dropSt, h5]; rfl, h5⟩

theorem held_start (n : Nat) (p : Int) (hn : 2 ≤ n) : putR n p [] = ([(p, 0)], 0, false, 0) ∧ pinSt p [(p, 0)] = [(p, 1)] ∧ Held n p [(p, 1)] := by
  refine ⟨?_, ?_, by simp, by simp; omega, by simp [hasK], by simp⟩
  · unfold putR
    rw [if_neg (by simp [hasK]), if_pos (by simp; omega)]
  · rw [one_pinSt, show wrap64 (0 + 1) = 1 from by unfold wrap64; omega]

/-- The bytes of the argument. -/
def BytesAt (w : World) (A : Option Addr) (zs : List Int) : Prop := ∀ i, i < zs.length → ∃ x, A = some x ∧ w.cell? (x.add i) = some (.int .u8 (zs.getD i 0))

theorem StX.st {w0 w : World} {L room : Nat} {st : List (Int × Int)} {X : List Nat} (s : StX w0 w L room st X) : St w0 w L room st := by
  obtain ⟨F, s, h, b, _⟩ := s
  exact ⟨F, s, fun b hb => (h b hb).1, b⟩
theorem add_block (x : Addr) (j : Nat) : (x.add j).block = x.block := by unfold Addr.add; split <;> rfl

/-- What the test's reads want to know. -/
def TwoCells (w0 W : World) (x : Addr) (j g : Nat) (z : Int) : Prop := W.cell? (x.add j) = some (.int .u8 z) ∧ W.cell? ⟨g, 0, none⟩ = some (num z) ∧ x.block < w0.heap.size

theorem TwoCells.post {w0 W W' : World} {x : Addr} {j g : Nat} {z : Int} {L n : Nat} {st : List (Int × Int)} (c : TwoCells w0 W x j g z) (p : PostX w0 W W' L n st [g]) : TwoCells w0 W' x j g z :=
  ⟨(World.cell?_of_block (w := W) (p.2 _ (.inl (by rw [add_block]; exact c.2.2)))).trans c.1, (World.cell?_of_block (w := W) (p.2 _ (.inr (by simp)))).trans c.2.1, c.2.2⟩

theorem holds_pinned {w0 W : World} {L n : Nat} {st : List (Int × Int)} {p z : Int} {x : Addr} {j g : Nat} (s : StX w0 W L n st [g]) (h : Held n p st) (c : TwoCells w0 W x j g z) :
    Calls Try.prog 15 #[ptr L, num p] W fun e W' => e = .returned (num 1) ∧ StX w0 W' L n st [g] ∧ TwoCells w0 W' x j g z := by
  have := x_pinned s p
  rw [h.pinned] at this
  exact this.mono fun e W' ⟨he, hp⟩ => ⟨he, hp.1, c.post hp⟩
theorem holds_drop {w0 W : World} {L n : Nat} {st : List (Int × Int)} {p z : Int} {x : Addr} {j g : Nat} (s : StX w0 W L n st [g]) (h : Held n p st) (c : TwoCells w0 W x j g z) :
    Calls Try.prog 16 #[ptr L, num p] W fun e W' => e = .returned (num 5) ∧ StX w0 W' L n st [g] ∧ TwoCells w0 W' x j g z := by
  have := x_drop s p
  rw [h.drop.1, h.drop.2] at this
  exact this.mono fun e W' ⟨he, hp⟩ => ⟨he, hp.1, c.post hp⟩

theorem StX.keep_drew {w0 w : World} {L room : Nat} {st : List (Int × Int)} {X : List Nat} (s : StX w0 w L room st X) : StX w0 w.drew L room st X := s.drewN 1
def HoldsC (w0 : World) (x : Addr) (j q : Nat) (z : Int) (L n : Nat) (st : List (Int × Int)) (W : World) : Prop := StX w0 W L n st [q] ∧ TwoCells w0 W x j q z
theorem holds_pinned' {w0 : World} {L n : Nat} {st : List (Int × Int)} {p z : Int} {x : Addr} {j q : Nat} (W : In (HoldsC w0 x j q z L n st)) (h : Held n p st) :
    Calls Try.prog 15 #[ptr L, num p] W.val fun e w'' => e = .returned (num 1) ∧ ∃ W' : In (HoldsC w0 x j q z L n st), w'' = W'.val :=
  calls_class (holds_pinned W.is.1 h W.is.2) (fun _ _ h => h)
theorem holds_drop' {w0 : World} {L n : Nat} {st : List (Int × Int)} {p z : Int} {x : Addr} {j q : Nat} (W : In (HoldsC w0 x j q z L n st)) (h : Held n p st) :
    Calls Try.prog 16 #[ptr L, num p] W.val fun e w'' => e = .returned (num 5) ∧ ∃ W' : In (HoldsC w0 x j q z L n st), w'' = W'.val :=
  calls_class (holds_drop W.is.1 h W.is.2) (fun _ _ h => h)

set_option maxRecDepth 100000 in
theorem holds_long (r : Nat) (p : Int) (A : Option Addr) (len cap : Nat) (w : World) (hl : 300 < len) :
    Calls Try.prog 5 #[.int .u8 r, .slice A len cap, .int .u8 p] w fun e w' => e = .returned (.bool true) ∧ Below w.heap.size w w' := by
  have S := Lib.hid (shown_any w)
  go_enter Try.func5, Try.ntmps5
  go_wp2_with fail
  refine S.out.mono ?_
  rintro e w' ⟨rfl, b⟩
  have B := Lib.hid b
  clear b S
  go_wp2_with fail
  go_ret
  exact ⟨rfl, B.out⟩

set_option maxRecDepth 100000 in
set_option maxHeartbeats 800000 in
theorem holds_walk (r : Nat) (p : Int) (A : Option Addr) (zs : List Int) (len cap : Nat) (w : World) (hr : r ≤ 255) (hp0 : 0 ≤ p) (hp : p ≤ 255) (hl : len ≤ 300) (hlz : len ≤ zs.length) (hz : BytesAt w A zs) (hzb : ∀ i, 0 ≤ zs.getD i 0 ∧ zs.getD i 0 ≤ 255) :
    Calls Try.prog 5 #[.int .u8 r, .slice A len cap, .int .u8 p] w fun e w' => e = .returned (.bool true) ∧ Below w.heap.size w w' := by
  obtain ⟨n, hn⟩ : ∃ n : Nat, n = 2 + r % 60 := ⟨_, rfl⟩
  have hn1 : 2 ≤ n := by omega
  have hn64 : n ≤ 64 := by omega
  obtain ⟨h1, h2, h3⟩ := held_start n p hn1
  have HN := Lib.hid (show 2 + (r : Int) % 60 = (n : Int) by omega)
  have H1 := Lib.hid h1
  have H2 := Lib.hid h2
  have HS := Lib.hid (shown_any w)
  have HZ := Lib.hid hz
  have HB := Lib.hid hzb
  clear hn h1 h2 hz hzb
  go_enter Try.func5, Try.ntmps5
  go_wp2_with fail
  refine HS.out.mono ?_
  rintro e w1 ⟨rfl, b1⟩
  have N1 := Lib.hid (s_new_at n w w1 b1 (by omega) hn64)
  clear b1 HS
  go_wp2_with fail
  rw [HN.out]
  clear HN
  refine N1.out.mono ?_
  rintro e w2 ⟨L, rfl, s2⟩
  clear N1
  have P1 := s_put s2 p
  rw [H1.out] at P1
  have P := Lib.hid P1
  clear P1 s2 H1
  go_wp2_with fail
  refine P.out.mono ?_
  rintro e w3 ⟨rfl, s3⟩
  have P1 := s_pin s3 p
  rw [one_has, if_pos rfl, H2.out] at P1
  have P' := Lib.hid P1
  clear P1 s3 H2 P
  go_wp2_with fail
  refine P'.out.mono ?_
  rintro e w4 ⟨rfl, s4⟩
  clear P'
  go_wp2_with fail
  have H3 := Lib.hid h3
  clear h3
  go_loopw [13] (fun i wr => ∃ (j : Nat) (st : List (Int × Int)), j ≤ len ∧ i = num j ∧ Held n p st ∧ St w wr L n st) (fun i _ => len - (intOf i).toNat)
  case atStart => exact ⟨0, _, Nat.zero_le _, rfl, H3.out, s4⟩
  case round =>
    obtain ⟨j, st, hj, rfl, hd, sr⟩ := hrel
    clear s4 H3
    by_cases hlt : j < len
    · obtain ⟨x, rfl, hc⟩ := HZ.out j (by omega)
      have hxb : x.block < w.heap.size := by have := World.block_lt_of_cell? w _ hc; rw [add_block] at this; exact this
      have hcr : wr.cell? (x.add j) = some (.int .u8 (zs.getD j 0)) := (sr.below.cell (p := x.add j) (by rw [add_block]; exact hxb)).trans hc
      obtain ⟨z0, z1⟩ := HB.out j
      clear HZ HB hc
      generalize zs.getD j 0 = z at hcr z0 z1
      obtain ⟨st', g, b, v, rest, e1, e2, hd', e3⟩ := held_put hd hn1 z
      have P1 := x_put (StX.of_st sr) z
      rw [e1] at P1
      have P := Lib.hid P1
      have HD := Lib.hid hd'
      have E3 := Lib.hid e3
      clear P1 sr hd e1 hd' e3
      go_wp2_with fail
      refine P.out.mono ?_
      rintro e w5 ⟨rfl, s5, k5⟩
      have hcr5 : w5.cell? (x.add j) = some (.int .u8 z) := (World.cell?_of_block (w := wr) (k5 _ (.inl (by rw [add_block]; exact hxb)))).trans hcr
      have K := Lib.hid (x_keys s5 (by have := HD.out.len; omega))
      clear P s5 k5 hcr
      go_wp2_with fail
      refine K.out.mono ?_
      rintro e w6 ⟨vk, rfl, ho, k6, hX⟩
      have hlen : (keysOf st').length = st'.length := by simp [keysOf]
      have hpos : 0 < st'.length := by rw [E3.out]; simp
      obtain ⟨A', cap', rfl, hcap, hA'⟩ := ho.shape
      obtain ⟨q, rfl, hq⟩ := hA' 0 (by rw [hlen]; exact hpos)
      have hq' : w6.cell? ⟨q, 0, none⟩ = some (num z) := by
        rw [hq, E3.out]
        simp [keysOf]
      have hqn := ho.lt (g := q) rfl
      have s6 := hX [q] (fun y hy => by simp only [List.mem_singleton] at hy; subst hy; exact ⟨hqn.2, .inr hqn.1⟩)
      have hcr6 : w6.cell? (x.add j) = some (.int .u8 z) := (k6.cell_same (p := x.add j) hcr5).trans hcr5
      have TC := Lib.hid (show TwoCells w w6 x j q z from ⟨hcr6, hq', hxb⟩)
      have S6 := Lib.hid s6
      have hln : st'.length ≤ n := HD.out.len
      rw [hlen]
      clear K ho k6 hX hlen hA' hq hcap hqn s6 hcr5
      go_wp2_with fail
      obtain ⟨hc1, hc2, hc3⟩ := TC.out
      have hneg : ((z : Int) != z) = false := by simp
      have hle : ¬ (n : Int) < (st'.length : Int) := by omega
      have hl0 : ((st'.length : Int) == 0) = false := by
        have : (st'.length : Int) ≠ 0 := by omega
        simpa using this
      have ne : Nonempty (In (HoldsC w x j q z L n st')) := ⟨⟨w6, ⟨S6.out, TC.out⟩⟩⟩
      have r1 : ∀ W : In (HoldsC w x j q z L n st'), W.val.cell? (x.add j) = some (.int .u8 z) := fun W => W.is.2.1
      have r2 : ∀ W : In (HoldsC w x j q z L n st'), W.val.cell? ⟨q, 0, none⟩ = some (num z) := fun W => W.is.2.2.1
      have D := Lib.hid (show HoldsC w x j q z L n st' w6.drew from ⟨S6.out.keep_drew, TC.out⟩)
      have HX := Lib.hid hxb
      have HH := Lib.hid (show 0 < len ∧ len ≤ 300 by omega)
      clear hc1 hc2 hc3 hq' hcr6 TC S6 E3 hln hxb
      cases b with
      | false =>
        refine wp_region_class (HoldsC w x j q z L n st') (by kernel_rfl) (by kernel_rfl) D.out ?_
        repeat (go_big_quiet_step (first
          | (go_at_call 15; exact holds_pinned' _ HD.out)
          | (go_at_call 16; exact holds_drop' _ HD.out)))
        refine wpQuiet_nil ?_
        intro w7 hw'
        have hs : St w w7 L n st' := by obtain ⟨W, rfl⟩ := hw'; exact W.is.1.st
        clear hw' r1 r2 ne D
        go_wp2_with fail
        go_roundw
        case rel => exact ⟨j + 1, st', by omega, by go_num, HD.out, hs⟩
        case measure => simp [intOf]; omega
      | true =>
        have E2 := e2 rfl
        clear e2
        refine wp_region_class (HoldsC w x j q z L n st') (by kernel_rfl) (by kernel_rfl) D.out ?_
        repeat (go_big_quiet_step (first
          | (go_at_call 15; exact holds_pinned' _ HD.out)
          | (go_at_call 16; exact holds_drop' _ HD.out)))
        refine wpQuiet_nil ?_
        intro w7 hw'
        have hs : St w w7 L n st' := by obtain ⟨W, rfl⟩ := hw'; exact W.is.1.st
        clear hw' r1 r2 ne D
        go_wp2_with fail
        go_roundw
        case rel => exact ⟨j + 1, st', by omega, by go_num, HD.out, hs⟩
        case measure => simp [intOf]; omega
    · obtain rfl : j = len := by omega
      obtain ⟨st1, st2, f1, f2, f3, f4, f5, f6, f7, f8, f9⟩ := held_end hd
      have U := s_unpin sr p
      rw [f1, f2] at U
      have F := Lib.hid (And.intro f3 (And.intro f4 (And.intro f5 (And.intro f6 (And.intro f7 (And.intro f8 f9))))))
      have U1 := Lib.hid U
      clear U f1 f2 f3 f4 f5 f6 f7 f8 f9 sr hd HZ HB
      go_wp2_with fail
      refine U1.out.mono ?_
      rintro e w5 ⟨rfl, s5⟩
      have U := s_unpin s5 p
      rw [F.out.1, F.out.2.1] at U
      have U2 := Lib.hid U
      clear U s5 U1
      go_wp2_with fail
      refine U2.out.mono ?_
      rintro e w6 ⟨rfl, s6⟩
      have U := s_drop s6 p
      rw [F.out.2.2.1, F.out.2.2.2.1] at U
      have U3 := Lib.hid U
      clear U s6 U2
      go_wp2_with fail
      refine U3.out.mono ?_
      rintro e w7 ⟨rfl, s7⟩
      have U := s_drop s7 p
      rw [F.out.2.2.2.2.1, F.out.2.2.2.2.2.1] at U
      have U4 := Lib.hid U
      clear U s7 U3
      go_wp2_with fail
      refine U4.out.mono ?_
      rintro e w8 ⟨rfl, s8⟩
      have U := s_get s8 p
      rw [F.out.2.2.2.2.2.2] at U
      have U5 := Lib.hid U
      clear U s8 U4 F
      go_wp2_with fail
      refine U5.out.mono ?_
      rintro e w9 ⟨rfl, s9⟩
      have B := Lib.hid s9.below
      clear s9 U5
      go_wp2_with fail
      go_ret
      exact ⟨rfl, B.out⟩

end Go.Proofs.Ytmdpnilokodbpaa
