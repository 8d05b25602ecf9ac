/- A drive's Flush. A drive that has nothing pending; settle; Flush. -/
import Derived.Test.YtdilchcnfnfdiaaGreatDoorTKeys
import Derived.Test.YtdilchcnfnfdiaaGreatDoorTWr
namespace Go.Proofs.YtdilchcnfnfdiaaGreatDoor
open Go.RowKit Go.Maps
open Go.ChangeMaps (setBlock)

theorem mem_keys {w : World} {m k : Nat} {D : DataW Unit} (h : w.ownsMap Tryz.prog 3 rowRef m k D) (x : Int) : x ∈ intKeys D ↔ Maps.has D (keyI x) = true := by
  obtain ⟨es, rfl, hko⟩ := h.keysOf
  rw [has_eq, List.any_eq_true]
  show x ∈ es.map (fun p => _root_.Go.intOf p.1) ↔ _
  rw [List.mem_map]
  constructor
  · rintro ⟨p, hp, rfl⟩
    obtain ⟨v, hv⟩ := hko p hp
    obtain ⟨y, _, hy, _⟩ := Maps.keyOf_i64 Tryz.underlying3 hv
    exact ⟨p, hp, by rw [hy]; simp [Lit.sameKey, _root_.Go.intOf]⟩
  · rintro ⟨p, hp, hs⟩
    obtain ⟨v, hv⟩ := hko p hp
    obtain ⟨y, _, hy, _⟩ := Maps.keyOf_i64 Tryz.underlying3 hv
    rw [hy] at hs
    exact ⟨p, hp, by rw [hy]; simpa [Lit.sameKey, _root_.Go.intOf] using hs⟩

theorem setCells_blk (b : Nat) (t : TypeId) : ∀ (vs : List Value) (o : Nat) (w : World) (cs : Array Value), w.heap[b]? = some (.cells cs t) → o + vs.length ≤ cs.size →
    ∃ cs', (w.setCells b o vs).heap[b]? = some (.cells cs' t) ∧ cs'.size = cs.size ∧ ∀ k, cs'[k]? = if o ≤ k ∧ k < o + vs.length then vs[k - o]? else cs[k]?
  | [], o, _, cs, h, _ => ⟨cs, h, rfl, fun k => by rw [if_neg (by rintro ⟨h1, h2⟩; simp at h2; omega)]⟩
  | v :: r, o, w, cs, h, hl => by
    obtain ⟨cs', h1, h2, h3⟩ := setCells_blk b t r (o + 1) (w.setCell ⟨b, o, none⟩ v) (cs.setIfInBounds o v) (set_blk h o v) (by simp at hl ⊢; omega)
    refine ⟨cs', h1, by rw [h2]; simp, fun k => ?_⟩
    rw [h3 k]
    simp only [List.length_cons] at hl ⊢
    by_cases hk : k = o
    · subst hk
      rw [if_neg (by omega), if_pos (by omega), Array.getElem?_setIfInBounds, if_pos rfl, if_pos (by omega)]
      simp
    · by_cases h2 : o + 1 ≤ k ∧ k < o + 1 + r.length
      · rw [if_pos h2, if_pos (by omega), show k - o = (k - (o + 1)) + 1 by omega]
        simp
      · rw [if_neg h2, if_neg (by omega), Array.getElem?_setIfInBounds, if_neg (by omega)]

theorem keeps_setCells {F : Nat → Prop} {a : World} {g : Nat} (hg : F g) : ∀ (vs : List Value) (o : Nat) (w : World), Keeps F a w → Keeps F a (w.setCells g o vs)
  | [], _, _, h => h
  | v :: r, o, _, h => keeps_setCells hg r (o + 1) _ (h.set (p := ⟨g, o, none⟩) (.inl hg) v)

/-- Another sector in the safe ones. -/
theorem Pend.safe_set {W0 w : World} {d sf m sp n lim : Nat} {safe : Nat → Sec} {wr : Int → List Sec} {bad : Int → Bool} (h : Pend W0 d sf m sp n lim safe wr bad w) (i : Nat) (hi : i < n) (s : Sec) (hs : s.length = 64) :
    Pend W0 d sf m sp n lim (fun j => if j = i then s else safe j) wr bad (w.setCells sf (i * 64) (cellsS s)) := by
  obtain ⟨⟨left, b⟩, ⟨cs, b1, hsz, hc1⟩, s64, ⟨k, D, V, hm, hk, hD, hr⟩, w64, wlen, wn, ⟨k2, D2, hsm, hk2, hD2, hb2⟩, n1, n2, n3, n4, n5, n6, l1, l2, l3, l4, kp, nn, ll⟩ := h
  have hlen : (cellsS s).length = 64 := by rw [cellsS_len]; exact hs
  have K := keeps_setCells (F := fun b => b = sf) (g := sf) rfl (cellsS s) (i * 64) w (Keeps.refl _ w)
  obtain ⟨cs', h1, h2, h3⟩ := setCells_blk sf 100 (cellsS s) (i * 64) w cs b1 (by rw [hlen, hsz]; omega)
  refine ⟨⟨left, K.blk b n1⟩, ⟨cs', h1, h2.trans hsz, fun j hj q v hv => ?_⟩, fun j hj => ?_, ⟨k, D, V, ownsMap_keep hm K (fun e => n4 e.symm), hk, hD, hr.keep K (fun g hg (e : g = sf) => by omega)⟩, w64, wlen, wn, ⟨k2, D2, ownsMap_keep hsm K (fun e => n5 e.symm), hk2, hD2, hb2⟩, n1, n2, n3, n4, n5, n6, l1, l2, l3, l4, kp.trans K (fun b hb => .inl (.inr (.inl hb))), nn, ll⟩
  · rw [h3, hlen]
    by_cases e : j = i
    · subst e
      rw [if_pos rfl] at hv
      have hq : q < 64 := by rw [← hlen]; exact (List.getElem?_eq_some_iff.1 hv).1
      rw [if_pos (by omega), show j * 64 + q - j * 64 = q by omega]
      exact hv
    · rw [if_neg e] at hv
      have hq : q < 64 := by rw [← s64 j hj, ← cellsS_len]; exact (List.getElem?_eq_some_iff.1 hv).1
      rw [if_neg (by omega)]
      exact hc1 j hj q v hv
  · split
    · exact hs
    · exact s64 j hj

theorem flush1_walk (a b : Int) (w : World) : Calls Tryz.prog 93 #[num a, num b] w fun e w' => e = .returned (num b) ∧ w' = w := by
  go_enter Tryz.func93, Tryz.ntmps93
  go_wp2
  go_ret
  exact ⟨rfl, rfl⟩

/-- What is safe behind the rounds that have been. -/
def settledN (wr : Int → List Sec) (ks : List Int) (safe : Nat → Sec) : Nat → Sec := fun j => if (j : Int) ∈ ks then (wr j).getLastD (safe j) else safe j
def flushed (wr : Int → List Sec) (safe : Nat → Sec) : Nat → Sec := fun j => (wr j).getLastD (safe j)

end Go.Proofs.YtdilchcnfnfdiaaGreatDoor
namespace Go.Proofs.YtdilchcnfnfdiaaGreatDoor
open Go.RowKit Go.Maps

/-- A drive with nothing pending. -/
structure Calm (w : World) (d sf m sp n lim : Nat) (safe : Nat → Sec) (bad : Int → Bool) : Prop where
  blk : ∃ left : Int, w.heap[d]? = some (.cells #[.slice (some ⟨sf, 0, none⟩) n n, .map (some m), .map (some sp), .bool false, num left, .bool false] 95)
  sec : ∃ cs, w.heap[sf]? = some (.cells cs 100) ∧ cs.size = n * 64 ∧ ∀ i, i < n → ∀ j v, (cellsS (safe i))[j]? = some v → cs[i * 64 + j]? = some v
  s64 : ∀ i, i < n → (safe i).length = 64
  wm : ∃ k, w.ownsMap Tryz.prog 3 rowRef m k (.map []) ∧ k ≤ lim
  sm : ∃ (k : Nat) (D : DataW Unit), w.ownsMap Tryz.prog 3 (plainElem Tryz.prog 4) sp k D ∧ k ≤ lim ∧ IsMap D ∧ ∀ i, D.atKey (keyI i) (.lit (.bool false)) = .lit (.bool (bad i))
  ne1 : d ≠ sf
  ne2 : d ≠ m
  ne3 : d ≠ sp
  ne4 : sf ≠ m
  ne5 : sf ≠ sp
  ne6 : m ≠ sp
  nn : 1 ≤ n ∧ n ≤ 4096
  ll : lim ≤ 100000
theorem Calm.pend {w : World} {d sf m sp n lim : Nat} {safe : Nat → Sec} {bad : Int → Bool} (h : Calm w d sf m sp n lim safe bad) : Pend w d sf m sp n lim safe (fun _ => []) bad w := by
  obtain ⟨b, sec, s64, ⟨k, hm, hk⟩, sm, n1, n2, n3, n4, n5, n6, nn, ll⟩ := h
  obtain ⟨left, hb⟩ := id b
  obtain ⟨cs, hs, _⟩ := id sec
  obtain ⟨k2, D2, hsm, _⟩ := id sm
  exact ⟨b, sec, s64, ⟨k, _, _, hm, hk, ⟨[], rfl⟩, Rows.empty _ _⟩, (fun _ _ h => by cases h), fun _ => Nat.zero_le _, fun _ h => absurd rfl h, sm, n1, n2, n3, n4, n5, n6, block_lt hb, block_lt hs, hm.lt, hsm.lt, Keeps.refl _ _, nn, ll⟩
theorem Calm.keep {w w' : World} {d sf m sp n lim : Nat} {safe : Nat → Sec} {bad : Int → Bool} (h : Calm w d sf m sp n lim safe bad) {F : Nat → Prop} (K : Keeps F w w') (h1 : ¬ F d) (h2 : ¬ F sf) (h3 : ¬ F m) (h4 : ¬ F sp) : Calm w' d sf m sp n lim safe bad := by
  obtain ⟨⟨left, b⟩, ⟨cs, hs, hc⟩, s64, ⟨k, hm, hk⟩, ⟨k2, D2, hsm, hk2, hD2⟩, n1, n2, n3, n4, n5, n6, nn, ll⟩ := h
  exact ⟨⟨left, K.blk b h1⟩, ⟨cs, K.blk hs h2, hc⟩, s64, ⟨k, ownsMap_keep hm K h3, hk⟩, ⟨k2, D2, ownsMap_keep hsm K h4, hk2, hD2⟩, n1, n2, n3, n4, n5, n6, nn, ll⟩

theorem flat_at : ∀ (ss : List Sec), (∀ s ∈ ss, s.length = 64) → ∀ i j, i < ss.length → j < 64 → (ss.flatMap cellsS)[i * 64 + j]? = (cellsS (ss.getD i []))[j]?
  | [], _, i, _, hi, _ => by simp at hi
  | s :: r, h, i, j, hi, hj => by
    have hl : (cellsS s).length = 64 := by rw [cellsS_len]; exact h s (by simp)
    rw [List.flatMap_cons]
    cases i with
    | zero => rw [List.getElem?_append_left (by omega), Nat.zero_mul, Nat.zero_add]; rfl
    | succ i =>
      rw [List.getElem?_append_right (by omega), hl, show (i + 1) * 64 + j - 64 = i * 64 + j by omega]
      exact flat_at r (fun t ht => h t (by simp [ht])) i j (by simpa using hi) hj
theorem OwnS.range {w : World} {B g n cap : Nat} {ss : List Sec} (h : OwnS w B (.slice (some ⟨g, 0, none⟩) n cap) ss) (h64 : ∀ s ∈ ss, s.length = 64) (i : Nat) (hi : i < ss.length) : w.rangeAt g (i * 64) (cellsS (ss.getD i [])) := by
  intro j v hv
  have hmem : ss.getD i [] ∈ ss := by
    rw [List.getD_eq_getElem?_getD, List.getElem?_eq_getElem hi]
    exact List.getElem_mem hi
  have hj : j < 64 := by
    have := (List.getElem?_eq_some_iff.1 hv).1
    rw [cellsS_len, h64 _ hmem] at this
    exact this
  rcases h.2 with ⟨h0, _⟩ | ⟨g', cap', cur, h0, _, hgg, _, _, hsz, ht⟩
  · cases h0
  · injection h0 with h0 _ _
    injection h0 with h0
    injection h0 with h0 _ _
    subst h0
    rw [cell_blk hgg]
    have e := flat_at ss h64 i j hi hj
    rw [← ht, List.getElem?_take_of_lt (by omega), hv] at e
    simpa using e
/-- The slice of sectors that are there. -/
theorem OwnS.some {w : World} {B : Nat} {v : Value} {ss : List Sec} (h : OwnS w B v ss) (hne : ss ≠ []) : ∃ g cap, v = .slice (some ⟨g, 0, none⟩) ss.length cap := by
  rcases h.2 with ⟨_, h0⟩ | ⟨g, cap, cur, h0, _⟩
  · exact absurd (List.eq_nil_of_length_eq_zero h0) hne
  · exact ⟨g, cap, h0⟩

theorem run_clear {w : World} {m k : Nat} {D : DataW Unit} (h : w.ownsMap Tryz.prog 3 rowRef m k D) : ∃ w', (∀ ty, (Builtin.clear_ #[92] ty #[.map (some m)]).run Tryz.prog w = .ok (.tuple #[]) w') ∧ w'.ownsMap Tryz.prog 3 rowRef m 0 (.map []) ∧ Keeps (fun b => b = m) w w' := by
  obtain ⟨es, clock, hb, _⟩ := h
  refine ⟨{ w with heap := w.heap.setIfInBounds m (.map #[] clock) }, fun ty => ?_, ⟨#[], clock, (MapKept.heap_set hb).1, ⟨by simp, MapKept.stamped_empty clock, by simp⟩, Nat.le_refl _, rfl⟩, ⟨rfl, rfl, rfl, ?_, fun b hbl hbm => (MapKept.heap_set hb).2 b hbm⟩⟩
  · simp [Builtin.clear_, run_underlying Tryz.uWrites, MapKept.run_getObj_map hb, MapKept.run_setObj_map _ hb, Result.andThen]
  · simp

theorem settledN_step {wr : Int → List Sec} {ks : List Int} {safe : Nat → Sec} {t x : Nat} (ht : t < ks.length) (hx : ks.getD t 0 = (x : Int)) {L : Nat} (hL : (wr x).length = L + 1) :
    settledN wr (ks.take (t + 1)) safe = fun j => if j = x then (wr x).getD L [] else settledN wr (ks.take t) safe j := by
  have hx' : ks[t]? = some (x : Int) := by
    rw [List.getD_eq_getElem?_getD, List.getElem?_eq_getElem ht] at hx
    rw [List.getElem?_eq_getElem ht]
    exact congrArg some hx
  funext j
  unfold settledN
  rw [List.take_add_one, hx']
  simp only [Option.toList_some, List.mem_append, List.mem_singleton]
  by_cases e : j = x
  · subst e
    rw [if_pos (.inr rfl), if_pos rfl]
    rw [List.getLastD_eq_getLast?, List.getLast?_eq_getElem?, hL, List.getD_eq_getElem?_getD]
    rw [show L + 1 - 1 = L by omega, List.getElem?_eq_getElem (by omega)]
    rfl
  · rw [if_neg e]
    by_cases h : (j : Int) ∈ ks.take t
    · rw [if_pos (.inl h), if_pos h]
    · rw [if_neg (by rintro (h' | h'); exact h h'; omega), if_neg h]
theorem settledN_all {wr : Int → List Sec} {ks : List Int} {safe : Nat → Sec} (h : ∀ x, x ∈ ks ↔ wr x ≠ []) : settledN wr ks safe = flushed wr safe := by
  funext j
  unfold settledN flushed
  by_cases e : (j : Int) ∈ ks
  · rw [if_pos e]
  · rw [if_neg e]
    have : wr (j : Int) = [] := Classical.byContradiction fun h' => e ((h _).2 h')
    rw [this]
    rfl

/-- Behind the clear. -/
theorem Pend.cleared {W0 w w9 : World} {d sf m sp n lim : Nat} {safe : Nat → Sec} {wr : Int → List Sec} {bad : Int → Bool} (h : Pend W0 d sf m sp n lim safe wr bad w) (hm : w9.ownsMap Tryz.prog 3 rowRef m 0 (.map [])) (K : Keeps (fun b => b = m) w w9) :
    Calm w9 d sf m sp n lim safe bad ∧ Keeps (drvF d sf m sp) W0 w9 := by
  obtain ⟨⟨left, b⟩, ⟨cs, b1, hc1⟩, s64, _, _, _, _, ⟨k2, D2, hsm, hk2, hD2, hb2⟩, n1, n2, n3, n4, n5, n6, l1, l2, l3, l4, kp, nn, ll⟩ := h
  exact ⟨⟨⟨left, K.blk b n2⟩, ⟨cs, K.blk b1 n4, hc1⟩, s64, ⟨0, hm, Nat.zero_le _⟩, ⟨k2, D2, ownsMap_keep hsm K (fun e => n6 e.symm), hk2, hD2, hb2⟩, n1, n2, n3, n4, n5, n6, nn, ll⟩,
    kp.trans K (fun b hb => .inl (.inr (.inr (.inl hb))))⟩

theorem Pend.left_set {W0 w : World} {d sf m sp n lim : Nat} {safe : Nat → Sec} {wr : Int → List Sec} {bad : Int → Bool} (h : Pend W0 d sf m sp n lim safe wr bad w) (u : Int) : Pend W0 d sf m sp n lim safe wr bad (w.setCell ⟨d, 4, none⟩ (num u)) := by
  obtain ⟨⟨left, b⟩, ⟨cs, b1, hc1⟩, s64, ⟨k, D, V, hm, hk, hD, hr⟩, w64, wlen, wn, ⟨k2, D2, hsm, hk2, hD2, hb2⟩, n1, n2, n3, n4, n5, n6, l1, l2, l3, l4, kp, nn, ll⟩ := h
  have K := (Keeps.refl (fun b => b = d) w).set (p := ⟨d, 4, none⟩) (.inl rfl) (num u)
  exact ⟨⟨u, set_blk b 4 (num u)⟩, ⟨cs, K.blk b1 (fun e => n1 e.symm), hc1⟩, s64, ⟨k, D, V, ownsMap_keep hm K (fun e => n2 e.symm), hk, hD, hr.keep K (fun g hg (e : g = d) => by omega)⟩, w64, wlen, wn, ⟨k2, D2, ownsMap_keep hsm K (fun e => n3 e.symm), hk2, hD2, hb2⟩, n1, n2, n3, n4, n5, n6, l1, l2, l3, l4, kp.trans K (fun b hb => .inl (.inl hb)), nn, ll⟩

section
variable {W0 w : World} {d sf m sp n lim : Nat} {safe : Nat → Sec} {wl : Int → List Sec} {bad : Int → Bool} (h : Pend W0 d sf m sp n lim safe wl bad w)
include h
def SetRel (W0 w2 : World) (d sf m sp n lim : Nat) (safe : Nat → Sec) (wl : Int → List Sec) (bad : Int → Bool) (ks : List Int) (i : Value) (wx : World) : Prop :=
  ∃ t : Nat, t ≤ ks.length ∧ i = num t ∧ Pend W0 d sf m sp n lim (settledN wl (ks.take t) safe) wl bad wx ∧ Keeps (fun b => b = sf) w2 wx
set_option maxRecDepth 100000 in
theorem settle_walk : Calls Tryz.prog 92 #[ptr d, .func (.func 93) #[] #[]] w fun e w' => e = .returned (.tuple #[]) ∧ Calm w' d sf m sp n lim (flushed wl safe) bad ∧ Keeps (drvF d sf m sp) W0 w' := by
  obtain ⟨left, hblk⟩ := h.blk
  obtain ⟨k, D, V, hm, hk, hD, hr⟩ := h.wm
  have c1 : w.cell? ⟨d, 1, none⟩ = some (.map (some m)) := by rw [cell_blk hblk]; rfl
  have HM := Lib.hid (fun x => mem_keys hm x)
  have HH := Lib.hid (fun x => hr.has x)
  have e1 := (Ext.refl w).alloc (.cells #[.map (some m)] 92)
  have HS := Lib.hid (sorted_walk w.heap.size m k D rowRef (w.alloc (.cells #[.map (some m)] 92)) (by rw [cell_blk (alloc_new w _)]; rfl) (ownsMap_keep hm e1.to_keeps (fun h => h)) (by have := hm.size_le; have := h.ll; omega))
  have HK := Lib.hid (keys_walk (some m) w)
  have HP := Lib.hid h
  have HE := Lib.hid e1
  have HL := Lib.hid (show k ≤ 100000 from Nat.le_trans hk h.ll)
  have HZ := Lib.hid (hm.size_le)
  clear h hm hk hD hr hblk e1
  go_enter Tryz.func92, Tryz.ntmps92
  go_wp2_with fail
  refine HK.out.mono ?_
  rintro e w1 ⟨rfl, rfl⟩
  go_wp2_with fail
  refine HS.out.mono ?_
  rintro e w2 ⟨v, ss, rfl, hperm, hown, hext⟩
  obtain ⟨ks, hks⟩ : ∃ ks, ss.mergeSort (fun x y => decide (x ≤ y)) = ks := ⟨_, rfl⟩
  rw [hks] at hown
  have HIN : ∀ x, x ∈ ks ↔ wl x ≠ [] := by
    intro x
    rw [← hks, (List.mergeSort_perm ss _).mem_iff, hperm.mem_iff, HM.out x, HH.out x]
    simp
  have hkl : (ks.length : Int) ≤ 100000 := by
    have h1 : (intKeys D).length = Maps.size D := by cases D <;> simp [intKeys, Maps.size]
    have h2 := HZ.out
    have h3 := HL.out
    have h4 := hperm.length_eq
    rw [← hks, List.length_mergeSort]
    omega
  have hp2 := (HP.out).ext (HE.out.trans hext)
  have hlt2 : ∀ g, v.ownBlock = some g → ¬ g = sf := fun g hg e => by
    have := (hown.lt hg).1
    have h2 := HP.out.l2
    have h3 := HP.out.keeps.size
    have h4 := HE.out.size
    omega
  have HIN' := Lib.hid HIN
  clear HK HS HP HE HL HZ HM HH hperm hext hks HIN
  have HO := Lib.hid hown
  obtain ⟨A, cap, rfl, hcap, hcells⟩ := hown.shape
  have hcap' := Lib.hid hcap
  have HP2 := Lib.hid hp2
  clear hcap hcells hown hp2 c1
  go_wp2_with fail
  go_loopw [15] (fun i wx => SetRel W0 w2 d sf m sp n lim safe wl bad ks i wx) (fun i _ => ks.length - (intOf i).toNat)
  case atStart => exact ⟨0, Nat.zero_le _, rfl, HP2.out, Keeps.refl _ _⟩
  case round =>
    obtain ⟨t, ht, rfl, hp, hkp⟩ := hrel
    clear HP2
    by_cases hlt : t < ks.length
    · have hown := HO.out.keep hkp (fun g hg => hlt2 g hg)
      obtain ⟨A', cap', hv', _, hcells⟩ := hown.shape
      injection hv' with e1 _ e2
      subst e1 e2
      obtain ⟨g, hA, hc⟩ := hcells t hlt
      subst hA
      have hxm : ks.getD t 0 ∈ ks := by
        rw [List.getD_eq_getElem?_getD, List.getElem?_eq_getElem hlt]
        exact List.getElem_mem hlt
      have hxne := (HIN'.out _).1 hxm
      have hxr := hp.wn _ hxne
      obtain ⟨x, hx⟩ : ∃ x : Nat, ks.getD t 0 = (x : Int) := ⟨(ks.getD t 0).toNat, by omega⟩
      have hx0 := hx
      rw [hx] at hc hxne hxr
      have hxn : x < n := by omega
      have hn4 := hp.nn.2
      obtain ⟨left, hblk⟩ := hp.blk
      obtain ⟨k, D, V, hm, hk, hD, hr⟩ := hp.wm
      have c0 : wr.cell? ⟨d, 0, none⟩ = some (.slice (some ⟨sf, 0, none⟩) n n) := by rw [cell_blk hblk]; rfl
      have c1 : wr.cell? ⟨d, 1, none⟩ = some (.map (some m)) := by rw [cell_blk hblk]; rfl
      have hl := rows_look hm hr (x : Int) (by omega) (by omega)
      obtain ⟨L, hL⟩ : ∃ L, (wl x).length = L + 1 := ⟨(wl x).length - 1, by have := List.length_pos_iff.2 hxne; omega⟩
      have hox := hr.own (x : Int)
      obtain ⟨g2, cap2, hV⟩ := hox.some hxne
      rw [hL] at hV
      rw [hV] at hl hox
      have hrg := hox.range (hp.w64 x) L (by omega)
      obtain ⟨s, hs⟩ : ∃ s, (wl x).getD L [] = s := ⟨_, rfl⟩
      have hstep := settledN_step (safe := safe) hlt hx0 hL
      rw [hs] at hrg hstep
      have hs64 : s.length = 64 := by
        rw [← hs, List.getD_eq_getElem?_getD, List.getElem?_eq_getElem (by omega)]
        exact hp.w64 x _ (List.getElem_mem (by omega))
      have hone := cellsS_one s
      have hlen : (cellsS s).length = 64 := by rw [cellsS_len]; exact hs64
      have hsz64 : (Tryz.prog.info? 100).map (·.size) = some (cellsS s).length := by rw [hlen]; exact Tryz.sSec
      have hth : wr.there sf (x * 64) (cellsS s).length := by
        obtain ⟨cs, hsf, hcs, _⟩ := hp.sec
        intro j hj
        rw [hlen] at hj
        refine ⟨?_, free_blk hsf _⟩
        rw [cell_blk hsf, Array.getElem?_eq_getElem (by omega)]
        rfl
      have HF := fun b => Lib.hid (flush1_walk t b wr)
      have HPN := Lib.hid ((hp.ext ((Ext.refl wr).drew)).safe_set x hxn s hs64)
      have HKN := Lib.hid (keeps_setCells (F := fun b => b = sf) (g := sf) rfl (cellsS s) (x * 64) wr.drew (hkp.drew))
      have HST := Lib.hid hstep
      have S0 : wr.drew.cell? ⟨d, 0, none⟩ = some (.slice (some ⟨sf, 0, none⟩) n n) ∧ wr.drew.rangeAt g2 (L * 64) (cellsS s) ∧ wr.drew.there sf (x * 64) (cellsS s).length := ⟨c0, hrg, hth⟩
      have hg2 : g2 ≠ sf := fun e => by have := (hox.lt (g := g2) rfl).1; have := hp.l2; omega
      have KS := keeps_setCells (F := fun b => b = sf) (g := sf) rfl (cellsS s) (x * 64) wr.drew (Keeps.refl _ wr.drew)
      have S9 : (wr.drew.setCells sf (x * 64) (cellsS s)).cell? ⟨d, 0, none⟩ = some (.slice (some ⟨sf, 0, none⟩) n n) ∧ (wr.drew.setCells sf (x * 64) (cellsS s)).rangeAt g2 (L * 64) (cellsS s) ∧ (wr.drew.setCells sf (x * 64) (cellsS s)).there sf (x * 64) (cellsS s).length :=
        ⟨by rw [cell_blk (KS.blk (drew_blk hblk) hp.ne1)]; rfl, World.rangeAt_setCells_apart S0.2.1 _ _ _ (.inl hg2), World.there_setCells S0.2.2 _ _ _⟩
      have HL := Lib.hid hL
      have hLb : (L : Int) + 1 ≤ 100000 := by have h1 := hp.wlen x; have h2 := hp.ll; omega
      have hLw : IntKind.i64.wrap (L : Int) = L := by rw [IntKind.wrap_i64]; omega
      have hL0 : (0 : Int) ≤ (L : Int) := by omega
      have hL1 : (L : Int) < (L : Int) + 1 := by omega
      clear KS hg2 hown hcells hxm hxne hxr hx hx0 hp hblk hm hk hD hr hox hV hs hstep hkp hlen HIN' hlt2 hL hs64
      go_wp2_with fail
      refine (HF _).out.mono ?_
      rintro e w' ⟨rfl, rfl⟩
      clear HF
      go_wp2_with fail
      have huS := Tryz.uSec
      clear hc hl hrg hth c1
      go_region_held3 (fun W => W.cell? ⟨d, 0, none⟩ = some (.slice (some ⟨sf, 0, none⟩) n n) ∧ W.rangeAt g2 (L * 64) (cellsS s) ∧ W.there sf (x * 64) (cellsS s).length) (first | assumption) (fail)
      clear S0 S9 c0 huS
      go_wp2_with fail
      go_roundw
      case rel =>
        have hp' := HPN.out
        rw [← HST.out] at hp'
        exact ⟨t + 1, by omega, by go_num, hp', HKN.out⟩
      case measure => simp [intOf]; omega
    · obtain rfl : t = ks.length := by omega
      obtain ⟨left, hblk⟩ := hp.blk
      obtain ⟨k, D, V, hm, hk, hD, hr⟩ := hp.wm
      have c1 : wr.cell? ⟨d, 1, none⟩ = some (.map (some m)) := by rw [cell_blk hblk]; rfl
      obtain ⟨w9, hcl, hm9, hk9⟩ := run_clear hm
      have HP := Lib.hid (hp.cleared hm9 hk9)
      have HI := Lib.hid (settledN_all (safe := safe) HIN'.out)
      clear hp hblk hm hk hD hr hm9 hk9 hkp HIN' hlt2 HO hcap'
      go_wp2_with fail
      go_end0
      have hf := HP.out
      rw [List.take_length, HI.out] at hf
      exact ⟨rfl, hf⟩

theorem flush_walk : Calls Tryz.prog 43 #[ptr d] w fun e w' => e = .returned (num 0) ∧ Calm w' d sf m sp n lim (flushed wl safe) bad ∧ Keeps (drvF d sf m sp) W0 w' := by
  obtain ⟨left, hblk⟩ := h.blk
  have c3 : w.cell? ⟨d, 3, none⟩ = some (.bool false) := by rw [cell_blk hblk]; rfl
  have c4 : w.cell? ⟨d, 4, none⟩ = some (num left) := by rw [cell_blk hblk]; rfl
  have f4 := free_blk hblk 4
  have HO := Lib.hid (off_walk h)
  have HS := fun u : Int => Lib.hid (settle_walk (h.left_set u))
  clear h hblk
  go_enter Tryz.func43, Tryz.ntmps43
  go_wp2_with fail
  refine HO.out.mono ?_
  rintro e w' ⟨rfl, rfl⟩
  clear HO
  go_wp2_with fail
  refine (HS _).out.mono ?_
  rintro e w2 ⟨rfl, hc⟩
  have HC := Lib.hid hc
  clear HS hc
  go_wp2_with fail
  go_ret
  exact ⟨rfl, HC.out⟩
end

end Go.Proofs.YtdilchcnfnfdiaaGreatDoor
