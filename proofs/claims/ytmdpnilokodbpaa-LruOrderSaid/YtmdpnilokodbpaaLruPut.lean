/- Layer 14's Put: the key that is wanted is laid at the front; without room the last key that is not pinned goes. -/
import Derived.Test.YtmdpnilokodbpaaLruOps
import Derived.BigQuiet
namespace Go.Proofs.Ytmdpnilokodbpaa
open Go.RowKit
open Go.ChangeMaps (setBlock)

theorem Try.uPtr : Try.prog.underlying 39 = some (.pointer 47) := by kernel_rfl
theorem Try.sNode : (Try.prog.info? 47).map (·.size) = some 4 := by kernel_rfl
theorem node_info : ∃ j, Try.prog.info? 47 = some j ∧ j.size ≠ 0 := by
  have := Try.sNode
  cases h : Try.prog.info? 47 with
  | none => rw [h] at this; cases this
  | some j => rw [h] at this; injection this with this; exact ⟨j, rfl, by dsimp only at this; omega⟩

theorem Lru.neq_head {w : World} {L room h m b : Nat} {bs : List Nat} {M : Nat → Nd} (l : Lru w L room h m bs M) (hb : b ∈ bs) (W : World) (hW : W.heap = w.heap) :
    (binOp .neq 39 (ptr b) (ptr h)).run Try.prog W = .ok (.bool true) W ∧ (binOp .eql 39 (ptr b) (ptr h)).run Try.prog W = .ok (.bool false) W := by
  obtain ⟨j, hj, hs⟩ := node_info
  have hne : b ≠ h := by
    rintro rfl
    exact (List.nodup_cons.1 l.ring.nodup).1 hb
  have h1 := l.ring.nodes b (by simp [hb])
  have h2 := l.ring.nodes h (by simp)
  rw [← hW] at h1 h2
  exact ⟨neq_other Try.uPtr hj hs hne h1 h2, eql_other Try.uPtr hj hs hne h1 h2⟩
theorem eq_head (h : Nat) (W : World) :
    (binOp .neq 39 (ptr h) (ptr h)).run Try.prog W = .ok (.bool false) W ∧ (binOp .eql 39 (ptr h) (ptr h)).run Try.prog W = .ok (.bool true) W := by
  obtain ⟨j, hj, hs⟩ := node_info
  exact ⟨neq_same Try.uPtr hj h, eql_same Try.uPtr hj h⟩

/-! ### a key that is laid at the front -/
abbrev fresh (k : Int) : Obj := .cells #[num k, num 0, .pointer none, .pointer none] 47

def LaidPost (w : World) (L room h m n : Nat) (k : Int) (bs : List Nat) (M : Nat → Nd) (e : Ending) (w2 : World) : Prop :=
  e = .returned (.tuple #[]) ∧ w2.cell? ⟨L, 2, none⟩ = some (.map (some m)) ∧
    ∃ o M', (Instr.mapUpdate 43 (.map (some m)) (num k) (ptr n)).run Try.prog w2 = .ok () (setBlock w2 m o) ∧
      Lru (setBlock w2 m o) L room h m (n :: bs) M' ∧ stOf (n :: bs) M' = (k, 0) :: stOf bs M ∧ Keeps (· ∈ foot L h m bs) w (setBlock w2 m o)

theorem laid_front {w : World} {L room h m : Nat} {bs : List Nat} {M : Nat → Nd} (l : Lru w L room h m bs M) (k : Int) (hk : ∀ b ∈ bs, (M b).key ≠ k) (hlen : bs.length < room) :
    Calls Try.prog 18 #[ptr w.heap.size, ptr h] (w.alloc (fresh k)) fun e w2 => LaidPost w L room h m w.heap.size k bs M e w2 := by
  have la := l.alloc (fresh k)
  have hnf : w.heap.size ∉ foot L h m bs := foot_lt l (Nat.le_refl _)
  have hn : w.heap.size ∉ h :: bs := fun hh => hnf (by unfold foot; exact List.mem_cons_of_mem _ (List.mem_cons_of_mem _ hh))
  have hagree : ∀ b ∈ h :: bs, upd M w.heap.size ⟨k, 0, 0, 0⟩ b = M b := fun b hb => by
    unfold upd
    rw [if_neg (by rintro rfl; exact hn hb)]
  have hnew : upd M w.heap.size ⟨k, 0, 0, 0⟩ w.heap.size = ⟨k, 0, 0, 0⟩ := by simp [upd]
  have r : RingAt (w.alloc (fresh k)) h bs (upd M w.heap.size ⟨k, 0, 0, 0⟩) := by
    refine ⟨fun b hb => by rw [hagree b hb]; exact la.ring.nodes b hb, links_congr _ (fun b hb => ?_) (fun b hb => ?_) la.ring.links, la.ring.nodup⟩
    · rw [List.cons_append, ← List.cons_append, List.dropLast_concat] at hb
      rw [hagree b hb]
    · rw [List.cons_append, List.tail_cons] at hb
      rw [hagree b (by simp only [List.mem_append, List.mem_cons, List.not_mem_nil, or_false] at hb ⊢; rcases hb with hb | hb <;> simp [hb])]
  refine (behind_ring r hn (va := .pointer none) (vb := .pointer none) (by rw [hnew]; exact alloc_new w _)).mono ?_
  rintro e w2 ⟨rfl, r2, k2, s2⟩
  have hLn : ¬ L ∈ w.heap.size :: h :: bs := by
    rintro hh
    rcases List.mem_cons.1 hh with hh | hh
    · have := l.L_lt; omega
    · exact l.L_ne L hh rfl
  obtain ⟨kvs, hm, hp⟩ := l.map
  have hml := hm.lt
  have hmn : ¬ m ∈ w.heap.size :: h :: bs := by
    rintro hh
    rcases List.mem_cons.1 hh with hh | hh
    · omega
    · exact l.m_ne m hh rfl
  have kp0 : Keeps (· ∈ w.heap.size :: h :: bs) w w2 := ((Keeps.refl _ w).alloc (fresh k)).trans k2 (fun i hi => .inl hi)
  have kp : Keeps (· ∈ foot L h m bs) w w2 := kp0.mono (fun i hi => by
    rcases List.mem_cons.1 hi with rfl | hi
    · exact .inr (Nat.le_refl _)
    · exact .inl (by unfold foot; exact List.mem_cons_of_mem _ (List.mem_cons_of_mem _ hi)))
  have hL2 := kp0.blk l.lst hLn
  obtain ⟨o, ho⟩ := hm.add Try.uMap Try.uInt (kvs_miss hp hk) w.heap.size
  obtain ⟨ho1, ho2⟩ := ho w2 (kp0.block m hml hmn)
  refine ⟨rfl, by rw [cell_blk hL2]; rfl, o, behindM (upd M w.heap.size ⟨k, 0, 0, 0⟩) w.heap.size h, ho1, ⟨?_, ⟨_, ho2, ?_⟩, ⟨fun b hb => ?_, r2.links, r2.nodup⟩, ?_, ?_⟩, ?_, kp.setBlock (.inl (by simp [foot])) o⟩
  · rw [heap_setBlock_far o l.Lm]; exact hL2
  · simp only [behindM_key, List.map_cons, hnew]
    refine (List.perm_append_comm).trans ?_
    refine List.Perm.cons _ ?_
    rw [List.map_congr_left (g := fun b => ((M b).key, b)) (fun b hb => by rw [hagree b (by simp [hb])])]
    exact hp
  · rw [heap_setBlock_far o]
    · exact r2.nodes b hb
    · rintro rfl
      apply hmn
      simp only [List.mem_cons] at hb ⊢
      rcases hb with hb | hb | hb <;> simp [hb]
  · simp only [behindM_key, List.map_cons, hnew]
    rw [List.map_congr_left (g := fun b => (M b).key) (fun b hb => by rw [hagree b (by simp [hb])]), List.nodup_cons]
    refine ⟨fun hh => ?_, l.keys⟩
    obtain ⟨b, hb, e⟩ := List.mem_map.1 hh
    exact hk b hb e
  · rw [List.length_cons]; omega
  · rw [stOf_cons]
    simp only [behindM_key, behindM_pins, hnew]
    rw [stOf_congr (M := M) (fun b hb => ⟨by rw [behindM_key, hagree b (by simp [hb])], by rw [behindM_pins, hagree b (by simp [hb])]⟩)]

theorem Lru.lens {w : World} {L room h m : Nat} {bs : List Nat} {M : Nat → Nd} (l : Lru w L room h m bs M) (ty : TypeId) (n : Nat) :
    (Builtin.len_ #[43] ty #[.map (some m)]).run Try.prog (w.drewN n) = .ok (num bs.length) (w.drewN n) := by
  obtain ⟨kvs, hm, hp⟩ := l.map
  have := (hm.of_heap (w' := w.drewN n) rfl).len Try.uMap ty
  rw [hp.length_eq, List.length_map] at this
  exact this

/-! ### Put -/
theorem put_hit {w : World} {L room : Nat} {st : List (Int × Int)} {F : List Nat} (s : LruSt w L room st F) (k : Int) (hh : hasK k st = true) :
    Calls Try.prog 9 #[ptr L, num k] w fun e w' => e = .returned (.tuple #[num 0, .bool false, num 0]) ∧ LruPost w w' L room (getSt k st) F := by
  have H := Lib.hid (get_st s k)
  clear s
  go_enter Try.func9, Try.ntmps9
  go_wp2_with fail
  refine H.out.mono ?_
  rintro e w' ⟨rfl, hp⟩
  rw [hh]
  go_wp2_with fail
  go_ret3
  exact ⟨rfl, hp⟩

theorem Lru.drewN {w : World} {L room h m : Nat} {bs : List Nat} {M : Nat → Nd} (l : Lru w L room h m bs M) (n : Nat) : Lru (w.drewN n) L room h m bs M :=
  l.keep (F := fun _ => False) ((Keeps.refl _ w).drewN n) (fun _ _ h => h)

set_option maxRecDepth 100000 in
theorem put_room {w : World} {L room h m : Nat} {bs : List Nat} {M : Nat → Nd} (l : Lru w L room h m bs M) (k : Int) (hk : ∀ b ∈ bs, (M b).key ≠ k) (hlen : bs.length < room) :
    Calls Try.prog 9 #[ptr L, num k] w fun e w' => e = .returned (.tuple #[num 0, .bool false, num 0]) ∧ LruPost w w' L room ((k, 0) :: stOf bs M) (foot L h m bs) := by
  have H := Lib.hid (get_walk_miss L m k w l.c2 (l.look_miss hk))
  have HL := Lib.hid (fun n => laid_front (l.drewN n) k hk hlen)
  have c0 := l.c0
  have c1 := l.c1
  have c2 := l.c2
  have hLl := l.L_lt
  have hl : ((bs.length : Int) == (room : Int)) = false := by simp; omega
  have hlens := fun ty n => l.lens ty n
  clear l hk
  go_enter Try.func9, Try.ntmps9
  go_wp2_with fail
  refine H.out.mono ?_
  rintro e w' ⟨rfl, rfl⟩
  go_wp2_with fail
  go_quiet (fail)
  have c1' : (w'.drewN nq).cell? ⟨L, 1, none⟩ = some (ptr h) := c1
  have hLl' : L < (w'.drewN nq).heap.size := hLl
  have HL' := Lib.hid (HL.out nq)
  have hK : Keeps (· ∈ foot L h m bs) w' (w'.drewN nq) := (Keeps.refl _ _).drewN nq
  clear hlens H HL c0 c1 c2 hLl hl hlen
  generalize w'.drewN nq = W at c1' hLl' HL' hK ⊢
  go_wp2_with fail
  refine HL'.out.mono ?_
  rintro e w2 ⟨rfl, c2', o, M', hmu, l2, est, k2⟩
  clear HL' c1' hLl'
  have L2 := Lib.hid l2
  have E2 := Lib.hid est
  clear l2 est
  go_wp2_with fail
  go_ret3
  refine ⟨rfl, _, ⟨h, m, _, M', L2.out, E2.out.symm, rfl⟩, ?_, hK.trans k2 (fun i hi => .inl hi)⟩
  intro b hb
  simp only [foot, List.mem_cons] at hb ⊢
  have := hK.size
  rcases hb with hb | hb | hb | hb | hb
  · simp [hb]
  · simp [hb]
  · simp [hb]
  · right; omega
  · simp [hb]

/-! ### Put where there is no room: from the tail on, the first one that is not pinned -/
def posOf (l : List Nat) (v : Value) : Nat := match v with | .pointer (some a) => l.idxOf a.block | _ => 0
/-- The node at hand: what stands behind it is pinned. -/
def AtTail (h : Nat) (bs : List Nat) (M : Nat → Nd) (v : Value) : Prop := ∃ s1 b s2, h :: bs = s1 ++ b :: s2 ∧ (∀ x ∈ s2, 0 < (M x).pins) ∧ v = ptr b

theorem links_last {M : Nat → Nd} {h : Nat} {bs : List Nat} (H : Links M (h :: bs ++ [h])) : ∃ s1, h :: bs = s1 ++ [(M h).prev] := by
  obtain ⟨L0, p, e⟩ := snoc_of h bs
  rw [e, List.append_assoc] at H
  rw [show L0 ++ ([p] ++ [h]) = L0 ++ p :: [h] from rfl, links_split] at H
  exact ⟨L0, by rw [H.2.2.1, e]⟩
theorem links_prev {M : Nat → Nd} {h b : Nat} {bs s1 s2 : List Nat} (H : Links M (h :: bs ++ [h])) (e : h :: bs = s1 ++ b :: s2) (hb : b ≠ h) : ∃ s, s1 = s ++ [(M b).prev] := by
  cases s1 with
  | nil => simp only [List.nil_append, List.cons.injEq] at e; exact absurd e.1.symm hb
  | cons a s =>
    obtain ⟨s', p, e'⟩ := snoc_of a s
    rw [e, e', List.append_assoc] at H
    rw [show s' ++ [p] ++ (b :: s2 ++ [h]) = s' ++ p :: b :: (s2 ++ [h]) by simp, links_split] at H
    exact ⟨s', by rw [H.2.2.1, e']⟩
theorem posOf_at {h b : Nat} {bs s1 s2 : List Nat} (nd : (h :: bs).Nodup) (e : h :: bs = s1 ++ b :: s2) : posOf (h :: bs) (ptr b) = s1.length := by
  have hb : b ∉ s1 := by
    rw [e, List.nodup_append] at nd
    exact fun hh => nd.2.2 b hh b (by simp) rfl
  show (h :: bs).idxOf b = _
  rw [e, List.idxOf_append, if_neg hb]
  simp

theorem goes_none {bs : List Nat} {M : Nat → Nd} (hp : ∀ x ∈ bs, 0 < (M x).pins) : goesK (stOf bs M) = none := by
  unfold goesK
  rw [List.find?_eq_none]
  intro x hx
  obtain ⟨b, hb, rfl⟩ := List.mem_map.1 (List.mem_reverse.1 hx)
  have := hp b hb
  simp
  omega
theorem goes_some {b : Nat} {l1 l2 : List Nat} {M : Nat → Nd} (hp : ∀ x ∈ l2, 0 < (M x).pins) (h0 : (M b).pins ≤ 0) : goesK (stOf (l1 ++ b :: l2) M) = some ((M b).key, (M b).pins) := by
  unfold goesK
  rw [stOf_append, stOf_cons, List.reverse_append, List.reverse_cons, List.append_assoc, List.find?_append]
  have : (stOf l2 M).reverse.find? (fun x => decide (x.2 ≤ 0)) = none := by
    have := goes_none hp
    unfold goesK at this
    exact this
  rw [this]
  simp [h0]

/-- What is left when the node b has gone. -/
theorem after_drop {w : World} {L room h m b : Nat} {l1 l2 : List Nat} {M : Nat → Nd} {k : Int} (l : Lru w L room h m (l1 ++ b :: l2) M) (hp : (M b).pins ≤ 0) (hk : ∀ c ∈ l1 ++ b :: l2, (M c).key ≠ k) (hlen : (l1 ++ b :: l2).length ≤ room) :
    ∀ (bs' : List Nat) (M' : Nat → Nd), dropSt (M b).key (stOf (l1 ++ b :: l2) M) = stOf bs' M' → (∀ c ∈ bs', (M' c).key ≠ k) ∧ bs'.length < room ∧ stOf bs' M' = rmK (M b).key (stOf (l1 ++ b :: l2) M) := by
  intro bs' M' e
  obtain ⟨e1, e2, e3⟩ := hit_of l
  rw [dropSt, e1, e2, if_pos (by simpa using hp)] at e
  refine ⟨fun c hc => ?_, ?_, e.symm⟩
  · have hm : ((M' c).key, (M' c).pins) ∈ stOf (l1 ++ l2) M := by
      rw [← e3, e]
      exact List.mem_map_of_mem (f := fun b => ((M' b).key, (M' b).pins)) hc
    obtain ⟨d, hd, ed⟩ := List.mem_map.1 hm
    injection ed with ed _
    rw [← ed]
    exact hk d (by rcases List.mem_append.1 hd with hd | hd <;> simp [hd])
  · have hl := congrArg List.length e
    rw [e3] at hl
    simp only [stOf, List.length_map, List.length_append, List.length_cons] at hl hlen ⊢
    omega

def FullPost (w : World) (L room : Nat) (k : Int) (st : List (Int × Int)) (F : List Nat) (e : Ending) (w' : World) : Prop :=
  match goesK st with
  | none => e = .returned (.tuple #[num 0, .bool false, num 130]) ∧ LruPost w w' L room st F
  | some g => e = .returned (.tuple #[num g.1, .bool true, num 0]) ∧ LruPost w w' L room ((k, 0) :: rmK g.1 st) F

set_option maxRecDepth 100000 in
theorem put_full {w : World} {L room h m : Nat} {bs : List Nat} {M : Nat → Nd} (l : Lru w L room h m bs M) (k : Int) (hk : ∀ b ∈ bs, (M b).key ≠ k) (hlen : bs.length = room) :
    Calls Try.prog 9 #[ptr L, num k] w fun e w' => FullPost w L room k (stOf bs M) (foot L h m bs) e w' := by
  have H := Lib.hid (get_walk_miss L m k w l.c2 (l.look_miss hk))
  have HL := Lib.hid (fun n => l.drewN n)
  have c0 := l.c0
  have c1 := l.c1
  have c2 := l.c2
  have hLl := l.L_lt
  have hl : ((bs.length : Int) == (room : Int)) = true := by simp; omega
  have hlens := fun ty n => l.lens ty n
  clear l
  have HK := Lib.hid hk
  have HN := Lib.hid hlen
  clear hk hlen
  go_enter Try.func9, Try.ntmps9
  go_wp2_with fail
  refine H.out.mono ?_
  rintro e w' ⟨rfl, rfl⟩
  go_wp2_with fail
  go_quiet (fail)
  have l' := HL.out nq
  have hK : Keeps (· ∈ foot L h m bs) w' (w'.drewN nq) := (Keeps.refl _ _).drewN nq
  clear hlens H HL c0 c1 c2 hLl hl
  generalize w'.drewN nq = W at l' hK ⊢
  have c1 := l'.c1
  have hprev := node_prev (l'.ring.nodes h (by simp))
  have HL := Lib.hid l'
  clear l'
  go_wp2_with fail
  go_loop [7] (fun t => AtTail h bs M t) (fun t => posOf (h :: bs) t)
  case atStart =>
    obtain ⟨s1, e⟩ := links_last HL.out.ring.links
    exact ⟨s1, _, [], e, by simp, rfl⟩
  case round =>
    obtain ⟨s1, b, s2, e, hp, rfl⟩ := hrel
    have nd := HL.out.ring.nodup
    by_cases hb : b = h
    · subst hb
      have es : s1 = [] := by
        cases s1 with
        | nil => rfl
        | cons a s =>
          simp only [List.cons_append, List.cons.injEq] at e
          rw [e.2, List.nodup_cons] at nd
          exact absurd (e.1 ▸ (by simp)) nd.1
      have hall : ∀ x ∈ bs, 0 < (M x).pins := by
        subst es
        simp only [List.nil_append, List.cons.injEq] at e
        rw [e.2]
        exact hp
      obtain ⟨q1, q2⟩ := eq_head b W
      have Hall := Lib.hid hall
      clear hall e hp nd es
      go_wp2
      go_ret3
      unfold FullPost
      rw [goes_none Hall.out]
      exact ⟨rfl, _, HL.out.st, fun _ hb => .inl hb, hK⟩
    · obtain ⟨s, es⟩ := links_prev HL.out.ring.links e hb
      have hmem : b ∈ bs := by
        have : b ∈ h :: bs := by rw [e]; simp
        simpa [hb] using this
      obtain ⟨q1, q2⟩ := HL.out.neq_head hmem W rfl
      have cb := HL.out.ring.nodes b (by simp [hmem])
      have p1 := node_pins cb
      have p2 := node_prev cb
      have E := Lib.hid e
      have ES := Lib.hid es
      have HP := Lib.hid hp
      have NB := Lib.hid hb
      clear e es hp cb hb hmem
      by_cases h0 : 0 < (M b).pins
      · go_wp2
        go_round
        case rel =>
          refine ⟨s, (M b).prev, b :: s2, by rw [E.out, ES.out]; simp, fun x hx => ?_, rfl⟩
          rcases List.mem_cons.1 hx with rfl | hx
          · exact h0
          · exact HP.out x hx
        case measure =>
          show posOf (h :: bs) (ptr (M b).prev) < posOf (h :: bs) (ptr b)
          rw [posOf_at nd E.out, posOf_at (s1 := s) (s2 := b :: s2) nd (by rw [E.out, ES.out]; simp), ES.out]
          simp
      · have hmem : b ∈ h :: bs := by rw [E.out]; simp
        have hkey := node_key (HL.out.ring.nodes b hmem)
        obtain ⟨l1, hl1⟩ : ∃ l1, bs = l1 ++ b :: s2 := by
          have e := E.out
          cases s1 with
          | nil => simp only [List.nil_append, List.cons.injEq] at e; exact absurd e.1.symm NB.out
          | cons a s' => simp only [List.cons_append, List.cons.injEq] at e; exact ⟨s', e.2⟩
        subst hl1
        have D := Lib.hid (drop_st HL.out.st (M b).key)
        have after := after_drop HL.out (by omega) HK.out (by rw [HN.out]; exact Nat.le_refl _)
        have AF := Lib.hid after
        have GS := Lib.hid (goes_some (l1 := l1) HP.out (by omega : (M b).pins ≤ 0))
        clear after
        go_wp2_with fail
        refine D.out.mono ?_
        rintro e w1 ⟨v, rfl, hv, F', ⟨h', m', bs', M', l', e1, rfl⟩, hF', k1⟩
        clear hv D q1 q2 p1 p2 hkey c1 hprev hmem nd
        obtain ⟨a1, a2, a3⟩ := AF.out bs' M' e1
        have c1' := l'.c1
        have hLl' := l'.L_lt
        have HL' := Lib.hid (laid_front l' k a1 a2)
        have K1 := Lib.hid (hK.trans k1 (fun i hi => .inl hi))
        have HF := Lib.hid hF'
        have A3 := Lib.hid a3
        have SZ := Lib.hid hK.size
        clear a1 a2 a3 l' AF E ES HP NB HK HN hF' e1 hK k1
        go_wp2_with fail
        refine HL'.out.mono ?_
        rintro e w2 ⟨rfl, c2', o, M2, hmu, l2, est, k2⟩
        clear HL' c1' hLl'
        have L2 := Lib.hid l2
        have E2 := Lib.hid est
        have K2 := Lib.hid k2
        clear l2 est k2
        go_wp2_with fail
        go_ret3
        unfold FullPost
        rw [GS.out]
        refine ⟨rfl, _, ⟨h', m', _, M2, L2.out, by rw [E2.out, A3.out], rfl⟩, ?_, K1.out.trans K2.out (fun i hi => ?_)⟩
        · intro c hc
          simp only [foot, List.mem_cons] at hc
          have hcase : c = w1.heap.size ∨ c ∈ foot L h' m' bs' := by
            simp only [foot, List.mem_cons]
            rcases hc with hc | hc | hc | hc | hc <;> simp [hc]
          rcases hcase with rfl | hc
          · right
            exact K1.out.size
          · rcases HF.out c hc with hc | hc
            · exact .inl hc
            · right
              have := SZ.out
              omega
        · rcases HF.out i hi with hc | hc
          · exact .inl hc
          · right
            have := SZ.out
            omega

end Go.Proofs.Ytmdpnilokodbpaa
