/- What a list of layer 14 is in memory, and what it is in plain Lean; no walk. -/
import Derived.Test.YtdilchcnfnfdiaaGreatDoorRing
import Derived.Test.YtdilchcnfnfdiaaGreatDoorMapInt
namespace Go.Proofs.YtdilchcnfnfdiaaGreatDoor

def TN : TypeId := 113
def TL : TypeId := 111
def nodeCells (d : Nd) : Array Value := #[num d.key, num d.pins, ptr d.prev, ptr d.next]

/-- The ring: its nodes, one block each. -/
structure RingAt (w : World) (h : Nat) (bs : List Nat) (M : Nat → Nd) : Prop where
  nodes : ∀ b ∈ h :: bs, w.heap[b]? = some (.cells (nodeCells (M b)) TN (0, 0))
  links : Links M (h :: bs ++ [h])
  nodup : (h :: bs).Nodup

theorem nodes_next {w : World} {M : Nat → Nd} {p : Nat} {c : Nat} (h : w.heap[c]? = some (.cells (nodeCells (M c)) TN (0, 0))) (x : Nat) :
    (w.setCell ⟨p, 3, none⟩ (ptr x)).heap[c]? = some (.cells (nodeCells (setNext M p x c)) TN (0, 0)) := by
  by_cases e : c = p
  · subst e
    rw [set_blk h]
    simp [nodeCells, setNext, upd]
  · rw [set_far (by simpa using e), h]
    simp [setNext, upd, e]
theorem nodes_prev {w : World} {M : Nat → Nd} {p : Nat} {c : Nat} (h : w.heap[c]? = some (.cells (nodeCells (M c)) TN (0, 0))) (x : Nat) :
    (w.setCell ⟨p, 2, none⟩ (ptr x)).heap[c]? = some (.cells (nodeCells (setPrev M p x c)) TN (0, 0)) := by
  by_cases e : c = p
  · subst e
    rw [set_blk h]
    simp [nodeCells, setPrev, upd]
  · rw [set_far (by simpa using e), h]
    simp [setPrev, upd, e]
theorem nodes_pins {w : World} {M : Nat → Nd} {p : Nat} {c : Nat} (h : w.heap[c]? = some (.cells (nodeCells (M c)) TN (0, 0))) (v : Int) :
    (w.setCell ⟨p, 1, none⟩ (num v)).heap[c]? = some (.cells (nodeCells (setPins M p v c)) TN (0, 0)) := by
  by_cases e : c = p
  · subst e
    rw [set_blk h]
    simp [nodeCells, setPins, upd]
  · rw [set_far (by simpa using e), h]
    simp [setPins, upd, e]

theorem RingAt.keep {w w' : World} {h : Nat} {bs : List Nat} {M : Nat → Nd} (r : RingAt w h bs M) {F : Nat → Prop} (k : Keeps F w w') (hF : ∀ b ∈ h :: bs, ¬ F b) : RingAt w' h bs M :=
  ⟨fun b hb => k.blk (r.nodes b hb) (hF b hb), r.links, r.nodup⟩

section
variable {w : World} {b : Nat} {d : Nd} (h : w.heap[b]? = some (.cells (nodeCells d) TN (0, 0)))
include h
theorem node_key : w.cell? ⟨b, 0, none⟩ = some (num d.key) := by rw [cell_blk h]; rfl
theorem node_pins : w.cell? ⟨b, 1, none⟩ = some (num d.pins) := by rw [cell_blk h]; rfl
theorem node_prev : w.cell? ⟨b, 2, none⟩ = some (ptr d.prev) := by rw [cell_blk h]; rfl
theorem node_next : w.cell? ⟨b, 3, none⟩ = some (ptr d.next) := by rw [cell_blk h]; rfl
end

structure Lru (w : World) (L room h m : Nat) (bs : List Nat) (M : Nat → Nd) : Prop where
  lst : w.heap[L]? = some (.cells #[num room, ptr h, .map (some m)] TL (0, 0))
  map : ∃ kvs, MapIs w m kvs ∧ kvs.Perm (bs.map fun b => ((M b).key, b))
  ring : RingAt w h bs M
  keys : (bs.map fun b => (M b).key).Nodup
  len : bs.length ≤ room

def foot (L h m : Nat) (bs : List Nat) : List Nat := L :: m :: h :: bs
def stOf (bs : List Nat) (M : Nat → Nd) : List (Int × Int) := bs.map fun b => ((M b).key, (M b).pins)

def LruSt (w : World) (L room : Nat) (st : List (Int × Int)) (F : List Nat) : Prop := ∃ h m bs M, Lru w L room h m bs M ∧ st = stOf bs M ∧ F = foot L h m bs
/-- What a method leaves: a list that holds st', whose blocks are its own of before, or new; nothing else has turned. -/
def LruPost (w w' : World) (L room : Nat) (st' : List (Int × Int)) (F : List Nat) : Prop :=
  ∃ F', LruSt w' L room st' F' ∧ (∀ b ∈ F', b ∈ F ∨ w.heap.size ≤ b) ∧ Keeps (· ∈ F) w w'

section
variable {w : World} {L room h m : Nat} {bs : List Nat} {M : Nat → Nd}

theorem Lru.L_ne (l : Lru w L room h m bs M) : ∀ b ∈ h :: bs, L ≠ b := by
  rintro b hb rfl
  have := l.ring.nodes L hb
  rw [l.lst] at this
  injection this with this
  injection this with _ ht
  exact absurd ht (by decide)
theorem Lru.m_ne (l : Lru w L room h m bs M) : ∀ b ∈ h :: bs, m ≠ b := by
  rintro b hb rfl
  obtain ⟨kvs, hm, _⟩ := l.map
  exact hm.ne_blk (l.ring.nodes m hb) rfl
theorem Lru.Lm (l : Lru w L room h m bs M) : L ≠ m := by
  obtain ⟨kvs, hm, _⟩ := l.map
  exact hm.ne_blk l.lst
theorem Lru.lt (l : Lru w L room h m bs M) : ∀ b ∈ foot L h m bs, b < w.heap.size := by
  intro b hb
  unfold foot at hb
  rcases List.mem_cons.1 hb with rfl | hb
  · exact block_lt l.lst
  · rcases List.mem_cons.1 hb with rfl | hb
    · obtain ⟨kvs, hm, _⟩ := l.map
      exact hm.lt
    · exact block_lt (l.ring.nodes b hb)
theorem Lru.keep {w' : World} (l : Lru w L room h m bs M) {F : Nat → Prop} (k : Keeps F w w') (hF : ∀ b ∈ foot L h m bs, ¬ F b) : Lru w' L room h m bs M := by
  obtain ⟨kvs, hm, hp⟩ := l.map
  refine ⟨k.blk l.lst (hF L (by simp [foot])), ⟨kvs, hm.of_heap (k.block m hm.lt (hF m (by simp [foot]))), hp⟩, l.ring.keep k (fun b hb => hF b ?_), l.keys, l.len⟩
  unfold foot
  exact List.mem_cons_of_mem _ (List.mem_cons_of_mem _ hb)

theorem keys_apart {l1 l2 : List Nat} {n : Nat} (hk : ((l1 ++ n :: l2).map fun b => (M b).key).Nodup) : (∀ b ∈ l1, (M b).key ≠ (M n).key) ∧ (∀ b ∈ l2, (M b).key ≠ (M n).key) := by
  rw [List.map_append, List.map_cons, List.nodup_append] at hk
  refine ⟨fun b hb => hk.2.2 _ (List.mem_map_of_mem (f := fun b => (M b).key) hb) _ (by simp), fun b hb e => ?_⟩
  have := (List.nodup_cons.1 hk.2.1).1
  exact this (e ▸ List.mem_map_of_mem (f := fun b => (M b).key) hb)

/-- A key of the map, split off. -/
theorem kvs_split {kvs : List (Int × Nat)} {l1 l2 : List Nat} {n : Nat} (hp : kvs.Perm ((l1 ++ n :: l2).map fun b => ((M b).key, b))) (hk : ((l1 ++ n :: l2).map fun b => (M b).key).Nodup) :
    ∃ k1 k2, kvs = k1 ++ ((M n).key, n) :: k2 ∧ (∀ x ∈ k1, x.1 ≠ (M n).key) ∧ (k1 ++ k2).Perm ((l1 ++ l2).map fun b => ((M b).key, b)) := by
  have hmem : ((M n).key, n) ∈ kvs := hp.mem_iff.2 (by simp)
  obtain ⟨k1, k2, rfl⟩ := List.append_of_mem hmem
  have hp2 : (k1 ++ k2).Perm ((l1 ++ l2).map fun b => ((M b).key, b)) := by
    have h1 : (((M n).key, n) :: (k1 ++ k2)).Perm (((M n).key, n) :: ((l1 ++ l2).map fun b => ((M b).key, b))) := by
      refine (List.perm_middle.symm.trans hp).trans ?_
      rw [List.map_append, List.map_cons, List.map_append]
      exact List.perm_middle
    exact h1.cons_inv
  obtain ⟨a1, a2⟩ := keys_apart hk
  refine ⟨k1, k2, rfl, fun x hx e => ?_, hp2⟩
  have : x ∈ (l1 ++ l2).map fun b => ((M b).key, b) := hp2.mem_iff.1 (by simp [hx])
  obtain ⟨b, hb, rfl⟩ := List.mem_map.1 this
  rcases List.mem_append.1 hb with hb | hb
  · exact a1 b hb e
  · exact a2 b hb e

theorem kvs_miss {kvs : List (Int × Nat)} {k : Int} (hp : kvs.Perm (bs.map fun b => ((M b).key, b))) (hk : ∀ b ∈ bs, (M b).key ≠ k) : ∀ x ∈ kvs, x.1 ≠ k := by
  intro x hx
  obtain ⟨b, hb, rfl⟩ := List.mem_map.1 (hp.mem_iff.1 hx)
  exact hk b hb
end

/-! ### in plain Lean -/
def hasK (k : Int) (st : List (Int × Int)) : Bool := st.any fun x => x.1 == k
def rmK (k : Int) (st : List (Int × Int)) : List (Int × Int) := st.filter fun x => x.1 != k
def pinsK (k : Int) (st : List (Int × Int)) : Int := ((st.find? fun x => x.1 == k).map (·.2)).getD 0
def getSt (k : Int) (st : List (Int × Int)) : List (Int × Int) := if hasK k st then (k, pinsK k st) :: rmK k st else st
def setK (k v : Int) (st : List (Int × Int)) : List (Int × Int) := st.map fun x => if x.1 == k then (k, v) else x
/-- The one that goes: the last one that is not pinned. -/
def goesK (st : List (Int × Int)) : Option (Int × Int) := st.reverse.find? fun x => decide (x.2 ≤ 0)

theorem hasK_false {k : Int} {bs : List Nat} {M : Nat → Nd} : hasK k (stOf bs M) = false ↔ ∀ b ∈ bs, (M b).key ≠ k := by simp [hasK, stOf]
theorem hasK_true {k : Int} {bs : List Nat} {M : Nat → Nd} : hasK k (stOf bs M) = true ↔ ∃ l1 n l2, bs = l1 ++ n :: l2 ∧ (M n).key = k := by
  simp only [hasK, stOf, List.any_map, List.any_eq_true, Function.comp, beq_iff_eq]
  constructor
  · rintro ⟨b, hb, e⟩
    obtain ⟨l1, l2, rfl⟩ := List.append_of_mem hb
    exact ⟨l1, b, l2, rfl, e⟩
  · rintro ⟨l1, n, l2, rfl, e⟩
    exact ⟨n, by simp, e⟩

theorem rmK_none {k : Int} {st : List (Int × Int)} (h : ∀ x ∈ st, x.1 ≠ k) : rmK k st = st := by
  unfold rmK
  exact List.filter_eq_self.2 (fun x hx => by simpa using h x hx)
theorem rmK_split {k p : Int} {s1 s2 : List (Int × Int)} (h1 : ∀ x ∈ s1, x.1 ≠ k) (h2 : ∀ x ∈ s2, x.1 ≠ k) : rmK k (s1 ++ (k, p) :: s2) = s1 ++ s2 := by
  unfold rmK
  rw [List.filter_append, List.filter_cons]
  simp only [bne_self_eq_false, Bool.false_eq_true, if_false]
  rw [List.filter_eq_self.2 (fun x hx => by simpa using h1 x hx), List.filter_eq_self.2 (fun x hx => by simpa using h2 x hx)]
theorem pinsK_split {k p : Int} {s1 s2 : List (Int × Int)} (h1 : ∀ x ∈ s1, x.1 ≠ k) : pinsK k (s1 ++ (k, p) :: s2) = p := by
  have : s1.find? (fun x => x.1 == k) = none := List.find?_eq_none.2 (fun x hx => by simpa using h1 x hx)
  simp [pinsK, this]
theorem setK_split {k p v : Int} {s1 s2 : List (Int × Int)} (h1 : ∀ x ∈ s1, x.1 ≠ k) (h2 : ∀ x ∈ s2, x.1 ≠ k) : setK k v (s1 ++ (k, p) :: s2) = s1 ++ (k, v) :: s2 := by
  have e1 : s1.map (fun x => if x.1 == k then (k, v) else x) = s1 := by
    conv => rhs; rw [← List.map_id s1]
    exact List.map_congr_left (fun x hx => by simp [h1 x hx])
  have e2 : s2.map (fun x => if x.1 == k then (k, v) else x) = s2 := by
    conv => rhs; rw [← List.map_id s2]
    exact List.map_congr_left (fun x hx => by simp [h2 x hx])
  unfold setK
  rw [List.map_append, List.map_cons, e1, e2]
  simp
theorem stOf_append (l1 l2 : List Nat) (M : Nat → Nd) : stOf (l1 ++ l2) M = stOf l1 M ++ stOf l2 M := List.map_append
theorem stOf_cons (n : Nat) (l2 : List Nat) (M : Nat → Nd) : stOf (n :: l2) M = ((M n).key, (M n).pins) :: stOf l2 M := rfl
theorem stOf_congr {l : List Nat} {M M' : Nat → Nd} (h : ∀ b ∈ l, (M' b).key = (M b).key ∧ (M' b).pins = (M b).pins) : stOf l M' = stOf l M :=
  List.map_congr_left (fun b hb => by rw [(h b hb).1, (h b hb).2])
theorem stOf_apart {l : List Nat} {M : Nat → Nd} {k : Int} (h : ∀ b ∈ l, (M b).key ≠ k) : ∀ x ∈ stOf l M, x.1 ≠ k := by
  intro x hx
  obtain ⟨b, hb, rfl⟩ := List.mem_map.1 hx
  exact h b hb
@[simp] theorem outM_key (M : Nat → Nd) (n b : Nat) : (outM M n b).key = (M b).key := by simp [outM]
@[simp] theorem outM_pins (M : Nat → Nd) (n b : Nat) : (outM M n b).pins = (M b).pins := by simp [outM]
@[simp] theorem behindM_key (M : Nat → Nd) (n h b : Nat) : (behindM M n h b).key = (M b).key := by simp [behindM]
@[simp] theorem behindM_pins (M : Nat → Nd) (n h b : Nat) : (behindM M n h b).pins = (M b).pins := by simp [behindM]

end Go.Proofs.YtdilchcnfnfdiaaGreatDoor
