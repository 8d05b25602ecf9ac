/- Layer 14's methods New, Get, Pin, Unpin, Pinned, Drop: what each answers and leaves, said of the list of its keys and pins. Layer 14's Put: the key that is wanted is laid at the front; without room the last key that is not pinned goes. Layer 14's Keys, and Put said in one piece. A list of layer 14 that a law made itself: each method once more, said from the law's own first world on; what 'shown' answers. -/
import Derived.Test.YtdilchcnfnfdiaaGreatDoorLruW
import Derived.BigQuiet
import Derived.Test.YtdilchcnfnfdiaaGreatDoorTBase
namespace Go.Proofs.YtdilchcnfnfdiaaGreatDoor
open Go.RowKit
open Go.ChangeMaps (setBlock)

section
variable {w : World} {L room h m n : Nat} {bs l1 l2 : List Nat} {M : Nat → Nd} {k : Int}

theorem Lru.look_hit (l : Lru w L room h m (l1 ++ n :: l2) M) (hk : (M n).key = k) :
    (Instr.lookup 109 (.map (some m)) (num k) true).run Tryz.prog w = .ok (.tuple #[ptr n, .bool true]) w := by
  subst hk
  obtain ⟨kvs, hm, hp⟩ := l.map
  obtain ⟨k1, k2, e, hk1, _⟩ := kvs_split hp l.keys
  exact hm.look_hit Tryz.uMap Tryz.uInt e hk1
theorem Lru.look_miss (l : Lru w L room h m bs M) (hk : ∀ b ∈ bs, (M b).key ≠ k) :
    (Instr.lookup 109 (.map (some m)) (num k) true).run Tryz.prog w = .ok (.tuple #[.pointer none, .bool false]) w := by
  obtain ⟨kvs, hm, hp⟩ := l.map
  exact hm.look_miss Tryz.uMap Tryz.uInt (Tryz.zNode w) (kvs_miss hp hk)
theorem Lru.c0 (l : Lru w L room h m bs M) : w.cell? ⟨L, 0, none⟩ = some (num room) := by rw [cell_blk l.lst]; rfl
theorem Lru.c1 (l : Lru w L room h m bs M) : w.cell? ⟨L, 1, none⟩ = some (ptr h) := by rw [cell_blk l.lst]; rfl
theorem Lru.c2 (l : Lru w L room h m bs M) : w.cell? ⟨L, 2, none⟩ = some (.map (some m)) := by rw [cell_blk l.lst]; rfl
theorem Lru.L_lt (l : Lru w L room h m bs M) : L < w.heap.size := block_lt l.lst
theorem Lru.alloc (l : Lru w L room h m bs M) (o : Obj) : Lru (w.alloc o) L room h m bs M := l.keep (F := fun _ => False) ((Keeps.refl _ w).alloc o) (fun _ _ h => h)
theorem foot_lt (l : Lru w L room h m bs M) {b : Nat} (hb : w.heap.size ≤ b) : b ∉ foot L h m bs := fun hh => by have := l.lt b hh; omega

/-- What a node's neighbours say: its key's pair in the list, split off. -/
theorem st_split (l : Lru w L room h m (l1 ++ n :: l2) M) : stOf (l1 ++ n :: l2) M = stOf l1 M ++ ((M n).key, (M n).pins) :: stOf l2 M ∧ (∀ x ∈ stOf l1 M, x.1 ≠ (M n).key) ∧ (∀ x ∈ stOf l2 M, x.1 ≠ (M n).key) := by
  obtain ⟨a1, a2⟩ := keys_apart l.keys
  exact ⟨by rw [stOf_append, stOf_cons], stOf_apart a1, stOf_apart a2⟩

theorem hit_of (l : Lru w L room h m (l1 ++ n :: l2) M) : hasK (M n).key (stOf (l1 ++ n :: l2) M) = true ∧ pinsK (M n).key (stOf (l1 ++ n :: l2) M) = (M n).pins ∧ rmK (M n).key (stOf (l1 ++ n :: l2) M) = stOf (l1 ++ l2) M := by
  obtain ⟨e, a1, a2⟩ := st_split l
  refine ⟨hasK_true.2 ⟨l1, n, l2, rfl, rfl⟩, ?_, ?_⟩
  · rw [e, pinsK_split a1]
  · rw [e, rmK_split a1 a2, stOf_append]
end

theorem lnew_walk (n : Int) (w : World) (h1 : 1 ≤ n) (h2 : n ≤ 64) :
    Calls Tryz.prog 18 #[num n] w fun e w' => e = .returned (ptr (w.heap.size + 1 + 1)) ∧
      w' = ((w.alloc (.cells #[num 0, num 0, ptr w.heap.size, ptr w.heap.size] 113)).alloc (.map #[] 0)).alloc (.cells #[num n, ptr w.heap.size, .map (some (w.heap.size + 1))] 111) := by
  have hmm := @run_makeMap Tryz.prog
  have d1 : decide (n < 1) = false := by simpa using h1
  have d2 : decide (64 < n) = false := by simpa using h2
  go_enter Tryz.func18, Tryz.ntmps18
  go_wp2_with (go_at_call 48; refine (ring_walk _).mono ?_; rintro e w1 ⟨rfl, rfl⟩)
  go_ret
  exact ⟨rfl, rfl⟩

def NewPost (w : World) (n : Nat) (e : Ending) (w' : World) : Prop :=
  ∃ L F, e = .returned (ptr L) ∧ LruSt w' L n [] F ∧ (∀ b ∈ F, w.heap.size ≤ b) ∧ Below w.heap.size w w'

theorem new_st (n : Nat) (w : World) (h1 : 1 ≤ n) (h2 : n ≤ 64) : Calls Tryz.prog 18 #[num n] w fun e w' => NewPost w n e w' := by
  refine (lnew_walk n w (by omega) (by omega)).mono ?_
  rintro e w' ⟨rfl, rfl⟩
  have hs := size_alloc
  have a0 := alloc_old (.cells #[num n, ptr w.heap.size, .map (some (w.heap.size + 1))] 111) (alloc_old (.map #[] 0) (alloc_new w (.cells #[num 0, num 0, ptr w.heap.size, ptr w.heap.size] 113)))
  have a1 := alloc_old (.cells #[num n, ptr w.heap.size, .map (some (w.heap.size + 1))] 111) (alloc_new (w.alloc (.cells #[num 0, num 0, ptr w.heap.size, ptr w.heap.size] 113)) (.map #[] 0))
  have a2 := alloc_new ((w.alloc (.cells #[num 0, num 0, ptr w.heap.size, ptr w.heap.size] 113)).alloc (.map #[] 0)) (.cells #[num n, ptr w.heap.size, .map (some (w.heap.size + 1))] 111)
  simp only [hs] at a1 a2
  refine ⟨w.heap.size + 1 + 1, _, rfl, ⟨w.heap.size, w.heap.size + 1, [], fun _ => ⟨0, 0, w.heap.size, w.heap.size⟩, ⟨a2, ⟨[], ⟨#[], 0, a1, rfl⟩, List.Perm.refl _⟩, ⟨?_, ?_, by simp⟩, by simp, by simp⟩, rfl, rfl⟩, ?_, ?_⟩
  · intro b hb
    simp only [List.mem_singleton] at hb
    subst hb
    exact a0
  · exact ⟨rfl, rfl, trivial⟩
  · intro b hb
    simp only [foot, List.mem_cons, List.not_mem_nil, or_false] at hb
    omega
  · exact (((Below.refl _ w).alloc (Nat.le_refl _) _).alloc (by simp [hs]) _).alloc (by simp [hs]; omega) _

theorem get_st {w : World} {L room : Nat} {st : List (Int × Int)} {F : List Nat} (s : LruSt w L room st F) (k : Int) :
    Calls Tryz.prog 21 #[ptr L, num k] w fun e w' => e = .returned (.bool (hasK k st)) ∧ LruPost w w' L room (getSt k st) F := by
  obtain ⟨h, m, bs, M, l, rfl, rfl⟩ := s
  cases hh : hasK k (stOf bs M) with
  | false =>
    refine (get_walk_miss L m k w l.c2 (l.look_miss (hasK_false.1 hh))).mono ?_
    rintro e w' ⟨rfl, rfl⟩
    refine ⟨rfl, _, ⟨h, m, bs, M, l, ?_, rfl⟩, fun b hb => .inl hb, Keeps.refl _ _⟩
    simp [getSt, hh]
  | true =>
    obtain ⟨l1, n, l2, rfl, rfl⟩ := hasK_true.1 hh
    refine (get_walk_hit _ w l (l.look_hit rfl)).mono ?_
    rintro e w' ⟨rfl, r, kp⟩
    obtain ⟨_, e2, e3⟩ := hit_of l
    have kp' : Keeps (· ∈ foot L h m (l1 ++ n :: l2)) w w' := kp.mono (fun i hi => .inl (by unfold foot; exact List.mem_cons_of_mem _ (List.mem_cons_of_mem _ hi)))
    have hpm : (n :: (l1 ++ l2)).Perm (l1 ++ n :: l2) := List.perm_middle.symm
    refine ⟨rfl, foot L h m (n :: (l1 ++ l2)), ⟨h, m, n :: (l1 ++ l2), behindM (outM M n) n h, ⟨kp.blk l.lst (fun hi => l.L_ne L hi rfl), ?_, r, ?_, ?_⟩, ?_, rfl⟩, ?_, kp'⟩
    · obtain ⟨kvs, hm, hp⟩ := l.map
      refine ⟨kvs, hm.of_heap (kp.block m hm.lt (fun hi => l.m_ne m hi rfl)), ?_⟩
      simp only [behindM_key, outM_key]
      exact hp.trans (hpm.symm.map _)
    · simp only [behindM_key, outM_key]
      exact (hpm.map _).nodup_iff.2 l.keys
    · have := l.len
      simp at this ⊢
      omega
    · rw [getSt, hh, if_pos rfl, e2, e3, stOf_cons]
      simp only [behindM_key, outM_key, behindM_pins, outM_pins]
      rw [stOf_congr (M := M) (M' := behindM (outM M n) n h) (fun b _ => ⟨by simp, by simp⟩)]
    · intro b hb
      left
      simp only [foot, List.mem_cons, List.mem_append] at hb ⊢
      rcases hb with hb | hb | hb | hb | hb | hb <;> simp [hb]

/-! ### Pin, Unpin -/
theorem pin_walk (L m b : Nat) (k p : Int) (w : World) (c2 : w.cell? ⟨L, 2, none⟩ = some (.map (some m)))
    (hl : (Instr.lookup 109 (.map (some m)) (num k) true).run Tryz.prog w = .ok (.tuple #[ptr b, .bool true]) w)
    (cp : w.cell? ⟨b, 1, none⟩ = some (num p)) (fp : w.frozen? ⟨b, 1, none⟩ = false) :
    Calls Tryz.prog 20 #[ptr L, num k] w fun e w' => e = .returned (num 0) ∧ w' = w.setCell ⟨b, 1, none⟩ (num (wrap64 (p + 1))) := by
  go_enter Tryz.func20, Tryz.ntmps20
  go_wp2
  go_ret
  exact ⟨rfl, rfl⟩
theorem pin_none (L m : Nat) (k : Int) (w : World) (c2 : w.cell? ⟨L, 2, none⟩ = some (.map (some m)))
    (hl : (Instr.lookup 109 (.map (some m)) (num k) true).run Tryz.prog w = .ok (.tuple #[.pointer none, .bool false]) w) :
    Calls Tryz.prog 20 #[ptr L, num k] w fun e w' => e = .returned (num 3) ∧ w' = w := by
  go_enter Tryz.func20, Tryz.ntmps20
  go_wp2
  go_ret
  exact ⟨rfl, rfl⟩
/-- A node's pins are written. -/
theorem Lru.setPins {w : World} {L room h m n : Nat} {l1 l2 : List Nat} {M : Nat → Nd} (l : Lru w L room h m (l1 ++ n :: l2) M) (v : Int) :
    LruPost w (w.setCell ⟨n, 1, none⟩ (num v)) L room (setK (M n).key v (stOf (l1 ++ n :: l2) M)) (foot L h m (l1 ++ n :: l2)) := by
  have hn : n ∈ h :: (l1 ++ n :: l2) := by simp
  have kp : Keeps (· ∈ foot L h m (l1 ++ n :: l2)) w (w.setCell ⟨n, 1, none⟩ (num v)) := (Keeps.refl _ w).set (.inl (by unfold foot; exact List.mem_cons_of_mem _ (List.mem_cons_of_mem _ hn))) _
  refine ⟨_, ⟨h, m, l1 ++ n :: l2, Go.Proofs.YtdilchcnfnfdiaaGreatDoor.setPins M n v, ⟨?_, ?_, ⟨fun b hb => nodes_pins (l.ring.nodes b hb) v, links_congr _ (fun b _ => by simp) (fun b _ => by simp) l.ring.links, l.ring.nodup⟩, by simpa using l.keys, l.len⟩, ?_, rfl⟩, fun b hb => .inl hb, kp⟩
  · rw [set_far (l.L_ne n hn)]; exact l.lst
  · obtain ⟨kvs, hm, hp⟩ := l.map
    exact ⟨kvs, hm.of_heap (set_far (l.m_ne n hn) _), by simpa using hp⟩
  · obtain ⟨e, a1, a2⟩ := st_split l
    have nd := l.ring.nodup
    have nd' : n ∉ l1 ∧ n ∉ l2 := by
      have h2 := (List.Perm.nodup_iff (List.perm_middle (a := n) (l₁ := h :: l1) (l₂ := l2))).1 nd
      have h3 := (List.nodup_cons.1 h2).1
      simp only [List.cons_append, List.mem_cons, List.mem_append, not_or] at h3
      exact ⟨h3.2.1, h3.2.2⟩
    rw [e, setK_split a1 a2, stOf_append, stOf_cons,
      stOf_congr (M := M) (M' := Go.Proofs.YtdilchcnfnfdiaaGreatDoor.setPins M n v) (l := l1) (fun b hb => ⟨by simp, by rw [setPins_pins, if_neg (by rintro rfl; exact nd'.1 hb)]⟩),
      stOf_congr (M := M) (M' := Go.Proofs.YtdilchcnfnfdiaaGreatDoor.setPins M n v) (l := l2) (fun b hb => ⟨by simp, by rw [setPins_pins, if_neg (by rintro rfl; exact nd'.2 hb)]⟩)]
    simp [setPins_pins]

def pinSt (k : Int) (st : List (Int × Int)) : List (Int × Int) := if hasK k st then setK k (wrap64 (pinsK k st + 1)) st else st
def unpinSt (k : Int) (st : List (Int × Int)) : List (Int × Int) := if hasK k st && pinsK k st != 0 then setK k (wrap64 (pinsK k st - 1)) st else st
def unpinE (k : Int) (st : List (Int × Int)) : Int := if hasK k st then (if pinsK k st == 0 then 5 else 0) else 3

theorem post_same {w : World} {L room : Nat} {st : List (Int × Int)} {F : List Nat} (s : LruSt w L room st F) : LruPost w w L room st F := ⟨F, s, fun _ hb => .inl hb, Keeps.refl _ _⟩
theorem Lru.st {w : World} {L room h m : Nat} {bs : List Nat} {M : Nat → Nd} (l : Lru w L room h m bs M) : LruSt w L room (stOf bs M) (foot L h m bs) := ⟨h, m, bs, M, l, rfl, rfl⟩

theorem pin_st {w : World} {L room : Nat} {st : List (Int × Int)} {F : List Nat} (s : LruSt w L room st F) (k : Int) :
    Calls Tryz.prog 20 #[ptr L, num k] w fun e w' => e = .returned (num (if hasK k st then 0 else 3)) ∧ LruPost w w' L room (pinSt k st) F := by
  obtain ⟨h, m, bs, M, l, rfl, rfl⟩ := s
  cases hh : hasK k (stOf bs M) with
  | false =>
    refine (pin_none L m k w l.c2 (l.look_miss (hasK_false.1 hh))).mono ?_
    rintro e w' ⟨rfl, rfl⟩
    exact ⟨rfl, by rw [pinSt, hh]; exact post_same l.st⟩
  | true =>
    obtain ⟨l1, n, l2, rfl, rfl⟩ := hasK_true.1 hh
    have hn := l.ring.nodes n (by simp)
    refine (pin_walk L m n _ _ w l.c2 (l.look_hit rfl) (node_pins hn) (free_blk hn _)).mono ?_
    rintro e w' ⟨rfl, rfl⟩
    refine ⟨rfl, ?_⟩
    rw [pinSt, hh, if_pos rfl, (hit_of l).2.1]
    exact l.setPins _

/-! ### Pinned -/
theorem pinned_walk (L m b : Nat) (k p : Int) (w : World) (hL : L < w.heap.size) (hb : b < w.heap.size) (c2 : w.cell? ⟨L, 2, none⟩ = some (.map (some m)))
    (hl : (Instr.lookup 109 (.map (some m)) (num k) true).run Tryz.prog (w.alloc (.cells #[num 0] 3)) = .ok (.tuple #[ptr b, .bool true]) (w.alloc (.cells #[num 0] 3)))
    (cp : w.cell? ⟨b, 1, none⟩ = some (num p)) :
    Calls Tryz.prog 22 #[ptr L, num k] w fun e w' => e = .returned (num p) ∧ w' = w.alloc (.cells #[num p] 3) := by
  go_enter Tryz.func22, Tryz.ntmps22
  go_wp2
  exact bodyPost_ret (v := num p) (by simp [results, Tryz.results22, go_sem]) rfl ⟨rfl, rfl⟩
theorem pinned_none (L m : Nat) (k : Int) (w : World) (hL : L < w.heap.size) (c2 : w.cell? ⟨L, 2, none⟩ = some (.map (some m)))
    (hl : (Instr.lookup 109 (.map (some m)) (num k) true).run Tryz.prog (w.alloc (.cells #[num 0] 3)) = .ok (.tuple #[.pointer none, .bool false]) (w.alloc (.cells #[num 0] 3))) :
    Calls Tryz.prog 22 #[ptr L, num k] w fun e w' => e = .returned (num 0) ∧ w' = w.alloc (.cells #[num 0] 3) := by
  go_enter Tryz.func22, Tryz.ntmps22
  go_wp2
  exact bodyPost_ret (v := num 0) (by simp [results, Tryz.results22, go_sem]) rfl ⟨rfl, rfl⟩

theorem pinned_st {w : World} {L room : Nat} {st : List (Int × Int)} {F : List Nat} (s : LruSt w L room st F) (k : Int) :
    Calls Tryz.prog 22 #[ptr L, num k] w fun e w' => e = .returned (num (pinsK k st)) ∧ LruPost w w' L room st F := by
  obtain ⟨h, m, bs, M, l, rfl, rfl⟩ := s
  cases hh : hasK k (stOf bs M) with
  | false =>
    refine (pinned_none L m k w l.L_lt l.c2 ((l.alloc _).look_miss (hasK_false.1 hh))).mono ?_
    rintro e w' ⟨rfl, rfl⟩
    have hp : pinsK k (stOf bs M) = 0 := by
      have : (stOf bs M).find? (fun x => x.1 == k) = none := List.find?_eq_none.2 (fun x hx => by simpa using stOf_apart (hasK_false.1 hh) x hx)
      simp [pinsK, this]
    exact ⟨by rw [hp], _, (l.alloc _).st, fun _ hb => .inl hb, (Keeps.refl _ w).alloc _⟩
  | true =>
    obtain ⟨l1, n, l2, rfl, rfl⟩ := hasK_true.1 hh
    have hn := l.ring.nodes n (by simp)
    refine (pinned_walk L m n _ _ w l.L_lt (block_lt hn) l.c2 ((l.alloc _).look_hit rfl) (node_pins hn)).mono ?_
    rintro e w' ⟨rfl, rfl⟩
    exact ⟨by rw [(hit_of l).2.1], _, (l.alloc _).st, fun _ hb => .inl hb, (Keeps.refl _ w).alloc _⟩

/-! ### Drop -/
def DropPost (w : World) (L room h m n : Nat) (l1 l2 : List Nat) (M : Nat → Nd) (e : Ending) (w' : World) : Prop :=
  e = .returned (num 0) ∧ Lru w' L room h m (l1 ++ l2) (outM M n) ∧ Keeps (· ∈ foot L h m (l1 ++ n :: l2)) w w'

/-- The region's delete, over a world that is known but for its draws. -/
theorem drop1_tail {w w1 : World} {L room h m n : Nat} {l1 l2 : List Nat} {M : Nat → Nd} (l : Lru w L room h m (l1 ++ n :: l2) M) (r1 : RingAt w1 h (l1 ++ l2) (outM M n)) (k1 : Keeps (· ∈ h :: (l1 ++ n :: l2)) w w1) :
    ∃ o, (∀ W : World, W.heap = w1.heap → ∀ ty, (Builtin.delete_ #[109, 3] ty #[.map (some m), num (M n).key]).run Tryz.prog W = .ok (.tuple #[]) (setBlock W m o)) ∧
      Lru (setBlock w1.drew m o) L room h m (l1 ++ l2) (outM M n) ∧ Keeps (· ∈ foot L h m (l1 ++ n :: l2)) w (setBlock w1.drew m o) := by
  obtain ⟨kvs, hm, hp⟩ := l.map
  obtain ⟨kv1, kv2, e, hk1, hp2⟩ := kvs_split hp l.keys
  obtain ⟨o, ho⟩ := hm.del Tryz.uMap Tryz.uInt e hk1
  have hmn : ¬ m ∈ h :: (l1 ++ n :: l2) := fun hi => l.m_ne m hi rfl
  have hm1 := k1.block m hm.lt hmn
  have kp : Keeps (· ∈ foot L h m (l1 ++ n :: l2)) w (setBlock w1.drew m o) := ((k1.mono (fun i hi => .inl (by unfold foot; exact List.mem_cons_of_mem _ (List.mem_cons_of_mem _ hi)))).drew).setBlock (.inl (by simp [foot])) o
  refine ⟨o, fun W hW ty => (ho W (by rw [hW]; exact hm1)).1 ty, ⟨?_, ⟨kv1 ++ kv2, (ho w1.drew hm1).2, by simpa using hp2⟩, ?_, ?_, ?_⟩, kp⟩
  · rw [heap_setBlock_far o l.Lm]
    exact k1.blk l.lst (fun hi => l.L_ne L hi rfl)
  · refine ⟨fun b hb => ?_, r1.links, r1.nodup⟩
    have hb' : b ∈ h :: (l1 ++ n :: l2) := by
      simp only [List.mem_cons, List.mem_append] at hb ⊢
      rcases hb with hb | hb | hb <;> simp [hb]
    rw [heap_setBlock_far o (Ne.symm (l.m_ne b hb'))]
    exact r1.nodes b hb
  · simp only [outM_key]
    exact (List.Nodup.sublist (List.Sublist.map _ (List.Sublist.append (List.Sublist.refl l1) (List.sublist_cons_self n l2))) l.keys)
  · have := l.len
    simp at this ⊢
    omega

set_option maxRecDepth 100000 in
theorem drop1_walk {L room h m n a c : Nat} {l1 l2 : List Nat} {M : Nat → Nd} (w : World) (l : Lru w L room h m (l1 ++ n :: l2) M) (hp : (M n).pins ≤ 0)
    (ha : w.cell? ⟨a, 0, none⟩ = some (ptr L)) (hc : w.cell? ⟨c, 0, none⟩ = some (num (M n).key)) (haf : a ∉ foot L h m (l1 ++ n :: l2)) (hcf : c ∉ foot L h m (l1 ++ n :: l2)) (hal : a < w.heap.size) (hcl : c < w.heap.size) :
    Calls Tryz.prog 95 #[ptr n, ptr a, ptr c] w fun e w' => DropPost w L room h m n l1 l2 M e w' := by
  have cp := node_pins (l.ring.nodes n (by simp))
  have up : ∀ b, b ∈ h :: (l1 ++ n :: l2) → b ∈ foot L h m (l1 ++ n :: l2) := fun b hb => by unfold foot; exact List.mem_cons_of_mem _ (List.mem_cons_of_mem _ hb)
  have gt := fun w1 => drop1_tail (w1 := w1) l
  have H := Lib.hid gt
  clear gt
  go_enter Tryz.func95, Tryz.ntmps95
  go_wp2_with fail
  refine (out_ring l.ring).mono ?_
  rintro e w1 ⟨⟨rfl, r1, k1, s1⟩, cn⟩
  obtain ⟨o, hd, hl', hk'⟩ := H.out w1 r1 k1
  have ca : w1.cell? ⟨a, 0, none⟩ = some (ptr L) := (World.cell?_of_block (w := w) (k1.block a hal (fun hi => haf (up a hi)))).trans ha
  have cc : w1.cell? ⟨c, 0, none⟩ = some (num (M n).key) := (World.cell?_of_block (w := w) (k1.block c hcl (fun hi => hcf (up c hi)))).trans hc
  have c2 : w1.cell? ⟨L, 2, none⟩ = some (.map (some m)) := (World.cell?_of_block (w := w) (k1.block L l.L_lt (fun hi => l.L_ne L hi rfl))).trans l.c2
  have hd1 := hd w1 rfl
  have hd2 := hd w1.drew rfl
  clear hd ha hc cp
  go_wp2_with fail
  go_region
  all_goals
    go_wp2
    go_ret
    exact ⟨rfl, hl', hk'⟩

set_option maxRecDepth 100000 in
theorem drop1_busy {n a c : Nat} (p : Int) (w : World) (cp : w.cell? ⟨n, 1, none⟩ = some (num p)) (hp : 0 < p) :
    Calls Tryz.prog 95 #[ptr n, ptr a, ptr c] w fun e w' => e = .returned (num 5) ∧ w' = w := by
  go_enter Tryz.func95, Tryz.ntmps95
  go_wp2
  go_ret
  exact ⟨rfl, rfl⟩

theorem drop_none (L m : Nat) (k : Int) (w : World) (hL : L < w.heap.size) (c2 : w.cell? ⟨L, 2, none⟩ = some (.map (some m)))
    (hl : (Instr.lookup 109 (.map (some m)) (num k) true).run Tryz.prog ((w.alloc (.cells #[ptr L] 49)).alloc (.cells #[num k] 3)) = .ok (.tuple #[.pointer none, .bool false]) ((w.alloc (.cells #[ptr L] 49)).alloc (.cells #[num k] 3))) :
    Calls Tryz.prog 49 #[ptr L, num k] w fun e w' => e = .returned (num 3) ∧ w' = (w.alloc (.cells #[ptr L] 49)).alloc (.cells #[num k] 3) := by
  go_enter Tryz.func49, Tryz.ntmps49
  go_wp2
  go_ret
  exact ⟨rfl, rfl⟩

/-- Drop of a key that is there: what its inner function answers and leaves. -/
theorem drop_there (L m n : Nat) (k : Int) (w : World) (hL : L < w.heap.size) (c2 : w.cell? ⟨L, 2, none⟩ = some (.map (some m)))
    (hl : (Instr.lookup 109 (.map (some m)) (num k) true).run Tryz.prog ((w.alloc (.cells #[ptr L] 49)).alloc (.cells #[num k] 3)) = .ok (.tuple #[ptr n, .bool true]) ((w.alloc (.cells #[ptr L] 49)).alloc (.cells #[num k] 3)))
    (R : Int → World → Prop)
    (H : Calls Tryz.prog 95 #[ptr n, ptr w.heap.size, ptr (w.heap.size + 1)] ((w.alloc (.cells #[ptr L] 49)).alloc (.cells #[num k] 3)) fun e w' => ∃ v, e = .returned (num v) ∧ R v w') :
    Calls Tryz.prog 49 #[ptr L, num k] w fun e w' => ∃ v, e = .returned (num v) ∧ R v w' := by
  have HH := Lib.hid H
  clear H
  go_enter Tryz.func49, Tryz.ntmps49
  go_wp2_with fail
  go_in
  go_wp2_with fail
  refine HH.out.mono ?_
  rintro e w' ⟨v, rfl, hv⟩
  go_wp2_with fail
  go_ret
  exact ⟨v, rfl, hv⟩

def dropSt (k : Int) (st : List (Int × Int)) : List (Int × Int) := if hasK k st && decide (pinsK k st ≤ 0) then rmK k st else st
def dropE (k : Int) (st : List (Int × Int)) : Int := if hasK k st then (if pinsK k st ≤ 0 then 0 else 5) else 3

theorem drop_st {w : World} {L room : Nat} {st : List (Int × Int)} {F : List Nat} (s : LruSt w L room st F) (k : Int) :
    Calls Tryz.prog 49 #[ptr L, num k] w fun e w' => ∃ v, e = .returned (num v) ∧ v = dropE k st ∧ LruPost w w' L room (dropSt k st) F := by
  obtain ⟨h, m, bs, M, l, rfl, rfl⟩ := s
  have l2 := (l.alloc (.cells #[ptr L] 49)).alloc (.cells #[num k] 3)
  have kp : ∀ F : Nat → Prop, Keeps F w ((w.alloc (.cells #[ptr L] 49)).alloc (.cells #[num k] 3)) := fun F => ((Keeps.refl F w).alloc _).alloc _
  cases hh : hasK k (stOf bs M) with
  | false =>
    refine (drop_none L m k w l.L_lt l.c2 (l2.look_miss (hasK_false.1 hh))).mono ?_
    rintro e w' ⟨rfl, rfl⟩
    exact ⟨3, rfl, by simp [dropE, hh], by rw [dropSt, hh]; exact ⟨_, l2.st, fun _ hb => .inl hb, kp _⟩⟩
  | true =>
    obtain ⟨l1, n, l2', rfl, rfl⟩ := hasK_true.1 hh
    obtain ⟨_, e2, e3⟩ := hit_of l
    have up : ∀ b, b ∈ h :: (l1 ++ n :: l2') → b ∈ foot L h m (l1 ++ n :: l2') := fun b hb => by unfold foot; exact List.mem_cons_of_mem _ (List.mem_cons_of_mem _ hb)
    refine drop_there L m n _ w l.L_lt l.c2 (l2.look_hit rfl) _ ?_
    by_cases hp : (M n).pins ≤ 0
    · have ca := alloc_old (.cells #[num (M n).key] 3) (alloc_new w (.cells #[ptr L] 49))
      have cc := alloc_new (w.alloc (.cells #[ptr L] 49)) (.cells #[num (M n).key] 3)
      rw [size_alloc] at cc
      refine (drop1_walk (a := w.heap.size) (c := w.heap.size + 1) _ l2 hp (by rw [cell_blk ca]; rfl) (by rw [cell_blk cc]; rfl) (foot_lt l (Nat.le_refl _)) (foot_lt l (by omega)) (block_lt ca) (block_lt cc)).mono ?_
      rintro e w' ⟨rfl, l', k'⟩
      refine ⟨0, rfl, by simp [dropE, hh, e2, hp], ?_⟩
      rw [dropSt, hh, e2, e3, if_pos (by simpa using hp)]
      refine ⟨_, ⟨h, m, l1 ++ l2', _, l', (stOf_congr (fun b _ => ⟨by simp, by simp⟩)).symm, rfl⟩, fun b hb => .inl ?_, (kp _).trans k' (fun i hi => .inl hi)⟩
      simp only [foot, List.mem_cons, List.mem_append] at hb ⊢
      rcases hb with hb | hb | hb | hb | hb <;> simp [hb]
    · refine (drop1_busy _ _ (node_pins (l2.ring.nodes n (by simp))) (by omega)).mono ?_
      rintro e w' ⟨rfl, rfl⟩
      refine ⟨5, rfl, by simp [dropE, hh, e2, hp], ?_⟩
      rw [dropSt, hh, e2, if_neg (by simpa using hp)]
      exact ⟨_, l2.st, fun _ hb => .inl hb, kp _⟩

end Go.Proofs.YtdilchcnfnfdiaaGreatDoor
namespace Go.Proofs.YtdilchcnfnfdiaaGreatDoor
open Go.RowKit
open Go.ChangeMaps (setBlock)

theorem Tryz.uPtr : Tryz.prog.underlying 105 = some (.pointer 113) := by kernel_rfl
theorem Tryz.sNode : (Tryz.prog.info? 113).map (·.size) = some 4 := by kernel_rfl
theorem node_info : ∃ j, Tryz.prog.info? 113 = some j ∧ j.size ≠ 0 := by
  have := Tryz.sNode
  cases h : Tryz.prog.info? 113 with
  | none => rw [h] at this; cases this
  | some j => rw [h] at this; injection this with this; exact ⟨j, rfl, by dsimp only at this; omega⟩

theorem Lru.neq_head {w : World} {L room h m b : Nat} {bs : List Nat} {M : Nat → Nd} (l : Lru w L room h m bs M) (hb : b ∈ bs) (W : World) (hW : W.heap = w.heap) :
    (binOp .neq 105 (ptr b) (ptr h)).run Tryz.prog W = .ok (.bool true) W ∧ (binOp .eql 105 (ptr b) (ptr h)).run Tryz.prog W = .ok (.bool false) W := by
  obtain ⟨j, hj, hs⟩ := node_info
  have hne : b ≠ h := by
    rintro rfl
    exact (List.nodup_cons.1 l.ring.nodup).1 hb
  have h1 := l.ring.nodes b (by simp [hb])
  have h2 := l.ring.nodes h (by simp)
  rw [← hW] at h1 h2
  exact ⟨neq_other Tryz.uPtr hj hs hne h1 h2, eql_other Tryz.uPtr hj hs hne h1 h2⟩
theorem eq_head (h : Nat) (W : World) :
    (binOp .neq 105 (ptr h) (ptr h)).run Tryz.prog W = .ok (.bool false) W ∧ (binOp .eql 105 (ptr h) (ptr h)).run Tryz.prog W = .ok (.bool true) W := by
  obtain ⟨j, hj, hs⟩ := node_info
  exact ⟨neq_same Tryz.uPtr hj h, eql_same Tryz.uPtr hj h⟩

/-! ### a key that is laid at the front -/
abbrev fresh (k : Int) : Obj := .cells #[num k, num 0, .pointer none, .pointer none] 113

def LaidPost (w : World) (L room h m n : Nat) (k : Int) (bs : List Nat) (M : Nat → Nd) (e : Ending) (w2 : World) : Prop :=
  e = .returned (.tuple #[]) ∧ w2.cell? ⟨L, 2, none⟩ = some (.map (some m)) ∧
    ∃ o M', (Instr.mapUpdate 109 (.map (some m)) (num k) (ptr n)).run Tryz.prog w2 = .ok () (setBlock w2 m o) ∧
      Lru (setBlock w2 m o) L room h m (n :: bs) M' ∧ stOf (n :: bs) M' = (k, 0) :: stOf bs M ∧ Keeps (· ∈ foot L h m bs) w (setBlock w2 m o)

theorem laid_front {w : World} {L room h m : Nat} {bs : List Nat} {M : Nat → Nd} (l : Lru w L room h m bs M) (k : Int) (hk : ∀ b ∈ bs, (M b).key ≠ k) (hlen : bs.length < room) :
    Calls Tryz.prog 50 #[ptr w.heap.size, ptr h] (w.alloc (fresh k)) fun e w2 => LaidPost w L room h m w.heap.size k bs M e w2 := by
  have la := l.alloc (fresh k)
  have hnf : w.heap.size ∉ foot L h m bs := foot_lt l (Nat.le_refl _)
  have hn : w.heap.size ∉ h :: bs := fun hh => hnf (by unfold foot; exact List.mem_cons_of_mem _ (List.mem_cons_of_mem _ hh))
  have hagree : ∀ b ∈ h :: bs, upd M w.heap.size ⟨k, 0, 0, 0⟩ b = M b := fun b hb => by
    unfold upd
    rw [if_neg (by rintro rfl; exact hn hb)]
  have hnew : upd M w.heap.size ⟨k, 0, 0, 0⟩ w.heap.size = ⟨k, 0, 0, 0⟩ := by simp [upd]
  have r : RingAt (w.alloc (fresh k)) h bs (upd M w.heap.size ⟨k, 0, 0, 0⟩) := by
    refine ⟨fun b hb => by rw [hagree b hb]; exact la.ring.nodes b hb, links_congr _ (fun b hb => ?_) (fun b hb => ?_) la.ring.links, la.ring.nodup⟩
    · rw [List.cons_append, ← List.cons_append, List.dropLast_concat] at hb
      rw [hagree b hb]
    · rw [List.cons_append, List.tail_cons] at hb
      rw [hagree b (by simp only [List.mem_append, List.mem_cons, List.not_mem_nil, or_false] at hb ⊢; rcases hb with hb | hb <;> simp [hb])]
  refine (behind_ring r hn (va := .pointer none) (vb := .pointer none) (by rw [hnew]; exact alloc_new w _)).mono ?_
  rintro e w2 ⟨rfl, r2, k2, s2⟩
  have hLn : ¬ L ∈ w.heap.size :: h :: bs := by
    rintro hh
    rcases List.mem_cons.1 hh with hh | hh
    · have := l.L_lt; omega
    · exact l.L_ne L hh rfl
  obtain ⟨kvs, hm, hp⟩ := l.map
  have hml := hm.lt
  have hmn : ¬ m ∈ w.heap.size :: h :: bs := by
    rintro hh
    rcases List.mem_cons.1 hh with hh | hh
    · omega
    · exact l.m_ne m hh rfl
  have kp0 : Keeps (· ∈ w.heap.size :: h :: bs) w w2 := ((Keeps.refl _ w).alloc (fresh k)).trans k2 (fun i hi => .inl hi)
  have kp : Keeps (· ∈ foot L h m bs) w w2 := kp0.mono (fun i hi => by
    rcases List.mem_cons.1 hi with rfl | hi
    · exact .inr (Nat.le_refl _)
    · exact .inl (by unfold foot; exact List.mem_cons_of_mem _ (List.mem_cons_of_mem _ hi)))
  have hL2 := kp0.blk l.lst hLn
  obtain ⟨o, ho⟩ := hm.add Tryz.uMap Tryz.uInt (kvs_miss hp hk) w.heap.size
  obtain ⟨ho1, ho2⟩ := ho w2 (kp0.block m hml hmn)
  refine ⟨rfl, by rw [cell_blk hL2]; rfl, o, behindM (upd M w.heap.size ⟨k, 0, 0, 0⟩) w.heap.size h, ho1, ⟨?_, ⟨_, ho2, ?_⟩, ⟨fun b hb => ?_, r2.links, r2.nodup⟩, ?_, ?_⟩, ?_, kp.setBlock (.inl (by simp [foot])) o⟩
  · rw [heap_setBlock_far o l.Lm]; exact hL2
  · simp only [behindM_key, List.map_cons, hnew]
    refine (List.perm_append_comm).trans ?_
    refine List.Perm.cons _ ?_
    rw [List.map_congr_left (g := fun b => ((M b).key, b)) (fun b hb => by rw [hagree b (by simp [hb])])]
    exact hp
  · rw [heap_setBlock_far o]
    · exact r2.nodes b hb
    · rintro rfl
      apply hmn
      simp only [List.mem_cons] at hb ⊢
      rcases hb with hb | hb | hb <;> simp [hb]
  · simp only [behindM_key, List.map_cons, hnew]
    rw [List.map_congr_left (g := fun b => (M b).key) (fun b hb => by rw [hagree b (by simp [hb])]), List.nodup_cons]
    refine ⟨fun hh => ?_, l.keys⟩
    obtain ⟨b, hb, e⟩ := List.mem_map.1 hh
    exact hk b hb e
  · rw [List.length_cons]; omega
  · rw [stOf_cons]
    simp only [behindM_key, behindM_pins, hnew]
    rw [stOf_congr (M := M) (fun b hb => ⟨by rw [behindM_key, hagree b (by simp [hb])], by rw [behindM_pins, hagree b (by simp [hb])]⟩)]

theorem Lru.lens {w : World} {L room h m : Nat} {bs : List Nat} {M : Nat → Nd} (l : Lru w L room h m bs M) (ty : TypeId) (n : Nat) :
    (Builtin.len_ #[109] ty #[.map (some m)]).run Tryz.prog (w.drewN n) = .ok (num bs.length) (w.drewN n) := by
  obtain ⟨kvs, hm, hp⟩ := l.map
  have := (hm.of_heap (w' := w.drewN n) rfl).len Tryz.uMap ty
  rw [hp.length_eq, List.length_map] at this
  exact this

/-! ### Put -/
theorem put_hit {w : World} {L room : Nat} {st : List (Int × Int)} {F : List Nat} (s : LruSt w L room st F) (k : Int) (hh : hasK k st = true) :
    Calls Tryz.prog 19 #[ptr L, num k] w fun e w' => e = .returned (.tuple #[num 0, .bool false, num 0]) ∧ LruPost w w' L room (getSt k st) F := by
  have H := Lib.hid (get_st s k)
  clear s
  go_enter Tryz.func19, Tryz.ntmps19
  go_wp2_with fail
  refine H.out.mono ?_
  rintro e w' ⟨rfl, hp⟩
  rw [hh]
  go_wp2_with fail
  go_ret3
  exact ⟨rfl, hp⟩

theorem Lru.drewN {w : World} {L room h m : Nat} {bs : List Nat} {M : Nat → Nd} (l : Lru w L room h m bs M) (n : Nat) : Lru (w.drewN n) L room h m bs M :=
  l.keep (F := fun _ => False) ((Keeps.refl _ w).drewN n) (fun _ _ h => h)

set_option maxRecDepth 100000 in
theorem put_room {w : World} {L room h m : Nat} {bs : List Nat} {M : Nat → Nd} (l : Lru w L room h m bs M) (k : Int) (hk : ∀ b ∈ bs, (M b).key ≠ k) (hlen : bs.length < room) :
    Calls Tryz.prog 19 #[ptr L, num k] w fun e w' => e = .returned (.tuple #[num 0, .bool false, num 0]) ∧ LruPost w w' L room ((k, 0) :: stOf bs M) (foot L h m bs) := by
  have H := Lib.hid (get_walk_miss L m k w l.c2 (l.look_miss hk))
  have HL := Lib.hid (fun n => laid_front (l.drewN n) k hk hlen)
  have c0 := l.c0
  have c1 := l.c1
  have c2 := l.c2
  have hLl := l.L_lt
  have hl : ((bs.length : Int) == (room : Int)) = false := by simp; omega
  have hlens := fun ty n => l.lens ty n
  clear l hk
  go_enter Tryz.func19, Tryz.ntmps19
  go_wp2_with fail
  refine H.out.mono ?_
  rintro e w' ⟨rfl, rfl⟩
  go_wp2_with fail
  go_quiet (fail)
  have c1' : (w'.drewN nq).cell? ⟨L, 1, none⟩ = some (ptr h) := c1
  have hLl' : L < (w'.drewN nq).heap.size := hLl
  have HL' := Lib.hid (HL.out nq)
  have hK : Keeps (· ∈ foot L h m bs) w' (w'.drewN nq) := (Keeps.refl _ _).drewN nq
  clear hlens H HL c0 c1 c2 hLl hl hlen
  generalize w'.drewN nq = W at c1' hLl' HL' hK ⊢
  go_wp2_with fail
  refine HL'.out.mono ?_
  rintro e w2 ⟨rfl, c2', o, M', hmu, l2, est, k2⟩
  clear HL' c1' hLl'
  have L2 := Lib.hid l2
  have E2 := Lib.hid est
  clear l2 est
  go_wp2_with fail
  go_ret3
  refine ⟨rfl, _, ⟨h, m, _, M', L2.out, E2.out.symm, rfl⟩, ?_, hK.trans k2 (fun i hi => .inl hi)⟩
  intro b hb
  simp only [foot, List.mem_cons] at hb ⊢
  have := hK.size
  rcases hb with hb | hb | hb | hb | hb
  · simp [hb]
  · simp [hb]
  · simp [hb]
  · right; omega
  · simp [hb]

/-! ### Put where there is no room: from the tail on, the first one that is not pinned -/
def posOf (l : List Nat) (v : Value) : Nat := match v with | .pointer (some a) => l.idxOf a.block | _ => 0
/-- The node at hand: what stands behind it is pinned. -/
def AtTail (h : Nat) (bs : List Nat) (M : Nat → Nd) (v : Value) : Prop := ∃ s1 b s2, h :: bs = s1 ++ b :: s2 ∧ (∀ x ∈ s2, 0 < (M x).pins) ∧ v = ptr b

theorem links_last {M : Nat → Nd} {h : Nat} {bs : List Nat} (H : Links M (h :: bs ++ [h])) : ∃ s1, h :: bs = s1 ++ [(M h).prev] := by
  obtain ⟨L0, p, e⟩ := snoc_of h bs
  rw [e, List.append_assoc] at H
  rw [show L0 ++ ([p] ++ [h]) = L0 ++ p :: [h] from rfl, links_split] at H
  exact ⟨L0, by rw [H.2.2.1, e]⟩
theorem links_prev {M : Nat → Nd} {h b : Nat} {bs s1 s2 : List Nat} (H : Links M (h :: bs ++ [h])) (e : h :: bs = s1 ++ b :: s2) (hb : b ≠ h) : ∃ s, s1 = s ++ [(M b).prev] := by
  cases s1 with
  | nil => simp only [List.nil_append, List.cons.injEq] at e; exact absurd e.1.symm hb
  | cons a s =>
    obtain ⟨s', p, e'⟩ := snoc_of a s
    rw [e, e', List.append_assoc] at H
    rw [show s' ++ [p] ++ (b :: s2 ++ [h]) = s' ++ p :: b :: (s2 ++ [h]) by simp, links_split] at H
    exact ⟨s', by rw [H.2.2.1, e']⟩
theorem posOf_at {h b : Nat} {bs s1 s2 : List Nat} (nd : (h :: bs).Nodup) (e : h :: bs = s1 ++ b :: s2) : posOf (h :: bs) (ptr b) = s1.length := by
  have hb : b ∉ s1 := by
    rw [e, List.nodup_append] at nd
    exact fun hh => nd.2.2 b hh b (by simp) rfl
  show (h :: bs).idxOf b = _
  rw [e, List.idxOf_append, if_neg hb]
  simp

theorem goes_none {bs : List Nat} {M : Nat → Nd} (hp : ∀ x ∈ bs, 0 < (M x).pins) : goesK (stOf bs M) = none := by
  unfold goesK
  rw [List.find?_eq_none]
  intro x hx
  obtain ⟨b, hb, rfl⟩ := List.mem_map.1 (List.mem_reverse.1 hx)
  have := hp b hb
  simp
  omega
theorem goes_some {b : Nat} {l1 l2 : List Nat} {M : Nat → Nd} (hp : ∀ x ∈ l2, 0 < (M x).pins) (h0 : (M b).pins ≤ 0) : goesK (stOf (l1 ++ b :: l2) M) = some ((M b).key, (M b).pins) := by
  unfold goesK
  rw [stOf_append, stOf_cons, List.reverse_append, List.reverse_cons, List.append_assoc, List.find?_append]
  have : (stOf l2 M).reverse.find? (fun x => decide (x.2 ≤ 0)) = none := by
    have := goes_none hp
    unfold goesK at this
    exact this
  rw [this]
  simp [h0]

/-- What is left when the node b has gone. -/
theorem after_drop {w : World} {L room h m b : Nat} {l1 l2 : List Nat} {M : Nat → Nd} {k : Int} (l : Lru w L room h m (l1 ++ b :: l2) M) (hp : (M b).pins ≤ 0) (hk : ∀ c ∈ l1 ++ b :: l2, (M c).key ≠ k) (hlen : (l1 ++ b :: l2).length ≤ room) :
    ∀ (bs' : List Nat) (M' : Nat → Nd), dropSt (M b).key (stOf (l1 ++ b :: l2) M) = stOf bs' M' → (∀ c ∈ bs', (M' c).key ≠ k) ∧ bs'.length < room ∧ stOf bs' M' = rmK (M b).key (stOf (l1 ++ b :: l2) M) := by
  intro bs' M' e
  obtain ⟨e1, e2, e3⟩ := hit_of l
  rw [dropSt, e1, e2, if_pos (by simpa using hp)] at e
  refine ⟨fun c hc => ?_, ?_, e.symm⟩
  · have hm : ((M' c).key, (M' c).pins) ∈ stOf (l1 ++ l2) M := by
      rw [← e3, e]
      exact List.mem_map_of_mem (f := fun b => ((M' b).key, (M' b).pins)) hc
    obtain ⟨d, hd, ed⟩ := List.mem_map.1 hm
    injection ed with ed _
    rw [← ed]
    exact hk d (by rcases List.mem_append.1 hd with hd | hd <;> simp [hd])
  · have hl := congrArg List.length e
    rw [e3] at hl
    simp only [stOf, List.length_map, List.length_append, List.length_cons] at hl hlen ⊢
    omega

def FullPost (w : World) (L room : Nat) (k : Int) (st : List (Int × Int)) (F : List Nat) (e : Ending) (w' : World) : Prop :=
  match goesK st with
  | none => e = .returned (.tuple #[num 0, .bool false, num 130]) ∧ LruPost w w' L room st F
  | some g => e = .returned (.tuple #[num g.1, .bool true, num 0]) ∧ LruPost w w' L room ((k, 0) :: rmK g.1 st) F

set_option maxRecDepth 100000 in
theorem put_full {w : World} {L room h m : Nat} {bs : List Nat} {M : Nat → Nd} (l : Lru w L room h m bs M) (k : Int) (hk : ∀ b ∈ bs, (M b).key ≠ k) (hlen : bs.length = room) :
    Calls Tryz.prog 19 #[ptr L, num k] w fun e w' => FullPost w L room k (stOf bs M) (foot L h m bs) e w' := by
  have H := Lib.hid (get_walk_miss L m k w l.c2 (l.look_miss hk))
  have HL := Lib.hid (fun n => l.drewN n)
  have c0 := l.c0
  have c1 := l.c1
  have c2 := l.c2
  have hLl := l.L_lt
  have hl : ((bs.length : Int) == (room : Int)) = true := by simp; omega
  have hlens := fun ty n => l.lens ty n
  clear l
  have HK := Lib.hid hk
  have HN := Lib.hid hlen
  clear hk hlen
  go_enter Tryz.func19, Tryz.ntmps19
  go_wp2_with fail
  refine H.out.mono ?_
  rintro e w' ⟨rfl, rfl⟩
  go_wp2_with fail
  go_quiet (fail)
  have l' := HL.out nq
  have hK : Keeps (· ∈ foot L h m bs) w' (w'.drewN nq) := (Keeps.refl _ _).drewN nq
  clear hlens H HL c0 c1 c2 hLl hl
  generalize w'.drewN nq = W at l' hK ⊢
  have c1 := l'.c1
  have hprev := node_prev (l'.ring.nodes h (by simp))
  have HL := Lib.hid l'
  clear l'
  go_wp2_with fail
  go_loop [7] (fun t => AtTail h bs M t) (fun t => posOf (h :: bs) t)
  case atStart =>
    obtain ⟨s1, e⟩ := links_last HL.out.ring.links
    exact ⟨s1, _, [], e, by simp, rfl⟩
  case round =>
    obtain ⟨s1, b, s2, e, hp, rfl⟩ := hrel
    have nd := HL.out.ring.nodup
    by_cases hb : b = h
    · subst hb
      have es : s1 = [] := by
        cases s1 with
        | nil => rfl
        | cons a s =>
          simp only [List.cons_append, List.cons.injEq] at e
          rw [e.2, List.nodup_cons] at nd
          exact absurd (e.1 ▸ (by simp)) nd.1
      have hall : ∀ x ∈ bs, 0 < (M x).pins := by
        subst es
        simp only [List.nil_append, List.cons.injEq] at e
        rw [e.2]
        exact hp
      obtain ⟨q1, q2⟩ := eq_head b W
      have Hall := Lib.hid hall
      clear hall e hp nd es
      go_wp2
      go_ret3
      unfold FullPost
      rw [goes_none Hall.out]
      exact ⟨rfl, _, HL.out.st, fun _ hb => .inl hb, hK⟩
    · obtain ⟨s, es⟩ := links_prev HL.out.ring.links e hb
      have hmem : b ∈ bs := by
        have : b ∈ h :: bs := by rw [e]; simp
        simpa [hb] using this
      obtain ⟨q1, q2⟩ := HL.out.neq_head hmem W rfl
      have cb := HL.out.ring.nodes b (by simp [hmem])
      have p1 := node_pins cb
      have p2 := node_prev cb
      have E := Lib.hid e
      have ES := Lib.hid es
      have HP := Lib.hid hp
      have NB := Lib.hid hb
      clear e es hp cb hb hmem
      by_cases h0 : 0 < (M b).pins
      · go_wp2
        go_round
        case rel =>
          refine ⟨s, (M b).prev, b :: s2, by rw [E.out, ES.out]; simp, fun x hx => ?_, rfl⟩
          rcases List.mem_cons.1 hx with rfl | hx
          · exact h0
          · exact HP.out x hx
        case measure =>
          show posOf (h :: bs) (ptr (M b).prev) < posOf (h :: bs) (ptr b)
          rw [posOf_at nd E.out, posOf_at (s1 := s) (s2 := b :: s2) nd (by rw [E.out, ES.out]; simp), ES.out]
          simp
      · have hmem : b ∈ h :: bs := by rw [E.out]; simp
        have hkey := node_key (HL.out.ring.nodes b hmem)
        obtain ⟨l1, hl1⟩ : ∃ l1, bs = l1 ++ b :: s2 := by
          have e := E.out
          cases s1 with
          | nil => simp only [List.nil_append, List.cons.injEq] at e; exact absurd e.1.symm NB.out
          | cons a s' => simp only [List.cons_append, List.cons.injEq] at e; exact ⟨s', e.2⟩
        subst hl1
        have D := Lib.hid (drop_st HL.out.st (M b).key)
        have after := after_drop HL.out (by omega) HK.out (by rw [HN.out]; exact Nat.le_refl _)
        have AF := Lib.hid after
        have GS := Lib.hid (goes_some (l1 := l1) HP.out (by omega : (M b).pins ≤ 0))
        clear after
        go_wp2_with fail
        refine D.out.mono ?_
        rintro e w1 ⟨v, rfl, hv, F', ⟨h', m', bs', M', l', e1, rfl⟩, hF', k1⟩
        clear hv D q1 q2 p1 p2 hkey c1 hprev hmem nd
        obtain ⟨a1, a2, a3⟩ := AF.out bs' M' e1
        have c1' := l'.c1
        have hLl' := l'.L_lt
        have HL' := Lib.hid (laid_front l' k a1 a2)
        have K1 := Lib.hid (hK.trans k1 (fun i hi => .inl hi))
        have HF := Lib.hid hF'
        have A3 := Lib.hid a3
        have SZ := Lib.hid hK.size
        clear a1 a2 a3 l' AF E ES HP NB HK HN hF' e1 hK k1
        go_wp2_with fail
        refine HL'.out.mono ?_
        rintro e w2 ⟨rfl, c2', o, M2, hmu, l2, est, k2⟩
        clear HL' c1' hLl'
        have L2 := Lib.hid l2
        have E2 := Lib.hid est
        have K2 := Lib.hid k2
        clear l2 est k2
        go_wp2_with fail
        go_ret3
        unfold FullPost
        rw [GS.out]
        refine ⟨rfl, _, ⟨h', m', _, M2, L2.out, by rw [E2.out, A3.out], rfl⟩, ?_, K1.out.trans K2.out (fun i hi => ?_)⟩
        · intro c hc
          simp only [foot, List.mem_cons] at hc
          have hcase : c = w1.heap.size ∨ c ∈ foot L h' m' bs' := by
            simp only [foot, List.mem_cons]
            rcases hc with hc | hc | hc | hc | hc <;> simp [hc]
          rcases hcase with rfl | hc
          · right
            exact K1.out.size
          · rcases HF.out c hc with hc | hc
            · exact .inl hc
            · right
              have := SZ.out
              omega
        · rcases HF.out i hi with hc | hc
          · exact .inl hc
          · right
            have := SZ.out
            omega

end Go.Proofs.YtdilchcnfnfdiaaGreatDoor
namespace Go.Proofs.YtdilchcnfnfdiaaGreatDoor
open Go.RowKit

def putR (room : Nat) (k : Int) (st : List (Int × Int)) : List (Int × Int) × Int × Bool × Int :=
  if hasK k st then (getSt k st, 0, false, 0)
  else if st.length < room then ((k, 0) :: st, 0, false, 0)
  else match goesK st with
    | none => (st, 0, false, 130)
    | some g => ((k, 0) :: rmK g.1 st, g.1, true, 0)

def PutPost (w : World) (L room : Nat) (r : List (Int × Int) × Int × Bool × Int) (F : List Nat) (e : Ending) (w' : World) : Prop :=
  e = .returned (.tuple #[num r.2.1, .bool r.2.2.1, num r.2.2.2]) ∧ LruPost w w' L room r.1 F

theorem put_st {w : World} {L room : Nat} {st : List (Int × Int)} {F : List Nat} (s : LruSt w L room st F) (k : Int) :
    Calls Tryz.prog 19 #[ptr L, num k] w fun e w' => PutPost w L room (putR room k st) F e w' := by
  cases hh : hasK k st with
  | true =>
    refine (put_hit s k hh).mono ?_
    rintro e w' ⟨rfl, hp⟩
    unfold PutPost putR
    rw [if_pos hh]
    exact ⟨rfl, hp⟩
  | false =>
    have hne : ¬ hasK k st = true := by rw [hh]; decide
    obtain ⟨h, m, bs, M, l, rfl, rfl⟩ := s
    have hk := hasK_false.1 hh
    have hl : (stOf bs M).length = bs.length := by simp [stOf]
    by_cases hr : bs.length < room
    · refine (put_room l k hk hr).mono ?_
      rintro e w' ⟨rfl, hp⟩
      unfold PutPost putR
      rw [if_neg hne, if_pos (by rw [hl]; exact hr)]
      exact ⟨rfl, hp⟩
    · have := l.len
      refine (put_full l k hk (by omega)).mono ?_
      intro e w' hp
      unfold PutPost putR
      rw [if_neg hne, if_neg (by rw [hl]; exact hr)]
      unfold FullPost at hp
      cases hg : goesK (stOf bs M) with
      | none => rw [hg] at hp; exact hp
      | some g => rw [hg] at hp; exact hp

/-! ### Keys -/
def keysOf (st : List (Int × Int)) : List Int := st.map (·.1)
def restOf (bs : List Nat) (v : Value) : Nat := match v with | .pointer (some a) => bs.length - bs.idxOf a.block | _ => 0

/-- What has been collected, and the node at hand. -/
def KeysRel (w : World) (L room h m : Nat) (bs : List Nat) (M : Nat → Nd) (v t : Value) (wr : World) : Prop :=
  ∃ l1 l2 c r, bs = l1 ++ l2 ∧ l2 ++ [h] = c :: r ∧ t = ptr c ∧ Own wr w.heap.size v (keysOf (stOf l1 M)) ∧ Lru wr L room h m bs M ∧ Keeps (fun _ => False) w wr

def KeysPost (w : World) (L room : Nat) (st : List (Int × Int)) (F : List Nat) (e : Ending) (w' : World) : Prop :=
  ∃ v, e = .returned v ∧ Own w' w.heap.size v (keysOf st) ∧ LruSt w' L room st F ∧ Keeps (fun _ => False) w w'

theorem keys_snoc (l1 : List Nat) (b : Nat) (M : Nat → Nd) : keysOf (stOf (l1 ++ [b]) M) = keysOf (stOf l1 M) ++ [(M b).key] := by
  simp [keysOf, stOf]
theorem keys_len (l1 : List Nat) (M : Nat → Nd) : (keysOf (stOf l1 M)).length = l1.length := by simp [keysOf, stOf]

theorem links_first {M : Nat → Nd} {h : Nat} {bs : List Nat} (H : Links M (h :: bs ++ [h])) : ∃ r, bs ++ [h] = (M h).next :: r := by
  obtain ⟨x, R0, e2⟩ : ∃ x R0, bs ++ [h] = x :: R0 := by cases bs <;> simp
  rw [List.cons_append, e2] at H
  exact ⟨R0, by rw [H.1, e2]⟩
theorem links_next {M : Nat → Nd} {h b : Nat} {l1 l2 : List Nat} (H : Links M (h :: (l1 ++ b :: l2) ++ [h])) : ∃ r, l2 ++ [h] = (M b).next :: r := by
  obtain ⟨_, _, x, R0, _, e2, _, hx, _⟩ := links_ends H
  exact ⟨R0, by rw [hx, e2]⟩

theorem idx_next {h b x : Nat} {l1 l2 r : List Nat} (nd : (h :: (l1 ++ b :: l2)).Nodup) (e : l2 ++ [h] = x :: r) : (l1 ++ b :: l2).idxOf b = l1.length ∧ l1.length < (l1 ++ b :: l2).idxOf x := by
  rw [List.nodup_cons, List.nodup_append] at nd
  obtain ⟨n1, n2, n3, n4⟩ := nd
  have hb : b ∉ l1 := fun hh => n4 b hh b (by simp) rfl
  have hx : x ∈ l2 ++ [h] := by rw [e]; simp
  have hx1 : x ∉ l1 := by
    intro hh
    rcases List.mem_append.1 hx with h' | h'
    · exact n4 x hh x (by simp [h']) rfl
    · simp only [List.mem_singleton] at h'
      subst h'
      exact n1 (by simp [hh])
  have hxb : b ≠ x := by
    rintro rfl
    rcases List.mem_append.1 hx with h' | h'
    · exact (List.nodup_cons.1 n3).1 h'
    · simp only [List.mem_singleton] at h'
      subst h'
      exact n1 (by simp)
  rw [List.idxOf_append, if_neg hb, List.idxOf_append, if_neg hx1, List.idxOf_cons_self, List.idxOf_cons, cond_eq_ite, if_neg (by simpa using hxb)]
  omega

/-- A node more has been collected. -/
theorem keys_step {w wr w1 : World} {L room h m b g cap : Nat} {l1 l2 : List Nat} {M : Nat → Nd} {v : Value} (l : Lru wr L room h m (l1 ++ b :: l2) M) (hk : Keeps (fun _ => False) w wr) (hlt : ∀ c ∈ foot L h m (l1 ++ b :: l2), c < w.heap.size)
    (hv : ∀ q, v.ownBlock = some q → w.heap.size ≤ q) (o : Obj) (hown : Own w1 w.heap.size (.slice (some ⟨g, 0, none⟩) ((keysOf (stOf l1 M)).length + 1) cap) (keysOf (stOf l1 M) ++ [(M b).key])) (k1 : Keeps (fun k => v.ownBlock = some k) (wr.alloc o) w1) :
    w1.cell? ⟨b, 3, none⟩ = some (ptr (M b).next) ∧ KeysRel w L room h m (l1 ++ b :: l2) M (.slice (some ⟨g, 0, none⟩) ((keysOf (stOf l1 M)).length + 1) cap) (ptr (M b).next) w1 := by
  have l' : Lru w1 L room h m (l1 ++ b :: l2) M := (l.alloc o).keep k1 (fun c hc e => by have := hlt c hc; have := hv c e; omega)
  obtain ⟨r, hr⟩ := links_next l.ring.links
  have kk : Keeps (fun _ => False) w w1 := ((hk.alloc o).trans k1 (fun i hi => .inr (hv i hi)))
  refine ⟨node_next (l'.ring.nodes b (by simp)), l1 ++ [b], l2, (M b).next, r, by simp, hr, rfl, ?_, l', kk⟩
  rw [keys_snoc]
  exact hown

set_option maxRecDepth 100000 in
theorem keys_any {w : World} {L room h m : Nat} {bs : List Nat} {M : Nat → Nd} (l : Lru w L room h m bs M) (hb : bs.length ≤ 1048576) :
    Calls Tryz.prog 23 #[ptr L] w fun e w' => KeysPost w L room (stOf bs M) (foot L h m bs) e w' := by
  have c1 := l.c1
  have cn := node_next (l.ring.nodes h (by simp))
  have HL := Lib.hid l
  have hlt := Lib.hid l.lt
  clear l
  go_enter Tryz.func23, Tryz.ntmps23
  go_wp2
  go_loopw [3, 4] (fun v t wr => KeysRel w L room h m bs M v t wr) (fun _ t _ => restOf bs t)
  case atStart =>
    obtain ⟨r, hr⟩ := links_first HL.out.ring.links
    exact ⟨[], bs, _, r, rfl, hr, rfl, Own.nil _ _, HL.out, Keeps.refl _ _⟩
  case round =>
    obtain ⟨l1, l2, c, r, rfl, hc, rfl, hown, l, hk⟩ := hrel
    clear c1 cn
    have c1 := l.c1
    cases l2 with
    | nil =>
      simp only [List.nil_append, List.cons.injEq] at hc
      obtain ⟨rfl, _⟩ := hc
      obtain ⟨q1, q2⟩ := eq_head h wr
      have E := Lib.hid (show KeysPost w L room (stOf (l1 ++ []) M) (foot L h m (l1 ++ [])) (.returned u3) wr from ⟨u3, rfl, by rw [List.append_nil]; exact hown, l.st, hk⟩)
      clear hown l hk HL hlt
      go_wp2
      go_ret
      exact E.out
    | cons b l2 =>
      simp only [List.cons_append, List.cons.injEq] at hc
      obtain ⟨rfl, _⟩ := hc
      obtain ⟨q1, q2⟩ := l.neq_head (b := b) (by simp) wr rfl
      have cb := l.ring.nodes b (by simp)
      have ck := node_key cb
      have hblt := block_lt cb
      have hLlt := l.L_lt
      have ho := hown.keep (F := fun _ => False) ((Keeps.refl _ wr).alloc (.cells #[num (M b).key] 3)) (fun _ _ hf => hf)
      have hn := alloc_new wr (.cells #[num (M b).key] 3)
      have hlen : (keysOf (stOf l1 M)).length ≤ 1048576 := by rw [keys_len]; simp at hb; omega
      have hB : w.heap.size ≤ (wr.alloc (.cells #[num (M b).key] 3)).heap.size := by rw [size_alloc]; have := hk.size; omega
      have ST := Lib.hid (fun g cap w1 => keys_step (w1 := w1) (g := g) (cap := cap) l hk hlt.out (fun q hq => (hown.lt hq).1) (.cells #[num (M b).key] 3))
      have NP := Lib.hid (links_next l.ring.links)
      have ND := Lib.hid l.ring.nodup
      have hb' := Lib.hid hb
      have HO := Lib.hid ho
      have HN := Lib.hid hn
      clear ho hn hk hown l HL hlt cb hb
      go_wp2_with (at_builtin; refine wpList_append_num rfl _ _ rfl w.heap.size u3 (keysOf (stOf l1 M)) rfl HO.out wr.heap.size (M b).key rfl HN.out hlen hB ?_; intro g cap w1 h1 h2 h3; have HH := ST.out g cap w1 h1 h2; have cnx := HH.1; have RL := Lib.hid HH.2; clear h1 h2 h3 HH ST HO HN q1 q2 c1 ck hlen hB hblt hLlt)
      go_roundw
      case rel => exact RL.out
      case measure =>
        obtain ⟨r', hr'⟩ := NP.out
        obtain ⟨i1, i2⟩ := idx_next ND.out hr'
        have hl : l1.length < (l1 ++ b :: l2).length := by simp
        show (l1 ++ b :: l2).length - (l1 ++ b :: l2).idxOf (M b).next < (l1 ++ b :: l2).length - (l1 ++ b :: l2).idxOf b
        omega

end Go.Proofs.YtdilchcnfnfdiaaGreatDoor
namespace Go.Proofs.YtdilchcnfnfdiaaGreatDoor
open Go.RowKit

/-- Since the world w0 a list was made; it lies at L and holds st; nothing of w0 has turned. -/
def St (w0 w : World) (L room : Nat) (st : List (Int × Int)) : Prop := ∃ F, LruSt w L room st F ∧ (∀ b ∈ F, w0.heap.size ≤ b) ∧ Below w0.heap.size w0 w

theorem St.below {w0 w : World} {L room : Nat} {st : List (Int × Int)} (s : St w0 w L room st) : Below w0.heap.size w0 w := by
  obtain ⟨F, _, _, h⟩ := s
  exact h
theorem below_trans_keeps {B : Nat} {a b c : World} {F : Nat → Prop} (h : Below B a b) (k : Keeps F b c) (hF : ∀ i, F i → B ≤ i) (hB : B ≤ b.heap.size) : Below B a c := h.trans (k.below hF hB)
theorem St.post {w0 w w' : World} {L room : Nat} {st st' : List (Int × Int)} {F : List Nat} (_ : LruSt w L room st F) (hF : ∀ b ∈ F, w0.heap.size ≤ b) (hb : Below w0.heap.size w0 w) (p : LruPost w w' L room st' F) : St w0 w' L room st' := by
  obtain ⟨F', s', h', k'⟩ := p
  have hs := hb.size
  exact ⟨F', s', fun b hb' => by rcases h' b hb' with h | h; exact hF b h; omega, below_trans_keeps hb k' hF hs⟩
theorem St.keep {w0 w w' : World} {L room : Nat} {st : List (Int × Int)} (s : St w0 w L room st) (k : Keeps (fun _ => False) w w') : St w0 w' L room st := by
  obtain ⟨F, ⟨h, m, bs, M, l, e1, e2⟩, hF, hb⟩ := s
  exact ⟨F, ⟨h, m, bs, M, l.keep k (fun _ _ h => h), e1, e2⟩, hF, below_trans_keeps hb k (fun _ h => h.elim) hb.size⟩
theorem St.drewN {w0 w : World} {L room : Nat} {st : List (Int × Int)} (s : St w0 w L room st) (n : Nat) : St w0 (w.drewN n) L room st := s.keep ((Keeps.refl _ w).drewN n)
theorem St.alloc {w0 w : World} {L room : Nat} {st : List (Int × Int)} (s : St w0 w L room st) (o : Obj) : St w0 (w.alloc o) L room st := s.keep ((Keeps.refl _ w).alloc o)
theorem St.cell {w0 w : World} {L room : Nat} {st : List (Int × Int)} (s : St w0 w L room st) : ∃ cs, w.heap[L]? = some (.cells cs TL (0, 0)) := by
  obtain ⟨F, ⟨h, m, bs, M, l, e1, e2⟩, hF, hb⟩ := s
  exact ⟨_, l.lst⟩

section
variable {w0 w : World} {L room : Nat} {st : List (Int × Int)}

theorem s_new (n : Nat) (w : World) (h1 : 1 ≤ n) (h2 : n ≤ 64) : Calls Tryz.prog 18 #[num n] w fun e w' => ∃ L, e = .returned (ptr L) ∧ St w w' L n [] := by
  refine (new_st n w h1 h2).mono ?_
  rintro e w' ⟨L, F, rfl, s, hF, hb⟩
  exact ⟨L, rfl, F, s, hF, hb⟩

/-- .. made behind other work: what was there stays. -/
theorem s_new_at (n : Nat) (w0 w : World) (hb : Below w0.heap.size w0 w) (h1 : 1 ≤ n) (h2 : n ≤ 64) : Calls Tryz.prog 18 #[num n] w fun e w' => ∃ L, e = .returned (ptr L) ∧ St w0 w' L n [] := by
  refine (new_st n w h1 h2).mono ?_
  rintro e w' ⟨L, F, rfl, s, hF, hb'⟩
  have := hb.size
  exact ⟨L, rfl, F, s, fun b h => Nat.le_trans this (hF b h), hb.trans (hb'.mono this)⟩

theorem s_put (s : St w0 w L room st) (k : Int) : Calls Tryz.prog 19 #[ptr L, num k] w fun e w' =>
    e = .returned (.tuple #[num (putR room k st).2.1, .bool (putR room k st).2.2.1, num (putR room k st).2.2.2]) ∧ St w0 w' L room (putR room k st).1 := by
  obtain ⟨F, s, hF, hb⟩ := s
  refine (put_st s k).mono ?_
  rintro e w' ⟨rfl, p⟩
  exact ⟨rfl, St.post s hF hb p⟩
theorem s_get (s : St w0 w L room st) (k : Int) : Calls Tryz.prog 21 #[ptr L, num k] w fun e w' => e = .returned (.bool (hasK k st)) ∧ St w0 w' L room (getSt k st) := by
  obtain ⟨F, s, hF, hb⟩ := s
  refine (get_st s k).mono ?_
  rintro e w' ⟨rfl, p⟩
  exact ⟨rfl, St.post s hF hb p⟩
theorem s_pin (s : St w0 w L room st) (k : Int) : Calls Tryz.prog 20 #[ptr L, num k] w fun e w' => e = .returned (num (if hasK k st then 0 else 3)) ∧ St w0 w' L room (pinSt k st) := by
  obtain ⟨F, s, hF, hb⟩ := s
  refine (pin_st s k).mono ?_
  rintro e w' ⟨rfl, p⟩
  exact ⟨rfl, St.post s hF hb p⟩
theorem s_pinned (s : St w0 w L room st) (k : Int) : Calls Tryz.prog 22 #[ptr L, num k] w fun e w' => e = .returned (num (pinsK k st)) ∧ St w0 w' L room st := by
  obtain ⟨F, s, hF, hb⟩ := s
  refine (pinned_st s k).mono ?_
  rintro e w' ⟨rfl, p⟩
  exact ⟨rfl, St.post s hF hb p⟩
theorem s_drop (s : St w0 w L room st) (k : Int) : Calls Tryz.prog 49 #[ptr L, num k] w fun e w' => e = .returned (num (dropE k st)) ∧ St w0 w' L room (dropSt k st) := by
  obtain ⟨F, s, hF, hb⟩ := s
  refine (drop_st s k).mono ?_
  rintro e w' ⟨v, rfl, rfl, p⟩
  exact ⟨rfl, St.post s hF hb p⟩
theorem s_keys (s : St w0 w L room st) (hr : st.length ≤ 1048576) : Calls Tryz.prog 23 #[ptr L] w fun e w' => ∃ v, e = .returned v ∧ Own w' w.heap.size v (keysOf st) ∧ St w0 w' L room st := by
  obtain ⟨F, ⟨h, m, bs, M, l, rfl, rfl⟩, hF, hb⟩ := s
  refine (keys_any l (by simpa [stOf] using hr)).mono ?_
  rintro e w' ⟨v, rfl, ho, s', k⟩
  exact ⟨v, rfl, ho, _, s', hF, below_trans_keeps hb k (fun _ h => h.elim) hb.size⟩
end

end Go.Proofs.YtdilchcnfnfdiaaGreatDoor
