/- Layer 14's methods New, Get, Pin, Unpin, Pinned, Drop: what each answers and leaves, said of the list of its keys and pins. -/
import Derived.Test.YtmdpnilokodbpaaLruW
namespace Go.Proofs.Ytmdpnilokodbpaa
open Go.RowKit
open Go.ChangeMaps (setBlock)

section
variable {w : World} {L room h m n : Nat} {bs l1 l2 : List Nat} {M : Nat → Nd} {k : Int}

theorem Lru.look_hit (l : Lru w L room h m (l1 ++ n :: l2) M) (hk : (M n).key = k) :
    (Instr.lookup 43 (.map (some m)) (num k) true).run Try.prog w = .ok (.tuple #[ptr n, .bool true]) w := by
  subst hk
  obtain ⟨kvs, hm, hp⟩ := l.map
  obtain ⟨k1, k2, e, hk1, _⟩ := kvs_split hp l.keys
  exact hm.look_hit Try.uMap Try.uInt e hk1
theorem Lru.look_miss (l : Lru w L room h m bs M) (hk : ∀ b ∈ bs, (M b).key ≠ k) :
    (Instr.lookup 43 (.map (some m)) (num k) true).run Try.prog w = .ok (.tuple #[.pointer none, .bool false]) w := by
  obtain ⟨kvs, hm, hp⟩ := l.map
  exact hm.look_miss Try.uMap Try.uInt (Try.zNode w) (kvs_miss hp hk)
theorem Lru.c0 (l : Lru w L room h m bs M) : w.cell? ⟨L, 0, none⟩ = some (num room) := by rw [cell_blk l.lst]; rfl
theorem Lru.c1 (l : Lru w L room h m bs M) : w.cell? ⟨L, 1, none⟩ = some (ptr h) := by rw [cell_blk l.lst]; rfl
theorem Lru.c2 (l : Lru w L room h m bs M) : w.cell? ⟨L, 2, none⟩ = some (.map (some m)) := by rw [cell_blk l.lst]; rfl
theorem Lru.L_lt (l : Lru w L room h m bs M) : L < w.heap.size := block_lt l.lst
theorem Lru.alloc (l : Lru w L room h m bs M) (o : Obj) : Lru (w.alloc o) L room h m bs M := l.keep (F := fun _ => False) ((Keeps.refl _ w).alloc o) (fun _ _ h => h)
theorem foot_lt (l : Lru w L room h m bs M) {b : Nat} (hb : w.heap.size ≤ b) : b ∉ foot L h m bs := fun hh => by have := l.lt b hh; omega

/-- What a node's neighbours say: its key's pair in the list, split off. -/
theorem st_split (l : Lru w L room h m (l1 ++ n :: l2) M) : stOf (l1 ++ n :: l2) M = stOf l1 M ++ ((M n).key, (M n).pins) :: stOf l2 M ∧ (∀ x ∈ stOf l1 M, x.1 ≠ (M n).key) ∧ (∀ x ∈ stOf l2 M, x.1 ≠ (M n).key) := by
  obtain ⟨a1, a2⟩ := keys_apart l.keys
  exact ⟨by rw [stOf_append, stOf_cons], stOf_apart a1, stOf_apart a2⟩

theorem hit_of (l : Lru w L room h m (l1 ++ n :: l2) M) : hasK (M n).key (stOf (l1 ++ n :: l2) M) = true ∧ pinsK (M n).key (stOf (l1 ++ n :: l2) M) = (M n).pins ∧ rmK (M n).key (stOf (l1 ++ n :: l2) M) = stOf (l1 ++ l2) M := by
  obtain ⟨e, a1, a2⟩ := st_split l
  refine ⟨hasK_true.2 ⟨l1, n, l2, rfl, rfl⟩, ?_, ?_⟩
  · rw [e, pinsK_split a1]
  · rw [e, rmK_split a1 a2, stOf_append]
end

theorem new_walk (n : Int) (w : World) (h1 : 1 ≤ n) (h2 : n ≤ 64) :
    Calls Try.prog 8 #[num n] w fun e w' => e = .returned (ptr (w.heap.size + 1 + 1)) ∧
      w' = ((w.alloc (.cells #[num 0, num 0, ptr w.heap.size, ptr w.heap.size] 47)).alloc (.map #[] 0)).alloc (.cells #[num n, ptr w.heap.size, .map (some (w.heap.size + 1))] 45) := by
  have hmm := @run_makeMap Try.prog
  have d1 : decide (n < 1) = false := by simpa using h1
  have d2 : decide (64 < n) = false := by simpa using h2
  go_enter Try.func8, Try.ntmps8
  go_wp2_with (go_at_call 17; refine (ring_walk _).mono ?_; rintro e w1 ⟨rfl, rfl⟩)
  go_ret
  exact ⟨rfl, rfl⟩

def NewPost (w : World) (n : Nat) (e : Ending) (w' : World) : Prop :=
  ∃ L F, e = .returned (ptr L) ∧ LruSt w' L n [] F ∧ (∀ b ∈ F, w.heap.size ≤ b) ∧ Below w.heap.size w w'

theorem new_st (n : Nat) (w : World) (h1 : 1 ≤ n) (h2 : n ≤ 64) : Calls Try.prog 8 #[num n] w fun e w' => NewPost w n e w' := by
  refine (new_walk n w (by omega) (by omega)).mono ?_
  rintro e w' ⟨rfl, rfl⟩
  have hs := size_alloc
  have a0 := alloc_old (.cells #[num n, ptr w.heap.size, .map (some (w.heap.size + 1))] 45) (alloc_old (.map #[] 0) (alloc_new w (.cells #[num 0, num 0, ptr w.heap.size, ptr w.heap.size] 47)))
  have a1 := alloc_old (.cells #[num n, ptr w.heap.size, .map (some (w.heap.size + 1))] 45) (alloc_new (w.alloc (.cells #[num 0, num 0, ptr w.heap.size, ptr w.heap.size] 47)) (.map #[] 0))
  have a2 := alloc_new ((w.alloc (.cells #[num 0, num 0, ptr w.heap.size, ptr w.heap.size] 47)).alloc (.map #[] 0)) (.cells #[num n, ptr w.heap.size, .map (some (w.heap.size + 1))] 45)
  simp only [hs] at a1 a2
  refine ⟨w.heap.size + 1 + 1, _, rfl, ⟨w.heap.size, w.heap.size + 1, [], fun _ => ⟨0, 0, w.heap.size, w.heap.size⟩, ⟨a2, ⟨[], ⟨#[], 0, a1, rfl⟩, List.Perm.refl _⟩, ⟨?_, ?_, by simp⟩, by simp, by simp⟩, rfl, rfl⟩, ?_, ?_⟩
  · intro b hb
    simp only [List.mem_singleton] at hb
    subst hb
    exact a0
  · exact ⟨rfl, rfl, trivial⟩
  · intro b hb
    simp only [foot, List.mem_cons, List.not_mem_nil, or_false] at hb
    omega
  · exact (((Below.refl _ w).alloc (Nat.le_refl _) _).alloc (by simp [hs]) _).alloc (by simp [hs]; omega) _

theorem get_st {w : World} {L room : Nat} {st : List (Int × Int)} {F : List Nat} (s : LruSt w L room st F) (k : Int) :
    Calls Try.prog 14 #[ptr L, num k] w fun e w' => e = .returned (.bool (hasK k st)) ∧ LruPost w w' L room (getSt k st) F := by
  obtain ⟨h, m, bs, M, l, rfl, rfl⟩ := s
  cases hh : hasK k (stOf bs M) with
  | false =>
    refine (get_walk_miss L m k w l.c2 (l.look_miss (hasK_false.1 hh))).mono ?_
    rintro e w' ⟨rfl, rfl⟩
    refine ⟨rfl, _, ⟨h, m, bs, M, l, ?_, rfl⟩, fun b hb => .inl hb, Keeps.refl _ _⟩
    simp [getSt, hh]
  | true =>
    obtain ⟨l1, n, l2, rfl, rfl⟩ := hasK_true.1 hh
    refine (get_walk_hit _ w l (l.look_hit rfl)).mono ?_
    rintro e w' ⟨rfl, r, kp⟩
    obtain ⟨_, e2, e3⟩ := hit_of l
    have kp' : Keeps (· ∈ foot L h m (l1 ++ n :: l2)) w w' := kp.mono (fun i hi => .inl (by unfold foot; exact List.mem_cons_of_mem _ (List.mem_cons_of_mem _ hi)))
    have hpm : (n :: (l1 ++ l2)).Perm (l1 ++ n :: l2) := List.perm_middle.symm
    refine ⟨rfl, foot L h m (n :: (l1 ++ l2)), ⟨h, m, n :: (l1 ++ l2), behindM (outM M n) n h, ⟨kp.blk l.lst (fun hi => l.L_ne L hi rfl), ?_, r, ?_, ?_⟩, ?_, rfl⟩, ?_, kp'⟩
    · obtain ⟨kvs, hm, hp⟩ := l.map
      refine ⟨kvs, hm.of_heap (kp.block m hm.lt (fun hi => l.m_ne m hi rfl)), ?_⟩
      simp only [behindM_key, outM_key]
      exact hp.trans (hpm.symm.map _)
    · simp only [behindM_key, outM_key]
      exact (hpm.map _).nodup_iff.2 l.keys
    · have := l.len
      simp at this ⊢
      omega
    · rw [getSt, hh, if_pos rfl, e2, e3, stOf_cons]
      simp only [behindM_key, outM_key, behindM_pins, outM_pins]
      rw [stOf_congr (M := M) (M' := behindM (outM M n) n h) (fun b _ => ⟨by simp, by simp⟩)]
    · intro b hb
      left
      simp only [foot, List.mem_cons, List.mem_append] at hb ⊢
      rcases hb with hb | hb | hb | hb | hb | hb <;> simp [hb]

/-! ### Pin, Unpin -/
theorem pin_walk (L m b : Nat) (k p : Int) (w : World) (c2 : w.cell? ⟨L, 2, none⟩ = some (.map (some m)))
    (hl : (Instr.lookup 43 (.map (some m)) (num k) true).run Try.prog w = .ok (.tuple #[ptr b, .bool true]) w)
    (cp : w.cell? ⟨b, 1, none⟩ = some (num p)) (fp : w.frozen? ⟨b, 1, none⟩ = false) :
    Calls Try.prog 12 #[ptr L, num k] w fun e w' => e = .returned (num 0) ∧ w' = w.setCell ⟨b, 1, none⟩ (num (wrap64 (p + 1))) := by
  go_enter Try.func12, Try.ntmps12
  go_wp2
  go_ret
  exact ⟨rfl, rfl⟩
theorem pin_none (L m : Nat) (k : Int) (w : World) (c2 : w.cell? ⟨L, 2, none⟩ = some (.map (some m)))
    (hl : (Instr.lookup 43 (.map (some m)) (num k) true).run Try.prog w = .ok (.tuple #[.pointer none, .bool false]) w) :
    Calls Try.prog 12 #[ptr L, num k] w fun e w' => e = .returned (num 3) ∧ w' = w := by
  go_enter Try.func12, Try.ntmps12
  go_wp2
  go_ret
  exact ⟨rfl, rfl⟩
theorem unpin_walk (L m b : Nat) (k p : Int) (w : World) (c2 : w.cell? ⟨L, 2, none⟩ = some (.map (some m)))
    (hl : (Instr.lookup 43 (.map (some m)) (num k) true).run Try.prog w = .ok (.tuple #[ptr b, .bool true]) w)
    (cp : w.cell? ⟨b, 1, none⟩ = some (num p)) (fp : w.frozen? ⟨b, 1, none⟩ = false) (hp : (p == 0) = false) :
    Calls Try.prog 13 #[ptr L, num k] w fun e w' => e = .returned (num 0) ∧ w' = w.setCell ⟨b, 1, none⟩ (num (wrap64 (p - 1))) := by
  go_enter Try.func13, Try.ntmps13
  go_wp2
  go_ret
  exact ⟨rfl, rfl⟩
theorem unpin_zero (L m b : Nat) (k : Int) (w : World) (c2 : w.cell? ⟨L, 2, none⟩ = some (.map (some m)))
    (hl : (Instr.lookup 43 (.map (some m)) (num k) true).run Try.prog w = .ok (.tuple #[ptr b, .bool true]) w)
    (cp : w.cell? ⟨b, 1, none⟩ = some (num 0)) :
    Calls Try.prog 13 #[ptr L, num k] w fun e w' => e = .returned (num 5) ∧ w' = w := by
  go_enter Try.func13, Try.ntmps13
  go_wp2
  go_ret
  exact ⟨rfl, rfl⟩
theorem unpin_none (L m : Nat) (k : Int) (w : World) (c2 : w.cell? ⟨L, 2, none⟩ = some (.map (some m)))
    (hl : (Instr.lookup 43 (.map (some m)) (num k) true).run Try.prog w = .ok (.tuple #[.pointer none, .bool false]) w) :
    Calls Try.prog 13 #[ptr L, num k] w fun e w' => e = .returned (num 3) ∧ w' = w := by
  go_enter Try.func13, Try.ntmps13
  go_wp2
  go_ret
  exact ⟨rfl, rfl⟩

/-- A node's pins are written. -/
theorem Lru.setPins {w : World} {L room h m n : Nat} {l1 l2 : List Nat} {M : Nat → Nd} (l : Lru w L room h m (l1 ++ n :: l2) M) (v : Int) :
    LruPost w (w.setCell ⟨n, 1, none⟩ (num v)) L room (setK (M n).key v (stOf (l1 ++ n :: l2) M)) (foot L h m (l1 ++ n :: l2)) := by
  have hn : n ∈ h :: (l1 ++ n :: l2) := by simp
  have kp : Keeps (· ∈ foot L h m (l1 ++ n :: l2)) w (w.setCell ⟨n, 1, none⟩ (num v)) := (Keeps.refl _ w).set (.inl (by unfold foot; exact List.mem_cons_of_mem _ (List.mem_cons_of_mem _ hn))) _
  refine ⟨_, ⟨h, m, l1 ++ n :: l2, Go.Proofs.Ytmdpnilokodbpaa.setPins M n v, ⟨?_, ?_, ⟨fun b hb => nodes_pins (l.ring.nodes b hb) v, links_congr _ (fun b _ => by simp) (fun b _ => by simp) l.ring.links, l.ring.nodup⟩, by simpa using l.keys, l.len⟩, ?_, rfl⟩, fun b hb => .inl hb, kp⟩
  · rw [set_far (l.L_ne n hn)]; exact l.lst
  · obtain ⟨kvs, hm, hp⟩ := l.map
    exact ⟨kvs, hm.of_heap (set_far (l.m_ne n hn) _), by simpa using hp⟩
  · obtain ⟨e, a1, a2⟩ := st_split l
    have nd := l.ring.nodup
    have nd' : n ∉ l1 ∧ n ∉ l2 := by
      have h2 := (List.Perm.nodup_iff (List.perm_middle (a := n) (l₁ := h :: l1) (l₂ := l2))).1 nd
      have h3 := (List.nodup_cons.1 h2).1
      simp only [List.cons_append, List.mem_cons, List.mem_append, not_or] at h3
      exact ⟨h3.2.1, h3.2.2⟩
    rw [e, setK_split a1 a2, stOf_append, stOf_cons,
      stOf_congr (M := M) (M' := Go.Proofs.Ytmdpnilokodbpaa.setPins M n v) (l := l1) (fun b hb => ⟨by simp, by rw [setPins_pins, if_neg (by rintro rfl; exact nd'.1 hb)]⟩),
      stOf_congr (M := M) (M' := Go.Proofs.Ytmdpnilokodbpaa.setPins M n v) (l := l2) (fun b hb => ⟨by simp, by rw [setPins_pins, if_neg (by rintro rfl; exact nd'.2 hb)]⟩)]
    simp [setPins_pins]

def pinSt (k : Int) (st : List (Int × Int)) : List (Int × Int) := if hasK k st then setK k (wrap64 (pinsK k st + 1)) st else st
def unpinSt (k : Int) (st : List (Int × Int)) : List (Int × Int) := if hasK k st && pinsK k st != 0 then setK k (wrap64 (pinsK k st - 1)) st else st
def unpinE (k : Int) (st : List (Int × Int)) : Int := if hasK k st then (if pinsK k st == 0 then 5 else 0) else 3

theorem post_same {w : World} {L room : Nat} {st : List (Int × Int)} {F : List Nat} (s : LruSt w L room st F) : LruPost w w L room st F := ⟨F, s, fun _ hb => .inl hb, Keeps.refl _ _⟩
theorem Lru.st {w : World} {L room h m : Nat} {bs : List Nat} {M : Nat → Nd} (l : Lru w L room h m bs M) : LruSt w L room (stOf bs M) (foot L h m bs) := ⟨h, m, bs, M, l, rfl, rfl⟩

theorem pin_st {w : World} {L room : Nat} {st : List (Int × Int)} {F : List Nat} (s : LruSt w L room st F) (k : Int) :
    Calls Try.prog 12 #[ptr L, num k] w fun e w' => e = .returned (num (if hasK k st then 0 else 3)) ∧ LruPost w w' L room (pinSt k st) F := by
  obtain ⟨h, m, bs, M, l, rfl, rfl⟩ := s
  cases hh : hasK k (stOf bs M) with
  | false =>
    refine (pin_none L m k w l.c2 (l.look_miss (hasK_false.1 hh))).mono ?_
    rintro e w' ⟨rfl, rfl⟩
    exact ⟨rfl, by rw [pinSt, hh]; exact post_same l.st⟩
  | true =>
    obtain ⟨l1, n, l2, rfl, rfl⟩ := hasK_true.1 hh
    have hn := l.ring.nodes n (by simp)
    refine (pin_walk L m n _ _ w l.c2 (l.look_hit rfl) (node_pins hn) (free_blk hn _)).mono ?_
    rintro e w' ⟨rfl, rfl⟩
    refine ⟨rfl, ?_⟩
    rw [pinSt, hh, if_pos rfl, (hit_of l).2.1]
    exact l.setPins _

theorem unpin_st {w : World} {L room : Nat} {st : List (Int × Int)} {F : List Nat} (s : LruSt w L room st F) (k : Int) :
    Calls Try.prog 13 #[ptr L, num k] w fun e w' => e = .returned (num (unpinE k st)) ∧ LruPost w w' L room (unpinSt k st) F := by
  obtain ⟨h, m, bs, M, l, rfl, rfl⟩ := s
  cases hh : hasK k (stOf bs M) with
  | false =>
    refine (unpin_none L m k w l.c2 (l.look_miss (hasK_false.1 hh))).mono ?_
    rintro e w' ⟨rfl, rfl⟩
    exact ⟨by simp [unpinE, hh], by rw [unpinSt, hh]; exact post_same l.st⟩
  | true =>
    obtain ⟨l1, n, l2, rfl, rfl⟩ := hasK_true.1 hh
    have hn := l.ring.nodes n (by simp)
    have hp := (hit_of l).2.1
    by_cases h0 : (M n).pins = 0
    · refine (unpin_zero L m n _ w l.c2 (l.look_hit rfl) (by rw [node_pins hn, h0])).mono ?_
      rintro e w' ⟨rfl, rfl⟩
      exact ⟨by simp [unpinE, hh, hp, h0], by rw [unpinSt, hh, hp, h0]; exact post_same l.st⟩
    · refine (unpin_walk L m n _ _ w l.c2 (l.look_hit rfl) (node_pins hn) (free_blk hn _) (by simpa using h0)).mono ?_
      rintro e w' ⟨rfl, rfl⟩
      refine ⟨by simp [unpinE, hh, hp, h0], ?_⟩
      rw [unpinSt, hh, hp, if_pos (by simpa using h0)]
      exact l.setPins _

/-! ### Pinned -/
theorem pinned_walk (L m b : Nat) (k p : Int) (w : World) (hL : L < w.heap.size) (hb : b < w.heap.size) (c2 : w.cell? ⟨L, 2, none⟩ = some (.map (some m)))
    (hl : (Instr.lookup 43 (.map (some m)) (num k) true).run Try.prog (w.alloc (.cells #[num 0] 3)) = .ok (.tuple #[ptr b, .bool true]) (w.alloc (.cells #[num 0] 3)))
    (cp : w.cell? ⟨b, 1, none⟩ = some (num p)) :
    Calls Try.prog 15 #[ptr L, num k] w fun e w' => e = .returned (num p) ∧ w' = w.alloc (.cells #[num p] 3) := by
  go_enter Try.func15, Try.ntmps15
  go_wp2
  exact bodyPost_ret (v := num p) (by simp [results, Try.results15, go_sem]) rfl ⟨rfl, rfl⟩
theorem pinned_none (L m : Nat) (k : Int) (w : World) (hL : L < w.heap.size) (c2 : w.cell? ⟨L, 2, none⟩ = some (.map (some m)))
    (hl : (Instr.lookup 43 (.map (some m)) (num k) true).run Try.prog (w.alloc (.cells #[num 0] 3)) = .ok (.tuple #[.pointer none, .bool false]) (w.alloc (.cells #[num 0] 3))) :
    Calls Try.prog 15 #[ptr L, num k] w fun e w' => e = .returned (num 0) ∧ w' = w.alloc (.cells #[num 0] 3) := by
  go_enter Try.func15, Try.ntmps15
  go_wp2
  exact bodyPost_ret (v := num 0) (by simp [results, Try.results15, go_sem]) rfl ⟨rfl, rfl⟩

theorem pinned_st {w : World} {L room : Nat} {st : List (Int × Int)} {F : List Nat} (s : LruSt w L room st F) (k : Int) :
    Calls Try.prog 15 #[ptr L, num k] w fun e w' => e = .returned (num (pinsK k st)) ∧ LruPost w w' L room st F := by
  obtain ⟨h, m, bs, M, l, rfl, rfl⟩ := s
  cases hh : hasK k (stOf bs M) with
  | false =>
    refine (pinned_none L m k w l.L_lt l.c2 ((l.alloc _).look_miss (hasK_false.1 hh))).mono ?_
    rintro e w' ⟨rfl, rfl⟩
    have hp : pinsK k (stOf bs M) = 0 := by
      have : (stOf bs M).find? (fun x => x.1 == k) = none := List.find?_eq_none.2 (fun x hx => by simpa using stOf_apart (hasK_false.1 hh) x hx)
      simp [pinsK, this]
    exact ⟨by rw [hp], _, (l.alloc _).st, fun _ hb => .inl hb, (Keeps.refl _ w).alloc _⟩
  | true =>
    obtain ⟨l1, n, l2, rfl, rfl⟩ := hasK_true.1 hh
    have hn := l.ring.nodes n (by simp)
    refine (pinned_walk L m n _ _ w l.L_lt (block_lt hn) l.c2 ((l.alloc _).look_hit rfl) (node_pins hn)).mono ?_
    rintro e w' ⟨rfl, rfl⟩
    exact ⟨by rw [(hit_of l).2.1], _, (l.alloc _).st, fun _ hb => .inl hb, (Keeps.refl _ w).alloc _⟩

/-! ### Drop -/
def DropPost (w : World) (L room h m n : Nat) (l1 l2 : List Nat) (M : Nat → Nd) (e : Ending) (w' : World) : Prop :=
  e = .returned (num 0) ∧ Lru w' L room h m (l1 ++ l2) (outM M n) ∧ Keeps (· ∈ foot L h m (l1 ++ n :: l2)) w w'

/-- The region's delete, over a world that is known but for its draws. -/
theorem drop1_tail {w w1 : World} {L room h m n : Nat} {l1 l2 : List Nat} {M : Nat → Nd} (l : Lru w L room h m (l1 ++ n :: l2) M) (r1 : RingAt w1 h (l1 ++ l2) (outM M n)) (k1 : Keeps (· ∈ h :: (l1 ++ n :: l2)) w w1) :
    ∃ o, (∀ W : World, W.heap = w1.heap → ∀ ty, (Builtin.delete_ #[43, 3] ty #[.map (some m), num (M n).key]).run Try.prog W = .ok (.tuple #[]) (setBlock W m o)) ∧
      Lru (setBlock w1.drew m o) L room h m (l1 ++ l2) (outM M n) ∧ Keeps (· ∈ foot L h m (l1 ++ n :: l2)) w (setBlock w1.drew m o) := by
  obtain ⟨kvs, hm, hp⟩ := l.map
  obtain ⟨kv1, kv2, e, hk1, hp2⟩ := kvs_split hp l.keys
  obtain ⟨o, ho⟩ := hm.del Try.uMap Try.uInt e hk1
  have hmn : ¬ m ∈ h :: (l1 ++ n :: l2) := fun hi => l.m_ne m hi rfl
  have hm1 := k1.block m hm.lt hmn
  have kp : Keeps (· ∈ foot L h m (l1 ++ n :: l2)) w (setBlock w1.drew m o) := ((k1.mono (fun i hi => .inl (by unfold foot; exact List.mem_cons_of_mem _ (List.mem_cons_of_mem _ hi)))).drew).setBlock (.inl (by simp [foot])) o
  refine ⟨o, fun W hW ty => (ho W (by rw [hW]; exact hm1)).1 ty, ⟨?_, ⟨kv1 ++ kv2, (ho w1.drew hm1).2, by simpa using hp2⟩, ?_, ?_, ?_⟩, kp⟩
  · rw [heap_setBlock_far o l.Lm]
    exact k1.blk l.lst (fun hi => l.L_ne L hi rfl)
  · refine ⟨fun b hb => ?_, r1.links, r1.nodup⟩
    have hb' : b ∈ h :: (l1 ++ n :: l2) := by
      simp only [List.mem_cons, List.mem_append] at hb ⊢
      rcases hb with hb | hb | hb <;> simp [hb]
    rw [heap_setBlock_far o (Ne.symm (l.m_ne b hb'))]
    exact r1.nodes b hb
  · simp only [outM_key]
    exact (List.Nodup.sublist (List.Sublist.map _ (List.Sublist.append (List.Sublist.refl l1) (List.sublist_cons_self n l2))) l.keys)
  · have := l.len
    simp at this ⊢
    omega

set_option maxRecDepth 100000 in
theorem drop1_walk {L room h m n a c : Nat} {l1 l2 : List Nat} {M : Nat → Nd} (w : World) (l : Lru w L room h m (l1 ++ n :: l2) M) (hp : (M n).pins ≤ 0)
    (ha : w.cell? ⟨a, 0, none⟩ = some (ptr L)) (hc : w.cell? ⟨c, 0, none⟩ = some (num (M n).key)) (haf : a ∉ foot L h m (l1 ++ n :: l2)) (hcf : c ∉ foot L h m (l1 ++ n :: l2)) (hal : a < w.heap.size) (hcl : c < w.heap.size) :
    Calls Try.prog 24 #[ptr n, ptr a, ptr c] w fun e w' => DropPost w L room h m n l1 l2 M e w' := by
  have cp := node_pins (l.ring.nodes n (by simp))
  have up : ∀ b, b ∈ h :: (l1 ++ n :: l2) → b ∈ foot L h m (l1 ++ n :: l2) := fun b hb => by unfold foot; exact List.mem_cons_of_mem _ (List.mem_cons_of_mem _ hb)
  have gt := fun w1 => drop1_tail (w1 := w1) l
  have H := Lib.hid gt
  clear gt
  go_enter Try.func24, Try.ntmps24
  go_wp2_with fail
  refine (out_ring l.ring).mono ?_
  rintro e w1 ⟨⟨rfl, r1, k1, s1⟩, cn⟩
  obtain ⟨o, hd, hl', hk'⟩ := H.out w1 r1 k1
  have ca : w1.cell? ⟨a, 0, none⟩ = some (ptr L) := (World.cell?_of_block (w := w) (k1.block a hal (fun hi => haf (up a hi)))).trans ha
  have cc : w1.cell? ⟨c, 0, none⟩ = some (num (M n).key) := (World.cell?_of_block (w := w) (k1.block c hcl (fun hi => hcf (up c hi)))).trans hc
  have c2 : w1.cell? ⟨L, 2, none⟩ = some (.map (some m)) := (World.cell?_of_block (w := w) (k1.block L l.L_lt (fun hi => l.L_ne L hi rfl))).trans l.c2
  have hd1 := hd w1 rfl
  have hd2 := hd w1.drew rfl
  clear hd ha hc cp
  go_wp2_with fail
  go_region
  all_goals
    go_wp2
    go_ret
    exact ⟨rfl, hl', hk'⟩

set_option maxRecDepth 100000 in
theorem drop1_busy {n a c : Nat} (p : Int) (w : World) (cp : w.cell? ⟨n, 1, none⟩ = some (num p)) (hp : 0 < p) :
    Calls Try.prog 24 #[ptr n, ptr a, ptr c] w fun e w' => e = .returned (num 5) ∧ w' = w := by
  go_enter Try.func24, Try.ntmps24
  go_wp2
  go_ret
  exact ⟨rfl, rfl⟩

theorem drop_none (L m : Nat) (k : Int) (w : World) (hL : L < w.heap.size) (c2 : w.cell? ⟨L, 2, none⟩ = some (.map (some m)))
    (hl : (Instr.lookup 43 (.map (some m)) (num k) true).run Try.prog ((w.alloc (.cells #[ptr L] 24)).alloc (.cells #[num k] 3)) = .ok (.tuple #[.pointer none, .bool false]) ((w.alloc (.cells #[ptr L] 24)).alloc (.cells #[num k] 3))) :
    Calls Try.prog 16 #[ptr L, num k] w fun e w' => e = .returned (num 3) ∧ w' = (w.alloc (.cells #[ptr L] 24)).alloc (.cells #[num k] 3) := by
  go_enter Try.func16, Try.ntmps16
  go_wp2
  go_ret
  exact ⟨rfl, rfl⟩

/-- Drop of a key that is there: what its inner function answers and leaves. -/
theorem drop_there (L m n : Nat) (k : Int) (w : World) (hL : L < w.heap.size) (c2 : w.cell? ⟨L, 2, none⟩ = some (.map (some m)))
    (hl : (Instr.lookup 43 (.map (some m)) (num k) true).run Try.prog ((w.alloc (.cells #[ptr L] 24)).alloc (.cells #[num k] 3)) = .ok (.tuple #[ptr n, .bool true]) ((w.alloc (.cells #[ptr L] 24)).alloc (.cells #[num k] 3)))
    (R : Int → World → Prop)
    (H : Calls Try.prog 24 #[ptr n, ptr w.heap.size, ptr (w.heap.size + 1)] ((w.alloc (.cells #[ptr L] 24)).alloc (.cells #[num k] 3)) fun e w' => ∃ v, e = .returned (num v) ∧ R v w') :
    Calls Try.prog 16 #[ptr L, num k] w fun e w' => ∃ v, e = .returned (num v) ∧ R v w' := by
  have HH := Lib.hid H
  clear H
  go_enter Try.func16, Try.ntmps16
  go_wp2_with fail
  go_in
  go_wp2_with fail
  refine HH.out.mono ?_
  rintro e w' ⟨v, rfl, hv⟩
  go_wp2_with fail
  go_ret
  exact ⟨v, rfl, hv⟩

def dropSt (k : Int) (st : List (Int × Int)) : List (Int × Int) := if hasK k st && decide (pinsK k st ≤ 0) then rmK k st else st
def dropE (k : Int) (st : List (Int × Int)) : Int := if hasK k st then (if pinsK k st ≤ 0 then 0 else 5) else 3

theorem drop_st {w : World} {L room : Nat} {st : List (Int × Int)} {F : List Nat} (s : LruSt w L room st F) (k : Int) :
    Calls Try.prog 16 #[ptr L, num k] w fun e w' => ∃ v, e = .returned (num v) ∧ v = dropE k st ∧ LruPost w w' L room (dropSt k st) F := by
  obtain ⟨h, m, bs, M, l, rfl, rfl⟩ := s
  have l2 := (l.alloc (.cells #[ptr L] 24)).alloc (.cells #[num k] 3)
  have kp : ∀ F : Nat → Prop, Keeps F w ((w.alloc (.cells #[ptr L] 24)).alloc (.cells #[num k] 3)) := fun F => ((Keeps.refl F w).alloc _).alloc _
  cases hh : hasK k (stOf bs M) with
  | false =>
    refine (drop_none L m k w l.L_lt l.c2 (l2.look_miss (hasK_false.1 hh))).mono ?_
    rintro e w' ⟨rfl, rfl⟩
    exact ⟨3, rfl, by simp [dropE, hh], by rw [dropSt, hh]; exact ⟨_, l2.st, fun _ hb => .inl hb, kp _⟩⟩
  | true =>
    obtain ⟨l1, n, l2', rfl, rfl⟩ := hasK_true.1 hh
    obtain ⟨_, e2, e3⟩ := hit_of l
    have up : ∀ b, b ∈ h :: (l1 ++ n :: l2') → b ∈ foot L h m (l1 ++ n :: l2') := fun b hb => by unfold foot; exact List.mem_cons_of_mem _ (List.mem_cons_of_mem _ hb)
    refine drop_there L m n _ w l.L_lt l.c2 (l2.look_hit rfl) _ ?_
    by_cases hp : (M n).pins ≤ 0
    · have ca := alloc_old (.cells #[num (M n).key] 3) (alloc_new w (.cells #[ptr L] 24))
      have cc := alloc_new (w.alloc (.cells #[ptr L] 24)) (.cells #[num (M n).key] 3)
      rw [size_alloc] at cc
      refine (drop1_walk (a := w.heap.size) (c := w.heap.size + 1) _ l2 hp (by rw [cell_blk ca]; rfl) (by rw [cell_blk cc]; rfl) (foot_lt l (Nat.le_refl _)) (foot_lt l (by omega)) (block_lt ca) (block_lt cc)).mono ?_
      rintro e w' ⟨rfl, l', k'⟩
      refine ⟨0, rfl, by simp [dropE, hh, e2, hp], ?_⟩
      rw [dropSt, hh, e2, e3, if_pos (by simpa using hp)]
      refine ⟨_, ⟨h, m, l1 ++ l2', _, l', (stOf_congr (fun b _ => ⟨by simp, by simp⟩)).symm, rfl⟩, fun b hb => .inl ?_, (kp _).trans k' (fun i hi => .inl hi)⟩
      simp only [foot, List.mem_cons, List.mem_append] at hb ⊢
      rcases hb with hb | hb | hb | hb | hb <;> simp [hb]
    · refine (drop1_busy _ _ (node_pins (l2.ring.nodes n (by simp))) (by omega)).mono ?_
      rintro e w' ⟨rfl, rfl⟩
      refine ⟨5, rfl, by simp [dropE, hh, e2, hp], ?_⟩
      rw [dropSt, hh, e2, if_neg (by simpa using hp)]
      exact ⟨_, l2.st, fun _ hb => .inl hb, kp _⟩

end Go.Proofs.Ytmdpnilokodbpaa
