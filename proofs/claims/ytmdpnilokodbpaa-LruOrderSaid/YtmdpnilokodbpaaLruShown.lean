/- A list of layer 14 that a law made itself: each method once more, said from the law's own first world on; what 'shown' answers. -/
import Derived.Test.YtmdpnilokodbpaaLruKeys
namespace Go.Proofs.Ytmdpnilokodbpaa
open Go.RowKit

/-- Since the world w0 a list was made; it lies at L and holds st; nothing of w0 has turned. -/
def St (w0 w : World) (L room : Nat) (st : List (Int × Int)) : Prop := ∃ F, LruSt w L room st F ∧ (∀ b ∈ F, w0.heap.size ≤ b) ∧ Below w0.heap.size w0 w

theorem St.below {w0 w : World} {L room : Nat} {st : List (Int × Int)} (s : St w0 w L room st) : Below w0.heap.size w0 w := by
  obtain ⟨F, _, _, h⟩ := s
  exact h
theorem below_trans_keeps {B : Nat} {a b c : World} {F : Nat → Prop} (h : Below B a b) (k : Keeps F b c) (hF : ∀ i, F i → B ≤ i) (hB : B ≤ b.heap.size) : Below B a c := h.trans (k.below hF hB)
theorem St.post {w0 w w' : World} {L room : Nat} {st st' : List (Int × Int)} {F : List Nat} (_ : LruSt w L room st F) (hF : ∀ b ∈ F, w0.heap.size ≤ b) (hb : Below w0.heap.size w0 w) (p : LruPost w w' L room st' F) : St w0 w' L room st' := by
  obtain ⟨F', s', h', k'⟩ := p
  have hs := hb.size
  exact ⟨F', s', fun b hb' => by rcases h' b hb' with h | h; exact hF b h; omega, below_trans_keeps hb k' hF hs⟩
theorem St.keep {w0 w w' : World} {L room : Nat} {st : List (Int × Int)} (s : St w0 w L room st) (k : Keeps (fun _ => False) w w') : St w0 w' L room st := by
  obtain ⟨F, ⟨h, m, bs, M, l, e1, e2⟩, hF, hb⟩ := s
  exact ⟨F, ⟨h, m, bs, M, l.keep k (fun _ _ h => h), e1, e2⟩, hF, below_trans_keeps hb k (fun _ h => h.elim) hb.size⟩
theorem St.drewN {w0 w : World} {L room : Nat} {st : List (Int × Int)} (s : St w0 w L room st) (n : Nat) : St w0 (w.drewN n) L room st := s.keep ((Keeps.refl _ w).drewN n)
theorem St.alloc {w0 w : World} {L room : Nat} {st : List (Int × Int)} (s : St w0 w L room st) (o : Obj) : St w0 (w.alloc o) L room st := s.keep ((Keeps.refl _ w).alloc o)
theorem St.cell {w0 w : World} {L room : Nat} {st : List (Int × Int)} (s : St w0 w L room st) : ∃ cs, w.heap[L]? = some (.cells cs TL (0, 0)) := by
  obtain ⟨F, ⟨h, m, bs, M, l, e1, e2⟩, hF, hb⟩ := s
  exact ⟨_, l.lst⟩

section
variable {w0 w : World} {L room : Nat} {st : List (Int × Int)}

theorem s_new (n : Nat) (w : World) (h1 : 1 ≤ n) (h2 : n ≤ 64) : Calls Try.prog 8 #[num n] w fun e w' => ∃ L, e = .returned (ptr L) ∧ St w w' L n [] := by
  refine (new_st n w h1 h2).mono ?_
  rintro e w' ⟨L, F, rfl, s, hF, hb⟩
  exact ⟨L, rfl, F, s, hF, hb⟩

/-- .. made behind other work: what was there stays. -/
theorem s_new_at (n : Nat) (w0 w : World) (hb : Below w0.heap.size w0 w) (h1 : 1 ≤ n) (h2 : n ≤ 64) : Calls Try.prog 8 #[num n] w fun e w' => ∃ L, e = .returned (ptr L) ∧ St w0 w' L n [] := by
  refine (new_st n w h1 h2).mono ?_
  rintro e w' ⟨L, F, rfl, s, hF, hb'⟩
  have := hb.size
  exact ⟨L, rfl, F, s, fun b h => Nat.le_trans this (hF b h), hb.trans (hb'.mono this)⟩

theorem s_put (s : St w0 w L room st) (k : Int) : Calls Try.prog 9 #[ptr L, num k] w fun e w' =>
    e = .returned (.tuple #[num (putR room k st).2.1, .bool (putR room k st).2.2.1, num (putR room k st).2.2.2]) ∧ St w0 w' L room (putR room k st).1 := by
  obtain ⟨F, s, hF, hb⟩ := s
  refine (put_st s k).mono ?_
  rintro e w' ⟨rfl, p⟩
  exact ⟨rfl, St.post s hF hb p⟩
theorem s_get (s : St w0 w L room st) (k : Int) : Calls Try.prog 14 #[ptr L, num k] w fun e w' => e = .returned (.bool (hasK k st)) ∧ St w0 w' L room (getSt k st) := by
  obtain ⟨F, s, hF, hb⟩ := s
  refine (get_st s k).mono ?_
  rintro e w' ⟨rfl, p⟩
  exact ⟨rfl, St.post s hF hb p⟩
theorem s_pin (s : St w0 w L room st) (k : Int) : Calls Try.prog 12 #[ptr L, num k] w fun e w' => e = .returned (num (if hasK k st then 0 else 3)) ∧ St w0 w' L room (pinSt k st) := by
  obtain ⟨F, s, hF, hb⟩ := s
  refine (pin_st s k).mono ?_
  rintro e w' ⟨rfl, p⟩
  exact ⟨rfl, St.post s hF hb p⟩
theorem s_unpin (s : St w0 w L room st) (k : Int) : Calls Try.prog 13 #[ptr L, num k] w fun e w' => e = .returned (num (unpinE k st)) ∧ St w0 w' L room (unpinSt k st) := by
  obtain ⟨F, s, hF, hb⟩ := s
  refine (unpin_st s k).mono ?_
  rintro e w' ⟨rfl, p⟩
  exact ⟨rfl, St.post s hF hb p⟩
theorem s_pinned (s : St w0 w L room st) (k : Int) : Calls Try.prog 15 #[ptr L, num k] w fun e w' => e = .returned (num (pinsK k st)) ∧ St w0 w' L room st := by
  obtain ⟨F, s, hF, hb⟩ := s
  refine (pinned_st s k).mono ?_
  rintro e w' ⟨rfl, p⟩
  exact ⟨rfl, St.post s hF hb p⟩
theorem s_drop (s : St w0 w L room st) (k : Int) : Calls Try.prog 16 #[ptr L, num k] w fun e w' => e = .returned (num (dropE k st)) ∧ St w0 w' L room (dropSt k st) := by
  obtain ⟨F, s, hF, hb⟩ := s
  refine (drop_st s k).mono ?_
  rintro e w' ⟨v, rfl, rfl, p⟩
  exact ⟨rfl, St.post s hF hb p⟩
theorem s_keys (s : St w0 w L room st) (hr : st.length ≤ 1048576) : Calls Try.prog 11 #[ptr L] w fun e w' => ∃ v, e = .returned v ∧ Own w' w.heap.size v (keysOf st) ∧ St w0 w' L room st := by
  obtain ⟨F, ⟨h, m, bs, M, l, rfl, rfl⟩, hF, hb⟩ := s
  refine (keys_any l (by simpa [stOf] using hr)).mono ?_
  rintro e w' ⟨v, rfl, ho, s', k⟩
  exact ⟨v, rfl, ho, _, s', hF, below_trans_keeps hb k (fun _ h => h.elim) hb.size⟩
end

theorem own_lit (w : World) (x : Int) : Own (w.alloc (.cells #[num x] 3)) w.heap.size (.slice (some ⟨w.heap.size, 0, none⟩) 1 1) [x] :=
  ⟨rfl, .inr ⟨w.heap.size, 1, #[num x], rfl, Nat.le_refl _, alloc_new w _, Nat.le_refl 1, by unfold maxLen; omega, rfl, rfl⟩⟩

set_option maxRecDepth 100000 in
theorem shown_any (w : World) : Calls Try.prog 7 #[] w fun e w' => e = .returned (.bool true) ∧ Below w.heap.size w w' := by
  have H1 := Lib.hid (s_new 1 w (by omega) (by omega))
  go_enter Try.func7, Try.ntmps7
  go_wp2_with fail
  refine H1.out.mono ?_
  rintro e w1 ⟨L, rfl, s1⟩
  clear H1
  go_wp2_with fail
  refine (s_put s1 1).mono ?_
  rw [show putR 1 1 [] = ([(1, 0)], 0, false, 0) from rfl]
  rintro e w2 ⟨rfl, s2⟩
  clear s1
  go_wp2_with fail
  refine (s_put s2 2).mono ?_
  rw [show putR 1 2 [(1, 0)] = ([(2, 0)], 1, true, 0) from rfl]
  rintro e w3 ⟨rfl, s3⟩
  clear s2
  go_wp2_with fail
  refine (s_keys s3 (by decide)).mono ?_
  rw [show keysOf [((2 : Int), (0 : Int))] = [2] from rfl]
  rintro e w4 ⟨v, rfl, ho, s4⟩
  have s5 := s4.alloc (.cells #[num 2] 3)
  have ho' := ho.keep (F := fun _ => False) ((Keeps.refl _ w4).alloc (.cells #[num 2] 3)) (fun _ _ h => h)
  have SM := Lib.hid (same_any ho' (own_lit w4 2) (by decide) (by decide))
  have S5 := Lib.hid s5.below
  clear s3 s4 s5 ho ho'
  go_wp2_with fail
  refine SM.out.mono ?_
  rintro e w5 ⟨he, n, rfl⟩
  obtain rfl : e = .returned (.bool true) := he.trans (by simp)
  go_wp2_with fail
  go_ret
  exact ⟨rfl, S5.out.trans ⟨rfl, rfl, rfl, Nat.le_refl _, fun _ _ => rfl⟩⟩

end Go.Proofs.Ytmdpnilokodbpaa
