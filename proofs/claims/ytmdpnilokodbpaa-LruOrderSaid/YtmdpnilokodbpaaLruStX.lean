/- A list of layer 14 that a law made itself, beside other blocks of the law's own (X) that no method touches. -/
import Derived.Test.YtmdpnilokodbpaaLruShown
namespace Go.Proofs.Ytmdpnilokodbpaa
open Go.RowKit

def StX (w0 w : World) (L room : Nat) (st : List (Int × Int)) (X : List Nat) : Prop :=
  ∃ F, LruSt w L room st F ∧ (∀ b ∈ F, w0.heap.size ≤ b ∧ b ∉ X) ∧ Below w0.heap.size w0 w ∧ ∀ x ∈ X, x < w.heap.size
/-- What a method leaves. -/
def PostX (w0 w w' : World) (L room : Nat) (st : List (Int × Int)) (X : List Nat) : Prop := StX w0 w' L room st X ∧ ∀ x, x < w0.heap.size ∨ x ∈ X → w'.heap[x]? = w.heap[x]?

section
variable {w0 w w' : World} {L room : Nat} {st st' : List (Int × Int)} {X : List Nat}
theorem StX.below (s : StX w0 w L room st X) : Below w0.heap.size w0 w := by
  obtain ⟨F, _, _, h, _⟩ := s
  exact h
theorem StX.of_st (s : St w0 w L room st) : StX w0 w L room st [] := by
  obtain ⟨F, s, h, b⟩ := s
  exact ⟨F, s, fun b hb => ⟨h b hb, by simp⟩, b, by simp⟩
theorem PostX.of {F : List Nat} (hF : ∀ b ∈ F, w0.heap.size ≤ b ∧ b ∉ X) (hb : Below w0.heap.size w0 w) (hX : ∀ x ∈ X, x < w.heap.size) (p : LruPost w w' L room st' F) : PostX w0 w w' L room st' X := by
  obtain ⟨F', s', h', k'⟩ := p
  have hs := hb.size
  refine ⟨⟨F', s', fun b hb' => ?_, below_trans_keeps hb k' (fun b h => (hF b h).1) hs, fun x hx => Nat.lt_of_lt_of_le (hX x hx) k'.size⟩, fun x hx => ?_⟩
  · rcases h' b hb' with h | h
    · exact hF b h
    · exact ⟨by omega, fun hx => by have := hX b hx; omega⟩
  · rcases hx with hx | hx
    · exact k'.block x (by omega) (fun h => by have := (hF x h).1; omega)
    · exact k'.block x (hX x hx) (fun h => (hF x h).2 hx)
/-- Other work was done: what is new may be guarded too. -/
theorem StX.keep (s : StX w0 w L room st X) (k : Keeps (fun b => b ∈ X) w w') {X' : List Nat} (hX : ∀ x ∈ X', x < w'.heap.size ∧ (x ∈ X ∨ w.heap.size ≤ x)) (h0 : ∀ x ∈ X, w0.heap.size ≤ x) : StX w0 w' L room st X' := by
  obtain ⟨F, ⟨h, m, bs, M, l, e1, e2⟩, hF, hb, hX0⟩ := s
  refine ⟨F, ⟨h, m, bs, M, l.keep k (fun b hb hx => (hF b (by rw [e2]; exact hb)).2 hx), e1, e2⟩, fun b hb' => ⟨(hF b hb').1, fun hx => ?_⟩, below_trans_keeps hb k h0 hb.size, fun x hx => (hX x hx).1⟩
  rcases (hX b hx).2 with h' | h'
  · exact (hF b hb').2 h'
  · have := l.lt b (by rw [← e2]; exact hb')
    omega
theorem StX.same (s : StX w0 w L room st X) (k : Keeps (fun _ => False) w w') {X' : List Nat} (hX : ∀ x ∈ X', x < w'.heap.size ∧ (x ∈ X ∨ w.heap.size ≤ x)) : StX w0 w' L room st X' := by
  obtain ⟨F, ⟨h, m, bs, M, l, e1, e2⟩, hF, hb, hX0⟩ := s
  refine ⟨F, ⟨h, m, bs, M, l.keep k (fun _ _ h => h), e1, e2⟩, fun b hb' => ⟨(hF b hb').1, fun hx => ?_⟩, below_trans_keeps hb k (fun _ h => h.elim) hb.size, fun x hx => (hX x hx).1⟩
  rcases (hX b hx).2 with h' | h'
  · exact (hF b hb').2 h'
  · have := l.lt b (by rw [← e2]; exact hb')
    omega
theorem StX.drewN (s : StX w0 w L room st X) (n : Nat) : StX w0 (w.drewN n) L room st X := by
  have h := s
  obtain ⟨F, _, _, _, hX⟩ := h
  exact s.same ((Keeps.refl _ w).drewN n) (fun x hx => ⟨hX x hx, .inl hx⟩)

theorem x_put (s : StX w0 w L room st X) (k : Int) : Calls Try.prog 9 #[ptr L, num k] w fun e w' =>
    e = .returned (.tuple #[num (putR room k st).2.1, .bool (putR room k st).2.2.1, num (putR room k st).2.2.2]) ∧ PostX w0 w w' L room (putR room k st).1 X := by
  obtain ⟨F, s, hF, hb, hX⟩ := s
  refine (put_st s k).mono ?_
  rintro e w' ⟨rfl, p⟩
  exact ⟨rfl, PostX.of hF hb hX p⟩
theorem x_pinned (s : StX w0 w L room st X) (k : Int) : Calls Try.prog 15 #[ptr L, num k] w fun e w' => e = .returned (num (pinsK k st)) ∧ PostX w0 w w' L room st X := by
  obtain ⟨F, s, hF, hb, hX⟩ := s
  refine (pinned_st s k).mono ?_
  rintro e w' ⟨rfl, p⟩
  exact ⟨rfl, PostX.of hF hb hX p⟩
theorem x_drop (s : StX w0 w L room st X) (k : Int) : Calls Try.prog 16 #[ptr L, num k] w fun e w' => e = .returned (num (dropE k st)) ∧ PostX w0 w w' L room (dropSt k st) X := by
  obtain ⟨F, s, hF, hb, hX⟩ := s
  refine (drop_st s k).mono ?_
  rintro e w' ⟨v, rfl, rfl, p⟩
  exact ⟨rfl, PostX.of hF hb hX p⟩
/-- The keys: a slice of its own, at a block that is new. -/
theorem x_keys (s : StX w0 w L room st X) (hr : st.length ≤ 1048576) : Calls Try.prog 11 #[ptr L] w fun e w' =>
    ∃ v, e = .returned v ∧ Own w' w.heap.size v (keysOf st) ∧ Keeps (fun _ => False) w w' ∧ ∀ X', (∀ x ∈ X', x < w'.heap.size ∧ (x ∈ X ∨ w.heap.size ≤ x)) → StX w0 w' L room st X' := by
  have s' := s
  obtain ⟨F, ⟨h, m, bs, M, l, rfl, rfl⟩, hF, hb, hX⟩ := s
  refine (keys_any l (by simpa [stOf] using hr)).mono ?_
  rintro e w' ⟨v, rfl, ho, _, k⟩
  exact ⟨v, rfl, ho, k, fun X' hX' => s'.same k hX'⟩
end

end Go.Proofs.Ytmdpnilokodbpaa
