/- A ring of nodes, linked both ways, in plain Lean: what holds when a node is taken out of it and when one is laid behind its head. -/
import Derived.Test.YtdilchcnfnfdiaaGreatDoorMem
namespace Go.Proofs.YtdilchcnfnfdiaaGreatDoor

structure Nd where
  key : Int
  pins : Int
  prev : Nat
  next : Nat

def upd (M : Nat → Nd) (p : Nat) (d : Nd) : Nat → Nd := fun b => if b = p then d else M b
def setNext (M : Nat → Nd) (p x : Nat) : Nat → Nd := upd M p { M p with next := x }
def setPrev (M : Nat → Nd) (p x : Nat) : Nat → Nd := upd M p { M p with prev := x }
def setPins (M : Nat → Nd) (p : Nat) (v : Int) : Nat → Nd := upd M p { M p with pins := v }

@[simp] theorem setNext_key (M : Nat → Nd) (p x b : Nat) : (setNext M p x b).key = (M b).key := by unfold setNext upd; split <;> simp_all
@[simp] theorem setNext_pins (M : Nat → Nd) (p x b : Nat) : (setNext M p x b).pins = (M b).pins := by unfold setNext upd; split <;> simp_all
@[simp] theorem setNext_prev (M : Nat → Nd) (p x b : Nat) : (setNext M p x b).prev = (M b).prev := by unfold setNext upd; split <;> simp_all
theorem setNext_next (M : Nat → Nd) (p x b : Nat) : (setNext M p x b).next = if b = p then x else (M b).next := by unfold setNext upd; split <;> simp_all
@[simp] theorem setPrev_key (M : Nat → Nd) (p x b : Nat) : (setPrev M p x b).key = (M b).key := by unfold setPrev upd; split <;> simp_all
@[simp] theorem setPrev_pins (M : Nat → Nd) (p x b : Nat) : (setPrev M p x b).pins = (M b).pins := by unfold setPrev upd; split <;> simp_all
@[simp] theorem setPrev_next (M : Nat → Nd) (p x b : Nat) : (setPrev M p x b).next = (M b).next := by unfold setPrev upd; split <;> simp_all
theorem setPrev_prev (M : Nat → Nd) (p x b : Nat) : (setPrev M p x b).prev = if b = p then x else (M b).prev := by unfold setPrev upd; split <;> simp_all
@[simp] theorem setPins_key (M : Nat → Nd) (p : Nat) (v : Int) (b : Nat) : (setPins M p v b).key = (M b).key := by unfold setPins upd; split <;> simp_all
@[simp] theorem setPins_prev (M : Nat → Nd) (p : Nat) (v : Int) (b : Nat) : (setPins M p v b).prev = (M b).prev := by unfold setPins upd; split <;> simp_all
@[simp] theorem setPins_next (M : Nat → Nd) (p : Nat) (v : Int) (b : Nat) : (setPins M p v b).next = (M b).next := by unfold setPins upd; split <;> simp_all
theorem setPins_pins (M : Nat → Nd) (p : Nat) (v : Int) (b : Nat) : (setPins M p v b).pins = if b = p then v else (M b).pins := by unfold setPins upd; split <;> simp_all

/-- Each node of the list leads to the one behind it, and back. -/
def Links (M : Nat → Nd) : List Nat → Prop
  | a :: b :: r => (M a).next = b ∧ (M b).prev = a ∧ Links M (b :: r)
  | _ => True

theorem links_split {M : Nat → Nd} : ∀ (l : List Nat) (a : Nat) (r : List Nat), Links M (l ++ a :: r) ↔ Links M (l ++ [a]) ∧ Links M (a :: r)
  | [], a, r => by simp [Links]
  | [c], a, r => by simp [Links, and_assoc]
  | c :: d :: l, a, r => by
    have ih := links_split (M := M) (d :: l) a r
    simp only [List.cons_append, Links] at ih ⊢
    rw [ih]
    simp [and_assoc]

theorem links_congr {M M' : Nat → Nd} : ∀ (l : List Nat), (∀ b ∈ l.dropLast, (M' b).next = (M b).next) → (∀ b ∈ l.tail, (M' b).prev = (M b).prev) → Links M l → Links M' l
  | [], _, _, _ => trivial
  | [_], _, _, _ => trivial
  | a :: b :: r, hn, hp, h => by
    refine ⟨(hn a (by simp)).trans h.1, (hp b (by simp)).trans h.2.1, links_congr (b :: r) (fun c hc => hn c (by simp [List.dropLast_cons_cons, hc])) (fun c hc => hp c ?_) h.2.2⟩
    simp only [List.tail_cons] at hc ⊢
    exact List.mem_cons_of_mem _ hc

/-- The last one of a list that is not empty. -/
theorem snoc_of : ∀ (a : Nat) (l : List Nat), ∃ l' p, a :: l = l' ++ [p]
  | a, [] => ⟨[], a, rfl⟩
  | a, b :: l => by
    obtain ⟨l', p, e⟩ := snoc_of b l
    exact ⟨a :: l', p, by rw [e]; rfl⟩

theorem links_ends {M : Nat → Nd} {h n : Nat} {l1 l2 : List Nat} (H : Links M (h :: (l1 ++ n :: l2) ++ [h])) :
    ∃ L0 p x R0, h :: l1 = L0 ++ [p] ∧ l2 ++ [h] = x :: R0 ∧ (M n).prev = p ∧ (M n).next = x ∧ (M p).next = n ∧ (M x).prev = n ∧ Links M (L0 ++ [p]) ∧ Links M (x :: R0) := by
  obtain ⟨L0, p, e1⟩ := snoc_of h l1
  obtain ⟨x, R0, e2⟩ : ∃ x R0, l2 ++ [h] = x :: R0 := by cases l2 <;> simp
  have e : h :: (l1 ++ n :: l2) ++ [h] = (L0 ++ [p]) ++ n :: x :: R0 := by rw [← e1, ← e2]; simp
  rw [e, links_split] at H
  obtain ⟨h1, h2⟩ := H
  rw [List.append_assoc] at h1
  rw [show L0 ++ ([p] ++ [n]) = L0 ++ p :: [n] from rfl, links_split] at h1
  refine ⟨L0, p, x, R0, e1, e2, h1.2.2.1, h2.1, h1.2.1, h2.2.1, h1.1, h2.2.2⟩

def outM (M : Nat → Nd) (n : Nat) : Nat → Nd := setPrev (setNext M (M n).prev (M n).next) (M n).next (M n).prev

theorem links_out {M : Nat → Nd} {h n : Nat} {l1 l2 : List Nat} (hnd : (h :: (l1 ++ n :: l2)).Nodup) (H : Links M (h :: (l1 ++ n :: l2) ++ [h])) :
    Links (outM M n) (h :: (l1 ++ l2) ++ [h]) := by
  obtain ⟨L0, p, x, R0, e1, e2, hp, hx, _, _, hl, hr⟩ := links_ends H
  have e : h :: (l1 ++ l2) ++ [h] = L0 ++ p :: (x :: R0) := by
    have : h :: (l1 ++ l2) ++ [h] = (h :: l1) ++ (l2 ++ [h]) := by simp
    rw [this, e1, e2]; simp
  have hnd' : ((h :: l1) ++ (n :: l2)).Nodup := by simpa using hnd
  rw [List.nodup_append] at hnd'
  obtain ⟨nd1, nd2, nd3⟩ := hnd'
  have pm : p ∈ h :: l1 := by rw [e1]; simp
  rw [e, links_split]
  unfold outM
  rw [hp, hx]
  refine ⟨links_congr _ ?_ ?_ hl, ?_, ?_, links_congr _ ?_ ?_ hr⟩
  · intro b hb
    rw [List.dropLast_concat] at hb
    rw [setPrev_next, setNext_next, if_neg]
    rintro rfl
    rw [e1, List.nodup_append] at nd1
    exact nd1.2.2 b hb b (by simp) rfl
  · intro b hb
    rw [setPrev_prev, setNext_prev, if_neg]
    rintro rfl
    have hb1 : b ∈ l1 := by rw [← e1] at hb; simpa using hb
    have hb2 : b ∈ l2 ++ [h] := by rw [e2]; simp
    rcases List.mem_append.1 hb2 with hb2 | hb2
    · exact nd3 b (by simp [hb1]) b (by simp [hb2]) rfl
    · simp only [List.mem_singleton] at hb2
      subst hb2
      rw [List.nodup_cons] at nd1
      exact nd1.1 hb1
  · rw [setPrev_next, setNext_next, if_pos rfl]
  · rw [setPrev_prev, if_pos rfl]
  · intro b hb
    rw [setPrev_next, setNext_next, if_neg]
    rintro rfl
    rw [← e2, List.dropLast_concat] at hb
    exact nd3 b pm b (by simp [hb]) rfl
  · intro b hb
    rw [setPrev_prev, setNext_prev, if_neg]
    rintro rfl
    have : (l2 ++ [h]).Nodup := by
      rw [List.nodup_append]
      rw [List.nodup_cons] at nd2
      exact ⟨nd2.2, by simp, fun a ha c hc => by simp only [List.mem_singleton] at hc; subst hc; rintro rfl; exact nd3 a (by simp) a (by simp [ha]) rfl⟩
    rw [e2, List.nodup_cons] at this
    exact this.1 hb

def behindM (M : Nat → Nd) (n h : Nat) : Nat → Nd :=
  setPrev (setNext (setNext (setPrev M n h) n (M h).next) h n) (M h).next n

theorem links_behind {M : Nat → Nd} {h n : Nat} {bs : List Nat} (hn : n ∉ h :: bs) (hnd : (h :: bs).Nodup) (H : Links M (h :: bs ++ [h])) : Links (behindM M n h) (h :: n :: bs ++ [h]) := by
  obtain ⟨x, R0, e2⟩ : ∃ x R0, bs ++ [h] = x :: R0 := by cases bs <;> simp
  have hnh : n ≠ h := by rintro rfl; exact hn (by simp)
  have hnb : n ∉ bs := fun hb => hn (by simp [hb])
  rw [List.nodup_cons] at hnd
  have hh : (M h).next = x ∧ Links M (x :: R0) := by rw [List.cons_append, e2] at H; exact ⟨H.1, H.2.2⟩
  have hnx : n ≠ x := by
    rintro rfl
    have : n ∈ bs ++ [h] := by rw [e2]; simp
    simp [hnh, hnb] at this
  have nd : (x :: R0).Nodup := by
    rw [← e2, List.nodup_append]
    exact ⟨hnd.2, by simp, fun a ha c hc => by simp only [List.mem_singleton] at hc; subst hc; rintro rfl; exact hnd.1 ha⟩
  rw [List.nodup_cons] at nd
  have e : h :: n :: bs ++ [h] = h :: n :: x :: R0 := by simp only [List.cons_append]; rw [e2]
  rw [e]
  unfold behindM
  rw [hh.1]
  refine ⟨?_, ?_, ?_, ?_, links_congr _ ?_ ?_ hh.2⟩
  · simp [setNext_next]
  · rw [setPrev_prev, if_neg hnx]; simp [setPrev_prev]
  · simp [setNext_next, hnh]
  · rw [setPrev_prev, if_pos rfl]
  · intro b hb
    rw [← e2, List.dropLast_concat] at hb
    have h1 : b ≠ h := by rintro rfl; exact hnd.1 hb
    have h2 : b ≠ n := by rintro rfl; exact hnb hb
    simp [setNext_next, h1, h2]
  · intro b hb
    have h1 : b ≠ x := by rintro rfl; exact nd.1 hb
    have hb2 : b ∈ bs ++ [h] := by rw [e2]; exact List.mem_cons_of_mem _ hb
    have h2 : b ≠ n := by rintro rfl; simp [hnb, hnh] at hb2
    simp [setPrev_prev, h1, h2]

end Go.Proofs.YtdilchcnfnfdiaaGreatDoor
