/- Layer 14's Keys, and Put said in one piece. -/
import Derived.Test.YtmdpnilokodbpaaLruPut
import Derived.Test.YtmdpnilokodbpaaInts
namespace Go.Proofs.Ytmdpnilokodbpaa
open Go.RowKit

def putR (room : Nat) (k : Int) (st : List (Int × Int)) : List (Int × Int) × Int × Bool × Int :=
  if hasK k st then (getSt k st, 0, false, 0)
  else if st.length < room then ((k, 0) :: st, 0, false, 0)
  else match goesK st with
    | none => (st, 0, false, 130)
    | some g => ((k, 0) :: rmK g.1 st, g.1, true, 0)

def PutPost (w : World) (L room : Nat) (r : List (Int × Int) × Int × Bool × Int) (F : List Nat) (e : Ending) (w' : World) : Prop :=
  e = .returned (.tuple #[num r.2.1, .bool r.2.2.1, num r.2.2.2]) ∧ LruPost w w' L room r.1 F

theorem put_st {w : World} {L room : Nat} {st : List (Int × Int)} {F : List Nat} (s : LruSt w L room st F) (k : Int) :
    Calls Try.prog 9 #[ptr L, num k] w fun e w' => PutPost w L room (putR room k st) F e w' := by
  cases hh : hasK k st with
  | true =>
    refine (put_hit s k hh).mono ?_
    rintro e w' ⟨rfl, hp⟩
    unfold PutPost putR
    rw [if_pos hh]
    exact ⟨rfl, hp⟩
  | false =>
    have hne : ¬ hasK k st = true := by rw [hh]; decide
    obtain ⟨h, m, bs, M, l, rfl, rfl⟩ := s
    have hk := hasK_false.1 hh
    have hl : (stOf bs M).length = bs.length := by simp [stOf]
    by_cases hr : bs.length < room
    · refine (put_room l k hk hr).mono ?_
      rintro e w' ⟨rfl, hp⟩
      unfold PutPost putR
      rw [if_neg hne, if_pos (by rw [hl]; exact hr)]
      exact ⟨rfl, hp⟩
    · have := l.len
      refine (put_full l k hk (by omega)).mono ?_
      intro e w' hp
      unfold PutPost putR
      rw [if_neg hne, if_neg (by rw [hl]; exact hr)]
      unfold FullPost at hp
      cases hg : goesK (stOf bs M) with
      | none => rw [hg] at hp; exact hp
      | some g => rw [hg] at hp; exact hp

/-! ### Keys -/
def keysOf (st : List (Int × Int)) : List Int := st.map (·.1)
def restOf (bs : List Nat) (v : Value) : Nat := match v with | .pointer (some a) => bs.length - bs.idxOf a.block | _ => 0

/-- What has been collected, and the node at hand. -/
def KeysRel (w : World) (L room h m : Nat) (bs : List Nat) (M : Nat → Nd) (v t : Value) (wr : World) : Prop :=
  ∃ l1 l2 c r, bs = l1 ++ l2 ∧ l2 ++ [h] = c :: r ∧ t = ptr c ∧ Own wr w.heap.size v (keysOf (stOf l1 M)) ∧ Lru wr L room h m bs M ∧ Keeps (fun _ => False) w wr

def KeysPost (w : World) (L room : Nat) (st : List (Int × Int)) (F : List Nat) (e : Ending) (w' : World) : Prop :=
  ∃ v, e = .returned v ∧ Own w' w.heap.size v (keysOf st) ∧ LruSt w' L room st F ∧ Keeps (fun _ => False) w w'

theorem keys_snoc (l1 : List Nat) (b : Nat) (M : Nat → Nd) : keysOf (stOf (l1 ++ [b]) M) = keysOf (stOf l1 M) ++ [(M b).key] := by
  simp [keysOf, stOf]
theorem keys_len (l1 : List Nat) (M : Nat → Nd) : (keysOf (stOf l1 M)).length = l1.length := by simp [keysOf, stOf]

theorem links_first {M : Nat → Nd} {h : Nat} {bs : List Nat} (H : Links M (h :: bs ++ [h])) : ∃ r, bs ++ [h] = (M h).next :: r := by
  obtain ⟨x, R0, e2⟩ : ∃ x R0, bs ++ [h] = x :: R0 := by cases bs <;> simp
  rw [List.cons_append, e2] at H
  exact ⟨R0, by rw [H.1, e2]⟩
theorem links_next {M : Nat → Nd} {h b : Nat} {l1 l2 : List Nat} (H : Links M (h :: (l1 ++ b :: l2) ++ [h])) : ∃ r, l2 ++ [h] = (M b).next :: r := by
  obtain ⟨_, _, x, R0, _, e2, _, hx, _⟩ := links_ends H
  exact ⟨R0, by rw [hx, e2]⟩

theorem idx_next {h b x : Nat} {l1 l2 r : List Nat} (nd : (h :: (l1 ++ b :: l2)).Nodup) (e : l2 ++ [h] = x :: r) : (l1 ++ b :: l2).idxOf b = l1.length ∧ l1.length < (l1 ++ b :: l2).idxOf x := by
  rw [List.nodup_cons, List.nodup_append] at nd
  obtain ⟨n1, n2, n3, n4⟩ := nd
  have hb : b ∉ l1 := fun hh => n4 b hh b (by simp) rfl
  have hx : x ∈ l2 ++ [h] := by rw [e]; simp
  have hx1 : x ∉ l1 := by
    intro hh
    rcases List.mem_append.1 hx with h' | h'
    · exact n4 x hh x (by simp [h']) rfl
    · simp only [List.mem_singleton] at h'
      subst h'
      exact n1 (by simp [hh])
  have hxb : b ≠ x := by
    rintro rfl
    rcases List.mem_append.1 hx with h' | h'
    · exact (List.nodup_cons.1 n3).1 h'
    · simp only [List.mem_singleton] at h'
      subst h'
      exact n1 (by simp)
  rw [List.idxOf_append, if_neg hb, List.idxOf_append, if_neg hx1, List.idxOf_cons_self, List.idxOf_cons, cond_eq_ite, if_neg (by simpa using hxb)]
  omega

/-- A node more has been collected. -/
theorem keys_step {w wr w1 : World} {L room h m b g cap : Nat} {l1 l2 : List Nat} {M : Nat → Nd} {v : Value} (l : Lru wr L room h m (l1 ++ b :: l2) M) (hk : Keeps (fun _ => False) w wr) (hlt : ∀ c ∈ foot L h m (l1 ++ b :: l2), c < w.heap.size)
    (hv : ∀ q, v.ownBlock = some q → w.heap.size ≤ q) (o : Obj) (hown : Own w1 w.heap.size (.slice (some ⟨g, 0, none⟩) ((keysOf (stOf l1 M)).length + 1) cap) (keysOf (stOf l1 M) ++ [(M b).key])) (k1 : Keeps (fun k => v.ownBlock = some k) (wr.alloc o) w1) :
    w1.cell? ⟨b, 3, none⟩ = some (ptr (M b).next) ∧ KeysRel w L room h m (l1 ++ b :: l2) M (.slice (some ⟨g, 0, none⟩) ((keysOf (stOf l1 M)).length + 1) cap) (ptr (M b).next) w1 := by
  have l' : Lru w1 L room h m (l1 ++ b :: l2) M := (l.alloc o).keep k1 (fun c hc e => by have := hlt c hc; have := hv c e; omega)
  obtain ⟨r, hr⟩ := links_next l.ring.links
  have kk : Keeps (fun _ => False) w w1 := ((hk.alloc o).trans k1 (fun i hi => .inr (hv i hi)))
  refine ⟨node_next (l'.ring.nodes b (by simp)), l1 ++ [b], l2, (M b).next, r, by simp, hr, rfl, ?_, l', kk⟩
  rw [keys_snoc]
  exact hown

set_option maxRecDepth 100000 in
theorem keys_any {w : World} {L room h m : Nat} {bs : List Nat} {M : Nat → Nd} (l : Lru w L room h m bs M) (hb : bs.length ≤ 1048576) :
    Calls Try.prog 11 #[ptr L] w fun e w' => KeysPost w L room (stOf bs M) (foot L h m bs) e w' := by
  have c1 := l.c1
  have cn := node_next (l.ring.nodes h (by simp))
  have HL := Lib.hid l
  have hlt := Lib.hid l.lt
  clear l
  go_enter Try.func11, Try.ntmps11
  go_wp2
  go_loopw [3, 4] (fun v t wr => KeysRel w L room h m bs M v t wr) (fun _ t _ => restOf bs t)
  case atStart =>
    obtain ⟨r, hr⟩ := links_first HL.out.ring.links
    exact ⟨[], bs, _, r, rfl, hr, rfl, Own.nil _ _, HL.out, Keeps.refl _ _⟩
  case round =>
    obtain ⟨l1, l2, c, r, rfl, hc, rfl, hown, l, hk⟩ := hrel
    clear c1 cn
    have c1 := l.c1
    cases l2 with
    | nil =>
      simp only [List.nil_append, List.cons.injEq] at hc
      obtain ⟨rfl, _⟩ := hc
      obtain ⟨q1, q2⟩ := eq_head h wr
      have E := Lib.hid (show KeysPost w L room (stOf (l1 ++ []) M) (foot L h m (l1 ++ [])) (.returned u3) wr from ⟨u3, rfl, by rw [List.append_nil]; exact hown, l.st, hk⟩)
      clear hown l hk HL hlt
      go_wp2
      go_ret
      exact E.out
    | cons b l2 =>
      simp only [List.cons_append, List.cons.injEq] at hc
      obtain ⟨rfl, _⟩ := hc
      obtain ⟨q1, q2⟩ := l.neq_head (b := b) (by simp) wr rfl
      have cb := l.ring.nodes b (by simp)
      have ck := node_key cb
      have hblt := block_lt cb
      have hLlt := l.L_lt
      have ho := hown.keep (F := fun _ => False) ((Keeps.refl _ wr).alloc (.cells #[num (M b).key] 3)) (fun _ _ hf => hf)
      have hn := alloc_new wr (.cells #[num (M b).key] 3)
      have hlen : (keysOf (stOf l1 M)).length ≤ 1048576 := by rw [keys_len]; simp at hb; omega
      have hB : w.heap.size ≤ (wr.alloc (.cells #[num (M b).key] 3)).heap.size := by rw [size_alloc]; have := hk.size; omega
      have ST := Lib.hid (fun g cap w1 => keys_step (w1 := w1) (g := g) (cap := cap) l hk hlt.out (fun q hq => (hown.lt hq).1) (.cells #[num (M b).key] 3))
      have NP := Lib.hid (links_next l.ring.links)
      have ND := Lib.hid l.ring.nodup
      have hb' := Lib.hid hb
      have HO := Lib.hid ho
      have HN := Lib.hid hn
      clear ho hn hk hown l HL hlt cb hb
      go_wp2_with (at_builtin; refine wpList_append_num rfl _ _ rfl w.heap.size u3 (keysOf (stOf l1 M)) rfl HO.out wr.heap.size (M b).key rfl HN.out hlen hB ?_; intro g cap w1 h1 h2 h3; have HH := ST.out g cap w1 h1 h2; have cnx := HH.1; have RL := Lib.hid HH.2; clear h1 h2 h3 HH ST HO HN q1 q2 c1 ck hlen hB hblt hLlt)
      go_roundw
      case rel => exact RL.out
      case measure =>
        obtain ⟨r', hr'⟩ := NP.out
        obtain ⟨i1, i2⟩ := idx_next ND.out hr'
        have hl : l1.length < (l1 ++ b :: l2).length := by simp
        show (l1 ++ b :: l2).length - (l1 ++ b :: l2).idxOf (M b).next < (l1 ++ b :: l2).length - (l1 ++ b :: l2).idxOf b
        omega

end Go.Proofs.Ytmdpnilokodbpaa
