/- The walks of layer 14's small functions: a node taken out of its ring, a node laid behind the head, a key that is wanted. -/
import Derived.Test.YtdilchcnfnfdiaaGreatDoorChecked
import Derived.Test.YtdilchcnfnfdiaaGreatDoorLruMem
import Derived.BigRegion
import Derived.WalkLawsBesides
import Derived.Lib.Hide
namespace Go.Proofs.YtdilchcnfnfdiaaGreatDoor
open Go.RowKit
open Go.ChangeMaps (setBlock)

theorem Tryz.uMap : Tryz.prog.underlying 109 = some (.map 3 105) := by kernel_rfl
theorem Tryz.uInt : Tryz.prog.underlying 3 = some (.int .i64) := by kernel_rfl
theorem Tryz.zNode (w : World) : (zeroValue 105).run Tryz.prog w = .ok (.pointer none) w := by kernel_rfl

set_option maxRecDepth 100000 in
theorem out_walk (n p x : Nat) (w : World) (cp : w.cell? ⟨n, 2, none⟩ = some (ptr p)) (cx : w.cell? ⟨n, 3, none⟩ = some (ptr x))
    (hp : ∃ v, w.cell? ⟨p, 3, none⟩ = some v) (hx : ∃ v, w.cell? ⟨x, 2, none⟩ = some v)
    (fp : w.frozen? ⟨p, 3, none⟩ = false) (fx : w.frozen? ⟨x, 2, none⟩ = false) :
    Calls Tryz.prog 53 #[ptr n] w fun e w' => e = .returned (.tuple #[]) ∧ w' = ((w.setCell ⟨p, 3, none⟩ (ptr x)).setCell ⟨x, 2, none⟩ (ptr p)).drew := by
  obtain ⟨v1, hv1⟩ := hp
  obtain ⟨v2, hv2⟩ := hx
  go_enter Tryz.func53, Tryz.ntmps53
  go_region
  all_goals (go_end0; exact ⟨rfl, rfl⟩)

set_option maxRecDepth 100000 in
theorem behind_walk (n h x : Nat) (w : World) (hnx : n ≠ x) (hnh : n ≠ h) (cx : w.cell? ⟨h, 3, none⟩ = some (ptr x))
    (h2 : ∃ v, w.cell? ⟨n, 2, none⟩ = some v) (h3 : ∃ v, w.cell? ⟨n, 3, none⟩ = some v) (hx : ∃ v, w.cell? ⟨x, 2, none⟩ = some v)
    (f2 : w.frozen? ⟨n, 2, none⟩ = false) (f3 : w.frozen? ⟨n, 3, none⟩ = false) 
    (fh : w.frozen? ⟨h, 3, none⟩ = false) (fx : w.frozen? ⟨x, 2, none⟩ = false) :
    Calls Tryz.prog 50 #[ptr n, ptr h] w fun e w' => e = .returned (.tuple #[]) ∧
      w' = ((((w.setCell ⟨n, 2, none⟩ (ptr h)).setCell ⟨n, 3, none⟩ (ptr x)).setCell ⟨h, 3, none⟩ (ptr n)).setCell ⟨x, 2, none⟩ (ptr n)).drew := by
  obtain ⟨v2, hv2⟩ := h2
  obtain ⟨v3, hv3⟩ := h3
  obtain ⟨vx, hvx⟩ := hx
  go_enter Tryz.func50, Tryz.ntmps50
  go_wp2
  go_region
  all_goals ((try simp only []); go_end0; exact ⟨rfl, rfl⟩)

theorem ring_walk (w : World) :
    Calls Tryz.prog 48 #[] w fun e w' => e = .returned (ptr w.heap.size) ∧ w' = w.alloc (.cells #[num 0, num 0, ptr w.heap.size, ptr w.heap.size] 113) := by
  go_enter Tryz.func48, Tryz.ntmps48
  go_wp2
  go_ret
  exact ⟨rfl, rfl⟩

def RingPost (w : World) (h : Nat) (bs : List Nat) (M : Nat → Nd) (F : Nat → Prop) (e : Ending) (w' : World) : Prop :=
  e = .returned (.tuple #[]) ∧ RingAt w' h bs M ∧ Keeps F w w' ∧ w'.heap.size = w.heap.size

theorem out_ring {w : World} {h n : Nat} {l1 l2 : List Nat} {M : Nat → Nd} (r : RingAt w h (l1 ++ n :: l2) M) :
    Calls Tryz.prog 53 #[ptr n] w fun e w' => RingPost w h (l1 ++ l2) (outM M n) (· ∈ h :: (l1 ++ n :: l2)) e w' ∧ w'.heap[n]? = some (.cells (nodeCells (outM M n n)) TN (0, 0)) := by
  obtain ⟨L0, p, x, R0, e1, e2, hp, hx, _, _, _, _⟩ := links_ends r.links
  have pm : p ∈ h :: (l1 ++ n :: l2) := by
    have : p ∈ h :: l1 := by rw [e1]; simp
    rcases List.mem_cons.1 this with rfl | h' <;> simp_all
  have xm : x ∈ h :: (l1 ++ n :: l2) := by
    have : x ∈ l2 ++ [h] := by rw [e2]; simp
    rcases List.mem_append.1 this with h' | h' <;> simp_all
  have hn := r.nodes n (by simp)
  refine (out_walk n p x w (by rw [node_prev hn, hp]) (by rw [node_next hn, hx]) ⟨_, node_next (r.nodes p pm)⟩ ⟨_, node_prev (r.nodes x xm)⟩
    (free_blk (r.nodes p pm) _) (free_blk (r.nodes x xm) _)).mono ?_
  rintro e w' ⟨rfl, rfl⟩
  have nodes : ∀ b ∈ h :: (l1 ++ n :: l2), (((w.setCell ⟨p, 3, none⟩ (ptr x)).setCell ⟨x, 2, none⟩ (ptr p)).drew).heap[b]? = some (.cells (nodeCells (outM M n b)) TN (0, 0)) := by
    intro b hb
    have := nodes_prev (nodes_next (r.nodes b hb) (p := p) x) (p := x) p
    unfold outM
    rw [hp, hx]
    exact this
  have nd : (h :: (l1 ++ l2)).Nodup := by
    refine List.Nodup.sublist ?_ r.nodup
    exact List.Sublist.cons_cons _ (List.Sublist.append (List.Sublist.refl _) (List.sublist_cons_self _ _))
  refine ⟨⟨rfl, ⟨fun b hb => nodes b ?_, links_out r.nodup r.links, nd⟩, (((Keeps.refl _ w).set (.inl pm) _).set (.inl xm) _).drew, by simp [World.drew, World.setCell]⟩, nodes n (by simp)⟩
  simp only [List.mem_cons, List.mem_append] at hb ⊢
  rcases hb with hb | hb | hb <;> simp [hb]

theorem behind_ring {w : World} {h n : Nat} {bs : List Nat} {M : Nat → Nd} (r : RingAt w h bs M) (hn : n ∉ h :: bs) {va vb : Value} (cn : w.heap[n]? = some (.cells #[num (M n).key, num (M n).pins, va, vb] TN (0, 0))) :
    Calls Tryz.prog 50 #[ptr n, ptr h] w fun e w' => RingPost w h (n :: bs) (behindM M n h) (· ∈ n :: h :: bs) e w' := by
  obtain ⟨x, R0, e2⟩ : ∃ x R0, bs ++ [h] = x :: R0 := by cases bs <;> simp
  have hx : (M h).next = x := by
    have := r.links
    rw [List.cons_append, e2] at this
    exact this.1
  have xm : x ∈ h :: bs := by
    have : x ∈ bs ++ [h] := by rw [e2]; simp
    rcases List.mem_append.1 this with h' | h' <;> simp_all
  have hnx : n ≠ x := by rintro rfl; exact hn xm
  have hnh : n ≠ h := by rintro rfl; exact hn (by simp)
  have ch := r.nodes h (by simp)
  have cx := r.nodes x xm
  refine (behind_walk n h x w hnx hnh (by rw [node_next ch, hx]) ⟨_, by rw [cell_blk cn]; rfl⟩ ⟨_, by rw [cell_blk cn]; rfl⟩ ⟨_, node_prev cx⟩
    (free_blk cn _) (free_blk cn _) (free_blk ch _) (free_blk cx _)).mono ?_
  rintro e w' ⟨rfl, rfl⟩
  have nodes : ∀ b ∈ n :: h :: bs, (((((w.setCell ⟨n, 2, none⟩ (ptr h)).setCell ⟨n, 3, none⟩ (ptr x)).setCell ⟨h, 3, none⟩ (ptr n)).setCell ⟨x, 2, none⟩ (ptr n)).drew).heap[b]? = some (.cells (nodeCells (behindM M n h b)) TN (0, 0)) := by
    intro b hb
    have hb' : ((w.setCell ⟨n, 2, none⟩ (ptr h)).setCell ⟨n, 3, none⟩ (ptr x)).heap[b]? = some (.cells (nodeCells (setNext (setPrev M n h) n x b)) TN (0, 0)) := by
      by_cases e : b = n
      · subst e
        rw [set_blk (set_blk cn 2 (ptr h)) 3 (ptr x)]
        simp [nodeCells, setNext, setPrev, upd]
      · exact nodes_next (nodes_prev (r.nodes b (by simpa [e] using hb)) (p := n) h) (p := n) x
    have := nodes_prev (nodes_next hb' (p := h) n) (p := x) n
    unfold behindM
    rw [hx]
    exact this
  refine ⟨rfl, ⟨fun b hb => nodes b ?_, links_behind hn r.nodup r.links, ?_⟩, (((((Keeps.refl _ w).set (.inl (by simp)) _).set (.inl (by simp)) _).set (.inl (by simp)) _).set (.inl (List.mem_cons_of_mem _ xm)) _).drew, by simp [World.drew, World.setCell]⟩
  · simp only [List.mem_cons] at hb ⊢
    rcases hb with hb | hb | hb <;> simp [hb]
  · have := r.nodup
    rw [List.nodup_cons] at this ⊢
    simp only [List.mem_cons, not_or, List.nodup_cons] at hn ⊢
    exact ⟨⟨Ne.symm hnh, this.1⟩, hn.2, this.2⟩

theorem get_walk_miss (L m : Nat) (k : Int) (w : World) (c2 : w.cell? ⟨L, 2, none⟩ = some (.map (some m)))
    (hl : (Instr.lookup 109 (.map (some m)) (num k) true).run Tryz.prog w = .ok (.tuple #[.pointer none, .bool false]) w) :
    Calls Tryz.prog 21 #[ptr L, num k] w fun e w' => e = .returned (.bool false) ∧ w' = w := by
  go_enter Tryz.func21, Tryz.ntmps21
  go_wp2
  go_ret
  exact ⟨rfl, rfl⟩

def GetPost (w : World) (h n : Nat) (l1 l2 : List Nat) (M : Nat → Nd) (e : Ending) (w' : World) : Prop :=
  e = .returned (.bool true) ∧ RingAt w' h (n :: (l1 ++ l2)) (behindM (outM M n) n h) ∧ Keeps (· ∈ h :: (l1 ++ n :: l2)) w w'

theorem get_walk_hit {L room h m n : Nat} {l1 l2 : List Nat} {M : Nat → Nd} (k : Int) (w : World) (l : Lru w L room h m (l1 ++ n :: l2) M)
    (hl : (Instr.lookup 109 (.map (some m)) (num k) true).run Tryz.prog w = .ok (.tuple #[ptr n, .bool true]) w) :
    Calls Tryz.prog 21 #[ptr L, num k] w fun e w' => GetPost w h n l1 l2 M e w' := by
  have c2 : w.cell? ⟨L, 2, none⟩ = some (.map (some m)) := by rw [cell_blk l.lst]; rfl
  have hnot : n ∉ h :: (l1 ++ l2) := by
    have := l.ring.nodup
    have h2 : (n :: h :: (l1 ++ l2)).Nodup := (List.Perm.nodup_iff (List.perm_middle (a := n) (l₁ := h :: l1) (l₂ := l2)).symm).2 this
    exact (List.nodup_cons.1 h2).1
  go_enter Tryz.func21, Tryz.ntmps21
  go_wp2_with fail
  refine (out_ring l.ring).mono ?_
  rintro e w1 ⟨⟨rfl, r1, k1, s1⟩, cn⟩
  have c1 : w1.cell? ⟨L, 1, none⟩ = some (ptr h) := by
    rw [cell_blk (k1.blk l.lst (fun hm => l.L_ne L hm rfl))]; rfl
  go_wp2_with fail
  refine (behind_ring r1 hnot cn).mono ?_
  rintro e w2 ⟨rfl, r2, k2, s2⟩
  go_wp2_with fail
  go_ret
  refine ⟨rfl, r2, k1.trans k2 ?_⟩
  intro i hi
  left
  simp only [List.mem_cons, List.mem_append] at hi ⊢
  rcases hi with hi | hi | hi | hi <;> simp [hi]

end Go.Proofs.YtdilchcnfnfdiaaGreatDoor
