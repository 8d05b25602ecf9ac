/- A map from int to pointers, whole: what looking up, adding, deleting and len give; in what order its entries lie plays no part. -/
import Derived.Test.YtdilchcnfnfdiaaGreatDoorMem
import Derived.MapKept
import Derived.ChangeMaps4
namespace Go.Proofs.YtdilchcnfnfdiaaGreatDoor
open Go.ChangeMaps (setBlock)

def MapIs (w : World) (m : Nat) (kvs : List (Int × Nat)) : Prop :=
  ∃ es clk, w.heap[m]? = some (.map es clk) ∧ es.toList.map (fun e => (e.key, e.val)) = kvs.map (fun x => (num x.1, ptr x.2))

theorem MapIs.of_heap {w w' : World} {m : Nat} {kvs : List (Int × Nat)} (h : MapIs w m kvs) (e : w'.heap[m]? = w.heap[m]?) : MapIs w' m kvs := by
  obtain ⟨es, clk, h1, h2⟩ := h
  exact ⟨es, clk, e.trans h1, h2⟩
theorem MapIs.lt {w : World} {m : Nat} {kvs : List (Int × Nat)} (h : MapIs w m kvs) : m < w.heap.size := by
  obtain ⟨es, clk, h1, _⟩ := h
  exact block_lt h1
theorem MapIs.ne_blk {w : World} {m b : Nat} {kvs : List (Int × Nat)} {cs : Array Value} {t : TypeId} (h : MapIs w m kvs) (hb : w.heap[b]? = some (.cells cs t (0, 0))) : b ≠ m := by
  rintro rfl
  obtain ⟨es, clk, h1, _⟩ := h
  rw [h1] at hb
  cases hb

theorem map_eq_append {α β γ : Type} {f : α → γ} {g : β → γ} : ∀ {l : List α} {k1 k2 : List β} {x : β}, l.map f = (k1 ++ x :: k2).map g →
    ∃ l1 e l2, l = l1 ++ e :: l2 ∧ l1.map f = k1.map g ∧ f e = g x ∧ l2.map f = k2.map g
  | [], k1, k2, x, h => by cases k1 <;> simp at h
  | e :: l, [], k2, x, h => by
    simp only [List.map_cons, List.nil_append, List.cons.injEq] at h
    exact ⟨[], e, l, rfl, rfl, h.1, h.2⟩
  | e :: l, y :: k1, k2, x, h => by
    simp only [List.map_cons, List.cons_append, List.cons.injEq] at h
    obtain ⟨l1, e', l2, a, b, c, d⟩ := map_eq_append h.2
    exact ⟨e :: l1, e', l2, by rw [a]; rfl, by simp [h.1, b], c, d⟩

theorem findNow_miss {k : Int} : ∀ {l : List MapEntry} {kvs : List (Int × Nat)} (i : Nat), l.map (fun e => (e.key, e.val)) = kvs.map (fun x => (num x.1, ptr x.2)) → (∀ x ∈ kvs, x.1 ≠ k) →
    Instr.findNow (.int .i64) (num k) l i = some none
  | [], _, _, _, _ => rfl
  | e :: l, [], _, h, _ => by simp at h
  | e :: l, x :: kvs, i, h, hk => by
    simp only [List.map_cons, List.cons.injEq, Prod.mk.injEq] at h
    have h0 : (k == x.1) = false := by simpa using Ne.symm (hk x (by simp))
    have ih := findNow_miss (k := k) (i + 1) h.2 (fun y hy => hk y (by simp [hy]))
    simp [Instr.findNow, h.1.1, Instr.sameNow, h0, ih]

theorem findNow_hit {k : Int} {b : Nat} : ∀ {l : List MapEntry} {k1 k2 : List (Int × Nat)} (i : Nat), l.map (fun e => (e.key, e.val)) = (k1 ++ (k, b) :: k2).map (fun x => (num x.1, ptr x.2)) → (∀ x ∈ k1, x.1 ≠ k) →
    Instr.findNow (.int .i64) (num k) l i = some (some (i + k1.length, ptr b))
  | [], k1, _, _, h, _ => by cases k1 <;> simp at h
  | e :: l, [], k2, i, h, _ => by
    simp only [List.map_cons, List.nil_append, List.cons.injEq, Prod.mk.injEq] at h
    simp [Instr.findNow, h.1.1, h.1.2, Instr.sameNow]
  | e :: l, x :: k1, k2, i, h, hk => by
    simp only [List.map_cons, List.cons_append, List.cons.injEq, Prod.mk.injEq] at h
    have h0 : (k == x.1) = false := by simpa using Ne.symm (hk x (by simp))
    have ih := findNow_hit (k := k) (b := b) (i + 1) (l := l) (k1 := k1) (k2 := k2) h.2 (fun y hy => hk y (by simp [hy]))
    simp [Instr.findNow, h.1.1, Instr.sameNow, h0, ih]
    omega

section
variable {P : Program} {t tk te : TypeId} (ht : P.underlying t = some (.map tk te)) (hk : P.underlying tk = some (.int .i64))
variable {w : World} {m : Nat} {kvs : List (Int × Nat)} {k : Int}

theorem key_ok : MapKept.IsKey (.int .i64) (num k) := by simp [MapKept.IsKey]

include ht hk
theorem MapIs.look_miss (h : MapIs w m kvs) (hz : (zeroValue te).run P w = .ok (.pointer none) w) (hm : ∀ x ∈ kvs, x.1 ≠ k) :
    (Instr.lookup t (.map (some m)) (num k) true).run P w = .ok (.tuple #[.pointer none, .bool false]) w := by
  obtain ⟨es, clk, h1, h2⟩ := h
  simp [Instr.lookup, run_underlying ht, MapKept.run_getObj_map h1, MapKept.run_checkKey hk key_ok, MapKept.run_findKey hk (findNow_miss 0 h2 hm), hz, Result.andThen]

theorem MapIs.look_hit (h : MapIs w m kvs) {k1 k2 : List (Int × Nat)} {b : Nat} (e : kvs = k1 ++ (k, b) :: k2) (hm : ∀ x ∈ k1, x.1 ≠ k) :
    (Instr.lookup t (.map (some m)) (num k) true).run P w = .ok (.tuple #[ptr b, .bool true]) w := by
  obtain ⟨es, clk, h1, h2⟩ := h
  subst e
  simp [Instr.lookup, run_underlying ht, MapKept.run_getObj_map h1, MapKept.run_checkKey hk key_ok, MapKept.run_findKey hk (findNow_hit 0 h2 hm), Result.andThen]

omit hk in
theorem MapIs.len (h : MapIs w m kvs) (ty : TypeId) : (Builtin.len_ #[t] ty #[.map (some m)]).run P w = .ok (num kvs.length) w := by
  obtain ⟨es, clk, h1, h2⟩ := h
  have e : es.size = kvs.length := by have := congrArg List.length h2; simpa using this
  simp [Builtin.len_, run_underlying ht, MapKept.run_getObj_map h1, goInt, Result.andThen, e]

theorem MapIs.add (h : MapIs w m kvs) (hm : ∀ x ∈ kvs, x.1 ≠ k) (b : Nat) :
    ∃ o, ∀ W : World, W.heap[m]? = w.heap[m]? → (Instr.mapUpdate t (.map (some m)) (num k) (ptr b)).run P W = .ok () (setBlock W m o) ∧ MapIs (setBlock W m o) m (kvs ++ [(k, b)]) := by
  obtain ⟨es, clk, h1, h2⟩ := h
  refine ⟨.map (es.push { key := num k, val := ptr b, born := clk }) (clk + 1), fun W hW => ?_⟩
  rw [h1] at hW
  refine ⟨?_, _, _, (MapKept.heap_set hW).1, by simp [h2]⟩
  simp [Instr.mapUpdate, run_underlying ht, MapKept.run_getObj_map hW, MapKept.run_checkKey hk key_ok, MapKept.run_findKey hk (findNow_miss 0 h2 hm), MapKept.run_setObj_map _ hW, Result.andThen, setBlock]

theorem MapIs.del (h : MapIs w m kvs) {k1 k2 : List (Int × Nat)} {b : Nat} (e : kvs = k1 ++ (k, b) :: k2) (hm : ∀ x ∈ k1, x.1 ≠ k) :
    ∃ o, ∀ W : World, W.heap[m]? = w.heap[m]? → (∀ ty, (Builtin.delete_ #[t, tk] ty #[.map (some m), num k]).run P W = .ok (.tuple #[]) (setBlock W m o)) ∧ MapIs (setBlock W m o) m (k1 ++ k2) := by
  obtain ⟨es, clk, h1, h2⟩ := h
  subst e
  obtain ⟨l1, x, l2, e1, e2, _, e4⟩ := map_eq_append h2
  refine ⟨.map (es.eraseIdxIfInBounds (0 + k1.length)) clk, fun W hW => ?_⟩
  rw [h1] at hW
  refine ⟨fun ty => ?_, _, _, (MapKept.heap_set hW).1, ?_⟩
  · simp [Builtin.delete_, run_underlying ht, MapKept.run_getObj_map hW, MapKept.run_checkKey hk key_ok, MapKept.run_findKey hk (findNow_hit 0 h2 hm), MapKept.run_setObj_map _ hW, Result.andThen, setBlock]
  · have hl : l1.length = k1.length := by simpa using congrArg List.length e2
    have hs : k1.length < es.size := by rw [← Array.length_toList, e1]; simp [hl]
    rw [Array.eraseIdxIfInBounds, dif_pos (by simpa using hs)]
    simp only [Nat.zero_add, Array.toList_eraseIdx, e1]
    rw [← hl, List.eraseIdx_append_of_length_le (Nat.le_refl _)]
    simp [e2, e4]
end

theorem heap_setBlock_far {w : World} {m b : Nat} (o : Obj) (hb : b ≠ m) : (setBlock w m o).heap[b]? = w.heap[b]? := by
  simp [setBlock, Ne.symm hb]
theorem size_setBlock (w : World) (m : Nat) (o : Obj) : (setBlock w m o).heap.size = w.heap.size := by simp [setBlock]
theorem Keeps.setBlock {F : Nat → Prop} {a w : World} (h : Keeps F a w) {m : Nat} (hm : F m ∨ a.heap.size ≤ m) (o : Obj) : Keeps F a (setBlock w m o) :=
  ⟨h.os, h.tape, h.output, by rw [size_setBlock]; exact h.size, fun k hk hF => (heap_setBlock_far o (by
    rintro rfl
    rcases hm with hm | hm
    · exact hF hm
    · omega)).trans (h.block k hk hF)⟩

end Go.Proofs.YtdilchcnfnfdiaaGreatDoor
