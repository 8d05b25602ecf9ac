/- A map from int to texts, whole: what looking up and adding give. -/
import Derived.Test.YtdilchcnfnfdiaaGreatDoorTSquare
import Derived.MapKept
import Derived.ChangeMaps4
namespace Go.Proofs.YtdilchcnfnfdiaaGreatDoor
open Go.ChangeMaps (setBlock)

def MapS (w : World) (m : Nat) (kvs : List (Int × ByteArray)) : Prop :=
  ∃ es clk, w.heap[m]? = some (.map es clk) ∧ es.toList.map (fun e => (e.key, e.val)) = kvs.map (fun x => (num x.1, strv x.2))
theorem MapS.of_heap {w w' : World} {m : Nat} {kvs : List (Int × ByteArray)} (h : MapS w m kvs) (e : w'.heap[m]? = w.heap[m]?) : MapS w' m kvs := by
  obtain ⟨es, clk, h1, h2⟩ := h
  exact ⟨es, clk, e.trans h1, h2⟩
theorem MapS.lt {w : World} {m : Nat} {kvs : List (Int × ByteArray)} (h : MapS w m kvs) : m < w.heap.size := by
  obtain ⟨es, clk, h1, _⟩ := h
  exact block_lt h1
theorem MapS.keep {w w' : World} {m : Nat} {kvs : List (Int × ByteArray)} {F : Nat → Prop} (h : MapS w m kvs) (k : Keeps F w w') (hF : ¬ F m) : MapS w' m kvs := h.of_heap (k.block m h.lt hF)
theorem MapS.ext {w w' : World} {m : Nat} {kvs : List (Int × ByteArray)} (h : MapS w m kvs) (e : Ext w w') : MapS w' m kvs := h.keep e.to_keeps (fun h => h)
theorem findS_miss {k : Int} : ∀ {l : List MapEntry} {kvs : List (Int × ByteArray)} (i : Nat), l.map (fun e => (e.key, e.val)) = kvs.map (fun x => (num x.1, strv x.2)) → (∀ x ∈ kvs, x.1 ≠ k) →
    Instr.findNow (.int .i64) (num k) l i = some none
  | [], _, _, _, _ => rfl
  | e :: l, [], _, h, _ => by simp at h
  | e :: l, x :: kvs, i, h, hk => by
    simp only [List.map_cons, List.cons.injEq, Prod.mk.injEq] at h
    have h0 : (k == x.1) = false := by simpa using Ne.symm (hk x (by simp))
    have ih := findS_miss (k := k) (i + 1) h.2 (fun y hy => hk y (by simp [hy]))
    simp [Instr.findNow, h.1.1, Instr.sameNow, h0, ih]
theorem findS_hit {k : Int} {b : ByteArray} : ∀ {l : List MapEntry} {k1 k2 : List (Int × ByteArray)} (i : Nat), l.map (fun e => (e.key, e.val)) = (k1 ++ (k, b) :: k2).map (fun x => (num x.1, strv x.2)) → (∀ x ∈ k1, x.1 ≠ k) →
    Instr.findNow (.int .i64) (num k) l i = some (some (i + k1.length, strv b))
  | [], k1, _, _, h, _ => by cases k1 <;> simp at h
  | e :: l, [], k2, i, h, _ => by
    simp only [List.map_cons, List.nil_append, List.cons.injEq, Prod.mk.injEq] at h
    simp [Instr.findNow, h.1.1, h.1.2, Instr.sameNow]
  | e :: l, x :: k1, k2, i, h, hk => by
    simp only [List.map_cons, List.cons_append, List.cons.injEq, Prod.mk.injEq] at h
    have h0 : (k == x.1) = false := by simpa using Ne.symm (hk x (by simp))
    have ih := findS_hit (k := k) (b := b) (i + 1) (l := l) (k1 := k1) (k2 := k2) h.2 (fun y hy => hk y (by simp [hy]))
    simp [Instr.findNow, h.1.1, Instr.sameNow, h0, ih]
    omega
theorem keyS_ok {k : Int} : MapKept.IsKey (.int .i64) (num k) := by simp [MapKept.IsKey]

theorem Tryz.uMapS : Tryz.prog.underlying 67 = some (.map 3 9) := by kernel_rfl
theorem Tryz.uIntS : Tryz.prog.underlying 3 = some (.int .i64) := by kernel_rfl
section
variable {w : World} {m : Nat} {kvs : List (Int × ByteArray)} {k : Int}
theorem MapS.look (h : MapS w m kvs) (hn : (kvs.map (·.1)).Nodup) {b : ByteArray} (hm : (k, b) ∈ kvs) :
    (Instr.lookup 67 (.map (some m)) (num k) false).run Tryz.prog w = .ok (strv b) w := by
  obtain ⟨es, clk, h1, h2⟩ := h
  obtain ⟨k1, k2, rfl⟩ := List.append_of_mem hm
  have hk : ∀ x ∈ k1, x.1 ≠ k := fun x hx e => by
    rw [List.map_append, List.map_cons, List.nodup_append] at hn
    exact hn.2.2 _ (List.mem_map.2 ⟨x, hx, rfl⟩) _ List.mem_cons_self e
  simp [Instr.lookup, run_underlying Tryz.uMapS, MapKept.run_getObj_map h1, MapKept.run_checkKey Tryz.uIntS keyS_ok, MapKept.run_findKey Tryz.uIntS (findS_hit 0 h2 hk), Result.andThen]
theorem MapS.add (h : MapS w m kvs) (hm : ∀ x ∈ kvs, x.1 ≠ k) (b : ByteArray) :
    ∃ o, ∀ W : World, W.heap[m]? = w.heap[m]? → (Instr.mapUpdate 67 (.map (some m)) (num k) (strv b)).run Tryz.prog W = .ok () (setBlock W m o) ∧ MapS (setBlock W m o) m (kvs ++ [(k, b)]) := by
  obtain ⟨es, clk, h1, h2⟩ := h
  refine ⟨.map (es.push { key := num k, val := strv b, born := clk }) (clk + 1), fun W hW => ?_⟩
  rw [h1] at hW
  refine ⟨?_, _, _, (MapKept.heap_set hW).1, by simp [h2]⟩
  simp [Instr.mapUpdate, run_underlying Tryz.uMapS, MapKept.run_getObj_map hW, MapKept.run_checkKey Tryz.uIntS keyS_ok, MapKept.run_findKey Tryz.uIntS (findS_miss 0 h2 hm), MapKept.run_setObj_map _ hW, Result.andThen, setBlock]
end
theorem heapS_far {w : World} {m b : Nat} (o : Obj) (hb : b ≠ m) : (setBlock w m o).heap[b]? = w.heap[b]? := by
  simp [setBlock, Ne.symm hb]
theorem sizeS (w : World) (m : Nat) (o : Obj) : (setBlock w m o).heap.size = w.heap.size := by simp [setBlock]
theorem Keeps.setS {F : Nat → Prop} {a w : World} (h : Keeps F a w) {m : Nat} (hm : F m ∨ a.heap.size ≤ m) (o : Obj) : Keeps F a (setBlock w m o) :=
  ⟨h.os, h.tape, h.output, by rw [sizeS]; exact h.size, fun k hk hF => (heapS_far o (by
    rintro rfl
    rcases hm with hm | hm
    · exact hF hm
    · omega)).trans (h.block k hk hF)⟩
theorem Ext.setS {a w : World} (h : Ext a w) {m : Nat} (hm : a.heap.size ≤ m) (o : Obj) : Ext a (setBlock w m o) :=
  h.keeps (Keeps.setS (F := fun i => i = m) (Keeps.refl _ w) (.inl rfl) o) (fun i hi => by rw [hi]; exact hm)

end Go.Proofs.YtdilchcnfnfdiaaGreatDoor
