/- A drive's Write. A drive's Write: the function value. A drive's off, may, put, Write, New, Dead, Sectors. -/
import Derived.Test.YtdilchcnfnfdiaaGreatDoorTDrive
import Derived.Deep.AppendLies
import Derived.Laws.IdiomStrings
import Derived.Laws.Cover3
import Derived.Conc.MuLone
namespace Go.Proofs.YtdilchcnfnfdiaaGreatDoor
open Go.RowKit Go.Maps
open Go.ChangeMaps (setBlock)

theorem OwnS.not_at {w : World} {B : Nat} {v : Value} {ss : List Sec} (h : OwnS w B v ss) {b : Nat} {cs : Array Value} {t : TypeId} (hb : w.heap[b]? = some (.cells cs t)) (ht : t ≠ 100) : v.ownBlock ≠ some b := by
  intro e
  rcases h.2 with ⟨rfl, _⟩ | ⟨g, cap, cur, rfl, _, hgg, _⟩
  · cases e
  · have e : g = b := by simpa [Value.ownBlock] using e
    subst e
    rw [hgg] at hb
    injection hb with hb
    injection hb with _ hb _
    exact ht hb.symm
theorem OwnS.not_map {w : World} {B : Nat} {v : Value} {ss : List Sec} (h : OwnS w B v ss) {b : Nat} {es : Array MapEntry} {c : Nat} (hb : w.heap[b]? = some (.map es c)) : v.ownBlock ≠ some b := by
  intro e
  rcases h.2 with ⟨rfl, _⟩ | ⟨g, cap, cur, rfl, _, hgg, _⟩
  · cases e
  · have e : g = b := by simpa [Value.ownBlock] using e
    subst e
    rw [hgg] at hb
    injection hb with hb
    cases hb

theorem fold_sec (s : Sec) (hs : s.length = 64) : List.foldl (fun (cs : Array Value) (x : Value × Nat) => cs.setIfInBounds x.snd x.fst) #[Value.int IntKind.u8 0, Value.int IntKind.u8 0, Value.int IntKind.u8 0, Value.int IntKind.u8 0, Value.int IntKind.u8 0, Value.int IntKind.u8 0, Value.int IntKind.u8 0, Value.int IntKind.u8 0, Value.int IntKind.u8 0, Value.int IntKind.u8 0, Value.int IntKind.u8 0, Value.int IntKind.u8 0, Value.int IntKind.u8 0, Value.int IntKind.u8 0, Value.int IntKind.u8 0, Value.int IntKind.u8 0, Value.int IntKind.u8 0, Value.int IntKind.u8 0, Value.int IntKind.u8 0, Value.int IntKind.u8 0, Value.int IntKind.u8 0, Value.int IntKind.u8 0, Value.int IntKind.u8 0, Value.int IntKind.u8 0, Value.int IntKind.u8 0, Value.int IntKind.u8 0, Value.int IntKind.u8 0, Value.int IntKind.u8 0, Value.int IntKind.u8 0, Value.int IntKind.u8 0, Value.int IntKind.u8 0, Value.int IntKind.u8 0, Value.int IntKind.u8 0, Value.int IntKind.u8 0, Value.int IntKind.u8 0, Value.int IntKind.u8 0, Value.int IntKind.u8 0, Value.int IntKind.u8 0, Value.int IntKind.u8 0, Value.int IntKind.u8 0, Value.int IntKind.u8 0, Value.int IntKind.u8 0, Value.int IntKind.u8 0, Value.int IntKind.u8 0, Value.int IntKind.u8 0, Value.int IntKind.u8 0, Value.int IntKind.u8 0, Value.int IntKind.u8 0, Value.int IntKind.u8 0, Value.int IntKind.u8 0, Value.int IntKind.u8 0, Value.int IntKind.u8 0, Value.int IntKind.u8 0, Value.int IntKind.u8 0, Value.int IntKind.u8 0, Value.int IntKind.u8 0, Value.int IntKind.u8 0, Value.int IntKind.u8 0, Value.int IntKind.u8 0, Value.int IntKind.u8 0, Value.int IntKind.u8 0, Value.int IntKind.u8 0, Value.int IntKind.u8 0, Value.int IntKind.u8 0] (cellsS s).zipIdx = (cellsS s).toArray := by
  obtain ⟨h1, h2⟩ := Great.foldl_set 0 (cellsS s) 0 #[Value.int IntKind.u8 0, Value.int IntKind.u8 0, Value.int IntKind.u8 0, Value.int IntKind.u8 0, Value.int IntKind.u8 0, Value.int IntKind.u8 0, Value.int IntKind.u8 0, Value.int IntKind.u8 0, Value.int IntKind.u8 0, Value.int IntKind.u8 0, Value.int IntKind.u8 0, Value.int IntKind.u8 0, Value.int IntKind.u8 0, Value.int IntKind.u8 0, Value.int IntKind.u8 0, Value.int IntKind.u8 0, Value.int IntKind.u8 0, Value.int IntKind.u8 0, Value.int IntKind.u8 0, Value.int IntKind.u8 0, Value.int IntKind.u8 0, Value.int IntKind.u8 0, Value.int IntKind.u8 0, Value.int IntKind.u8 0, Value.int IntKind.u8 0, Value.int IntKind.u8 0, Value.int IntKind.u8 0, Value.int IntKind.u8 0, Value.int IntKind.u8 0, Value.int IntKind.u8 0, Value.int IntKind.u8 0, Value.int IntKind.u8 0, Value.int IntKind.u8 0, Value.int IntKind.u8 0, Value.int IntKind.u8 0, Value.int IntKind.u8 0, Value.int IntKind.u8 0, Value.int IntKind.u8 0, Value.int IntKind.u8 0, Value.int IntKind.u8 0, Value.int IntKind.u8 0, Value.int IntKind.u8 0, Value.int IntKind.u8 0, Value.int IntKind.u8 0, Value.int IntKind.u8 0, Value.int IntKind.u8 0, Value.int IntKind.u8 0, Value.int IntKind.u8 0, Value.int IntKind.u8 0, Value.int IntKind.u8 0, Value.int IntKind.u8 0, Value.int IntKind.u8 0, Value.int IntKind.u8 0, Value.int IntKind.u8 0, Value.int IntKind.u8 0, Value.int IntKind.u8 0, Value.int IntKind.u8 0, Value.int IntKind.u8 0, Value.int IntKind.u8 0, Value.int IntKind.u8 0, Value.int IntKind.u8 0, Value.int IntKind.u8 0, Value.int IntKind.u8 0, Value.int IntKind.u8 0]
  simp only [Nat.zero_add] at h1 h2
  apply Array.ext_getElem?
  intro k
  rw [h2 k]
  have hl : (cellsS s).length = 64 := by rw [cellsS_len]; exact hs
  by_cases hk : k < 64
  · rw [if_pos ⟨Nat.zero_le _, by omega, by simpa using hk⟩]
    simp
  · rw [if_neg (by omega), Array.getElem?_eq_none (by simp; omega), Array.getElem?_eq_none (by simp; omega)]

section
variable {W0 w : World} {d sf m sp n lim : Nat} {safe : Nat → Sec} {wr : Int → List Sec} {bad : Int → Bool} (h : Pend W0 d sf m sp n lim safe wr bad w)
include h
/-- Behind the append: the store into the map, and what is pending then. -/
theorem write1_step (bd bi bx i : Nat) (s : Sec) (hs : s.length = 64) (hbd : w.heap[bd]? = some (.cells #[ptr d] 36)) (hbi : w.heap[bi]? = some (.cells #[num i] 3)) (hi : i < n) (hlim : lim < 100000) {k : Nat} {D : DataW Unit} {V : Int → Value}
    (hm : w.ownsMap Tryz.prog 3 rowRef m k D) (hk : k ≤ lim) (hD : IsMap D) (hr : Rows w W0.heap.size D wr V) (hbx : w.rangeAt bx 0 (cellsS s)) (hbxn : ∀ j, (V j).ownBlock ≠ some bx) (hbxm : bx ≠ m)
    (g cap : Nat) (w1 : World) (hown : w1.ownsRow W0.heap.size 100 64 (.slice (some ⟨g, 0, none⟩) ((wr i).length + 1) cap) ((wr i).length + 1) ((wr i).flatMap cellsS ++ cellsS s)) (hgrow : w.grownBy w1 (V i).ownBlock) (hat : (V i).ownBlock = some g ∨ g = w.heap.size) :
    ∃ w2, (Instr.mapUpdate 92 (.map (some m)) (num i) (.slice (some ⟨g, 0, none⟩) ((wr i).length + 1) cap)).run Tryz.prog w1 = .ok () w2 ∧
      (w1.cell? ⟨bd, 0, none⟩ = some (ptr d) ∧ w1.cell? ⟨bi, 0, none⟩ = some (num i) ∧ w1.cell? ⟨d, 1, none⟩ = some (.map (some m)) ∧ w1.rangeAt bx 0 (cellsS s)) ∧
      (w2.cell? ⟨bd, 0, none⟩ = some (ptr d) ∧ w2.cell? ⟨bi, 0, none⟩ = some (num i) ∧ w2.cell? ⟨d, 1, none⟩ = some (.map (some m)) ∧ w2.rangeAt bx 0 (cellsS s)) ∧
      w2.heap[bd]? = some (.cells #[ptr d] 36) ∧ w2.heap[bi]? = some (.cells #[num i] 3) ∧ Pend W0 d sf m sp n (lim + 1) safe (fun j => if j = (i : Int) then wr i ++ [s] else wr j) bad w2 := by
  obtain ⟨⟨left, hblk⟩, ⟨cs, hsec, hcs⟩, s64, _, w64, wlen, wn, ⟨k2, D2, hsm, hk2, hD2, hb2⟩, n1, n2, n3, n4, n5, n6, l1, l2, l3, l4, kp, nn, ll⟩ := h
  obtain ⟨es, clock, hmb, _⟩ := id hm
  obtain ⟨es2, clock2, hspb, _⟩ := id hsm
  have K1 := Keeps.of_grownV hgrow
  have hVi := hr.own i
  have f1 : ∀ {b : Nat} {cs : Array Value} {t : TypeId}, w.heap[b]? = some (.cells cs t) → t ≠ 100 → ¬ (V i).ownBlock = some b := fun hb ht => hVi.not_at hb ht
  have f2 : ¬ (V i).ownBlock = some m := hVi.not_map hmb
  have f3 : ¬ (V i).ownBlock = some sp := hVi.not_map hspb
  have f4 : ¬ (V i).ownBlock = some sf := fun e => by have := (hVi.lt e).1; omega
  have hm1 := ownsMap_keep hm K1 f2
  have hi2 : (i : Int) ≤ 4096 := by omega
  obtain ⟨w2, hup, hown2, hturn⟩ := hm1.store Tryz.intKey Tryz.uWrites (by unfold maxLen; omega) (keyI_mk i (by omega) (by omega)) (rowRef_some g ((wr i).length + 1) cap)
  have K2 := Keeps.of_grown hturn.grown
  have ne_cm : ∀ {b : Nat} {cs : Array Value} {t : TypeId}, w.heap[b]? = some (.cells cs t) → ¬ b = m := fun hb e => by
    subst e
    rw [hmb] at hb
    injection hb with hb
    cases hb
  have b1 : ∀ {b : Nat} {o : Obj}, w.heap[b]? = some o → ¬ (V i).ownBlock = some b → w1.heap[b]? = some o := fun hb hn => K1.blk hb hn
  have b2 : ∀ {b : Nat} {o : Obj}, w1.heap[b]? = some o → ¬ b = m → w2.heap[b]? = some o := fun hb hn => K2.blk hb hn
  have hbd1 := b1 hbd (f1 hbd (by decide))
  have hbi1 := b1 hbi (f1 hbi (by decide))
  have hblk1 := b1 hblk (f1 hblk (by decide))
  have hbd2 := b2 hbd1 (ne_cm hbd)
  have hbi2 := b2 hbi1 (ne_cm hbi)
  have hblk2 := b2 hblk1 (ne_cm hblk)
  have cell1 : ∀ {p : Addr} {v : Value}, w.cell? p = some v → (V i).ownBlock ≠ some p.block → w1.cell? p = some v := fun {p v} hp hn => (World.cell?_of_block (w := w) (K1.block p.block (World.block_lt_of_cell? w p hp) hn)).trans hp
  have cell2 : ∀ {p : Addr} {v : Value}, w1.cell? p = some v → p.block ≠ m → w2.cell? p = some v := fun {p v} hp hn => (World.cell?_of_block (w := w1) (K2.block p.block (World.block_lt_of_cell? w1 p hp) hn)).trans hp
  have rg1 : w1.rangeAt bx 0 (cellsS s) := fun j v hv => cell1 (hbx j v hv) (hbxn i)
  refine ⟨w2, hup, ⟨by rw [cell_blk hbd1]; rfl, by rw [cell_blk hbi1]; rfl, by rw [cell_blk hblk1]; rfl, rg1⟩, ⟨by rw [cell_blk hbd2]; rfl, by rw [cell_blk hbi2]; rfl, by rw [cell_blk hblk2]; rfl, fun j v hv => cell2 (rg1 j v hv) hbxm⟩, hbd2, hbi2, ?_⟩
  have hlenf : ((wr i ++ [s]).flatMap cellsS) = (wr i).flatMap cellsS ++ cellsS s := by simp [List.flatMap_append]
  have ho : OwnS w1 W0.heap.size (.slice (some ⟨g, 0, none⟩) ((wr i).length + 1) cap) (wr i ++ [s]) := by
    unfold OwnS
    rw [hlenf, List.length_append]
    exact hown
  have hoV : ∀ j, j ≠ (i : Int) → OwnS w1 W0.heap.size (V j) (wr j) := fun j hj => (hr.own j).keep K1 (fun q hq hq' => hr.apart j i q hj hq hq')
  have hltV : ∀ j b, (V j).ownBlock = some b → b ≠ w.heap.size := fun j b hb e => by have := ((hr.own j).lt hb).2; omega
  have hr1 := hr.put (w' := w1) hD i g ((wr i).length + 1) cap w.heap.size (wr i ++ [s]) (by simp) ho hoV hat hltV
  have hr2 := hr1.keep K2 (fun q hq (e : q = m) => by omega)
  refine ⟨⟨left, hblk2⟩, ⟨cs, b2 (b1 hsec f4) (ne_cm hsec), hcs⟩, s64, ⟨k + 1, _, _, hown2, by omega, hD.put _ _, hr2⟩, fun j t ht => ?_, fun j => ?_, fun j hj => ?_, ⟨k2, D2, ownsMap_keep (ownsMap_keep hsm K1 f3) K2 (fun e => n6 e.symm), by omega, hD2, hb2⟩, n1, n2, n3, n4, n5, n6, l1, l2, l3, l4, ?_, nn, by omega⟩
  · split at ht
    · rcases List.mem_append.1 ht with ht | ht
      · exact w64 _ t ht
      · simp at ht; rw [ht]; exact hs
    · exact w64 j t ht
  · split
    · rw [List.length_append]; have := wlen i; simp; omega
    · have := wlen j; omega
  · split at hj
    · rename_i e; subst e; omega
    · exact wn j hj
  · have k1 : Keeps (drvF d sf m sp) W0 w1 := kp.trans K1 (fun q hq => .inr (hVi.lt hq).1)
    exact k1.trans K2 (fun q hq => .inl (.inr (.inr (.inl hq))))
end

end Go.Proofs.YtdilchcnfnfdiaaGreatDoor
namespace Go.Proofs.YtdilchcnfnfdiaaGreatDoor
open Go.RowKit Go.Maps
open Go.ChangeMaps (setBlock)

/-- Behind the delete, and one less that is left. -/
theorem Pend.done {W0 w w3 : World} {d sf m sp n lim : Nat} {safe : Nat → Sec} {wr : Int → List Sec} {bad : Int → Bool} (h : Pend W0 d sf m sp n lim safe wr bad w) (i : Int) {q : Nat} {D2 : DataW Unit} (hq : q ≤ lim) (hD2 : IsMap D2)
    (hb2 : ∀ j, D2.atKey (keyI j) (.lit (.bool false)) = .lit (.bool (bad j))) (ho : w3.ownsMap Tryz.prog 3 (plainElem Tryz.prog 4) sp q (D2.del (keyI i))) (K : Keeps (fun b => b = sp) w w3) :
    (∃ left : Int, w3.heap[d]? = some (.cells #[.slice (some ⟨sf, 0, none⟩) n n, .map (some m), .map (some sp), .bool false, num left, .bool false] 95) ∧
      ∀ u : Int, Pend W0 d sf m sp n lim safe wr (fun j => if j = i then false else bad j) (w3.setCell ⟨d, 4, none⟩ (num u))) := by
  obtain ⟨⟨left, hblk⟩, ⟨cs, hsec, hcs⟩, s64, ⟨k, D, V, hm, hk, hD, hr⟩, w64, wlen, wn, _, n1, n2, n3, n4, n5, n6, l1, l2, l3, l4, kp, nn, ll⟩ := h
  have b3 := K.blk hblk n3
  refine ⟨left, b3, fun u => ?_⟩
  have KS := (Keeps.refl (fun b => b = d) w3).set (p := ⟨d, 4, none⟩) (.inl rfl) (num u)
  refine ⟨⟨u, set_blk b3 4 (num u)⟩, ⟨cs, KS.blk (K.blk hsec n5) (fun e => n1 e.symm), hcs⟩, s64, ⟨k, D, V, ownsMap_keep (ownsMap_keep hm K n6) KS (fun e => n2 e.symm), hk, hD, (hr.keep K (fun g hg (e : g = sp) => by omega)).keep KS (fun g hg (e : g = d) => by omega)⟩, w64, wlen, wn, ⟨q, _, ownsMap_keep ho KS (fun e => n3 e.symm), hq, hD2.del _, fun j => ?_⟩, n1, n2, n3, n4, n5, n6, l1, l2, l3, l4, ?_, nn, ll⟩
  · by_cases e : j = i
    · subst e; rw [if_pos rfl, atKey_del_same]
    · rw [if_neg e, atKey_del_other (keyI_ne e)]; exact hb2 j
  · exact (kp.trans K (fun b hb => .inl (.inr (.inr (.inr hb))))).set (p := ⟨d, 4, none⟩) (.inl (.inl rfl)) _

section
variable {W0 w : World} {d sf m sp n lim : Nat} {safe : Nat → Sec} {wr : Int → List Sec} {bad : Int → Bool} (h : Pend W0 d sf m sp n lim safe wr bad w)
include h
set_option maxRecDepth 100000 in
set_option maxHeartbeats 1000000 in
theorem write1_walk (bd bi i : Nat) (s : Sec) (hs : s.length = 64) (hbd : w.heap[bd]? = some (.cells #[ptr d] 36)) (hbi : w.heap[bi]? = some (.cells #[num i] 3)) (hi : i < n) (hlim : lim < 100000) :
    Calls Tryz.prog 90 #[.agg (cellsS s).toArray, ptr bd, ptr bi] w fun e w' => e = .returned (.tuple #[]) ∧ Pend W0 d sf m sp n (lim + 1) safe (fun j => if j = (i : Int) then wr i ++ [s] else wr j) (fun j => if j = (i : Int) then false else bad j) w' := by
  obtain ⟨left, hblk⟩ := h.blk
  obtain ⟨k, D, V, hm, hk, hD, hr⟩ := h.wm
  have hn4 := h.nn.2
  have hi64 : (i : Int) ≤ 4096 := by omega
  obtain ⟨wb, hwb⟩ : ∃ wb, w.alloc (.cells (cellsS s).toArray 100) = wb := ⟨_, rfl⟩
  have eb : Ext w wb := by rw [← hwb]; exact (Ext.refl w).alloc _
  have hbox : wb.heap[w.heap.size]? = some (.cells (cellsS s).toArray 100) := by rw [← hwb]; exact alloc_new w _
  have ea : Ext wb (wb.alloc (.cells (cellsS s).toArray 100)).drew := ((Ext.refl wb).alloc _).drew
  have hnew := drew_blk (alloc_new wb (.cells (cellsS s).toArray 100))
  have k0 : wb.cell? ⟨bd, 0, none⟩ = some (ptr d) := by rw [cell_blk (eb.blk hbd)]; rfl
  have k1 : wb.cell? ⟨bi, 0, none⟩ = some (num i) := by rw [cell_blk (eb.blk hbi)]; rfl
  have k2c : wb.cell? ⟨d, 1, none⟩ = some (.map (some m)) := by rw [cell_blk (eb.blk hblk)]; rfl
  have krg : wb.rangeAt w.heap.size 0 (cellsS s) := fun j v hv => by
    rw [cell_blk hbox, Nat.zero_add]
    simpa using hv
  have hlen : (cellsS s).length = 64 := by rw [cellsS_len]; exact hs
  have hone := cellsS_one s
  have hsz64 : (Tryz.prog.info? 100).map (·.size) = some (cellsS s).length := by rw [hlen]; exact Tryz.sSec
  have hl0 := rows_look (w := wb.drew) (ownsMap_keep hm (eb.to_keeps.drew) (fun h => h)) (hr.keep eb.to_keeps.drew (fun _ _ h => h)) i (by omega) (by omega)
  have hm2 := ownsMap_keep hm ((eb.trans ea).to_keeps) (fun h => h)
  have hr2 := hr.keep (eb.trans ea).to_keeps (fun _ _ h => h)
  have hl1 := rows_look hm2 hr2 i (by omega) (by omega)
  have hS1 : (wb.alloc (.cells (cellsS s).toArray 100)).drew.cell? ⟨bd, 0, none⟩ = some (ptr d) ∧ (wb.alloc (.cells (cellsS s).toArray 100)).drew.cell? ⟨bi, 0, none⟩ = some (num i) ∧ (wb.alloc (.cells (cellsS s).toArray 100)).drew.cell? ⟨d, 1, none⟩ = some (.map (some m)) ∧ (wb.alloc (.cells (cellsS s).toArray 100)).drew.rangeAt w.heap.size 0 (cellsS s) :=
    ⟨ea.cell k0, ea.cell k1, ea.cell k2c, fun j v hv => ea.cell (krg j v hv)⟩
  have hO := hr2.own i
  have HO := Lib.hid hO
  have HN := Lib.hid (World.news_of_block hnew)
  have HSt := Lib.hid (fun g cap w1 => write1_step (h.ext (eb.trans ea)) bd bi w.heap.size i s hs ((eb.trans ea).blk hbd) ((eb.trans ea).blk hbi) hi hlim hm2 hk hD hr2 hS1.2.2.2 (fun j e => by have := ((hr.own j).lt e).2; omega) (by have := h.l3; have := h.keeps.size; omega) g cap w1)
  have hB0 : W0.heap.size ≤ (wb.alloc (.cells (cellsS s).toArray 100)).drew.heap.size := by have := h.keeps.size; have := (eb.trans ea).size; omega
  have hwl := h.wlen i
  have hML : (wr i).length + 1 ≤ maxLen := by unfold maxLen; omega
  have hBy : ((wr i).length + 1) * 64 ≤ 140737488355328 := by omega
  have hzs : (Value.agg (Array.replicate 64 (Value.int .u8 0))).cells.size = 64 := by simp [Value.cells]
  obtain ⟨i0, hi0, hz0, hz1, hz2⟩ := info_parts Tryz.iSec
  have S0 : wb.drew.cell? ⟨bd, 0, none⟩ = some (ptr d) ∧ wb.drew.cell? ⟨bi, 0, none⟩ = some (num i) ∧ wb.drew.cell? ⟨d, 1, none⟩ = some (.map (some m)) ∧ wb.drew.rangeAt w.heap.size 0 (cellsS s) := ⟨k0, k1, k2c, krg⟩
  have HI := Lib.hid (And.intro hi0 (And.intro hz0 (And.intro hz1 hz2)))
  clear h hm hr hm2 hr2 hO hblk hbd hbi hnew eb ea hbox hi0 hz0 hz1 hz2 hk hD k0 k1 k2c krg
  go_enter Tryz.func90, Tryz.ntmps90
  go_wp2_with fail
  have huS := Tryz.uSec
  have hfold := fold_sec s hs
  go_region_held3 (fun w' => w'.cell? ⟨bd, 0, none⟩ = some (ptr d) ∧ w'.cell? ⟨bi, 0, none⟩ = some (num i) ∧ w'.cell? ⟨d, 1, none⟩ = some (.map (some m)) ∧ w'.rangeAt w.heap.size 0 (cellsS s)) (first | assumption)
    (first | (refine step_append_lies _ rfl (.tmp 14) (.tmp 16) 91 rfl W0.heap.size 100 i0 _ 64 64 Tryz.uSecs HI.out.1 HI.out.2.1 HI.out.2.2.1 HI.out.2.2.2 hzs (by decide) (V i) (wr i).length ((wr i).flatMap cellsS) rfl HO.out ⟨wb.heap.size, 0, none⟩ 1 1 (cellsS s) rfl (by rw [hlen]) HN.out hone (by decide) hML hBy hB0 _ rfl ?_; intro g cap w1 hown hgrow hat hlt; obtain ⟨w2, hup, hSa, hSb, hbd2, hbi2, hP2⟩ := HSt.out g cap w1 hown hgrow hat; have HP2 := Lib.hid (And.intro hbd2 (And.intro hbi2 hP2)); clear hown hgrow hat hlt hbd2 hbi2 hP2))
  all_goals (
    obtain ⟨hbd2, hbi2, hP2⟩ := HP2.out
    obtain ⟨left2, hblk2⟩ := hP2.blk
    obtain ⟨q2, D2, hsm, hk2, hD2, hb2⟩ := hP2.sm
    have c2 : w2.cell? ⟨d, 2, none⟩ = some (.map (some sp)) := by rw [cell_blk hblk2]; rfl
    have c0 := hSb.1
    have c1 := hSb.2.1
    have hsmD : w2.drew.ownsMap Tryz.prog 3 (plainElem Tryz.prog 4) sp q2 D2 := hsm
    have HSM := Lib.hid hsmD
    have HKEY := Lib.hid (keyI_mk (i : Int) (by omega) (by omega))
    clear hup hSa hSb hl0 hl1 hS1 hfold huS HSt HO HN HI hsm hsmD S0
    go_wp2_with fail
    go_still_tail 5, (by kernel_rfl)
    refine wpList_delete_own _ rfl (.tmp 21) (.tmp 22) _ _ rfl _ Tryz.intKey Tryz.uSpoilt _ sp q2 D2 rfl HSM.out _ (keyI i) rfl HKEY.out ?_
    intro w3 hown3 hturn3
    have K3 : Keeps (fun b => b = sp) w2 w3 := (Keeps.refl _ w2).drew.trans (Keeps.of_grown hturn3.grown) (fun _ h => .inl h)
    obtain ⟨left3, hblk3, hP3⟩ := hP2.done i hk2 hD2 hb2 hown3 K3
    have nbs : ¬ bd = sp := by
      intro e
      obtain ⟨es, cl, hmb, _⟩ := HSM.out
      have hmb2 : w2.heap[sp]? = some (.map es cl) := hmb
      rw [← e, hbd2] at hmb2
      injection hmb2 with hmb2
      cases hmb2
    have c03 : w3.cell? ⟨bd, 0, none⟩ = some (ptr d) := by
      rw [cell_blk (K3.blk hbd2 nbs)]
      rfl
    have c43 : w3.cell? ⟨d, 4, none⟩ = some (num left3) := by rw [cell_blk hblk3]; rfl
    have f43 : w3.frozen? ⟨d, 4, none⟩ = false := free_blk hblk3 4
    have HP3 := Lib.hid hP3
    clear hP3 K3 hown3 hturn3 HSM HKEY hP2 HP2 hblk2 hbd2 hbi2 c0 c1 c2 hblk3
    go_wp2_with fail
    go_end0
    exact ⟨rfl, HP3.out _⟩)
end

end Go.Proofs.YtdilchcnfnfdiaaGreatDoor
namespace Go.Proofs.YtdilchcnfnfdiaaGreatDoor
open Go.RowKit Go.Maps

/-- The bytes of a text. -/
def secOf (s : ByteArray) : Sec := s.data.toList.map (·.toNat)
theorem secOf_len (s : ByteArray) : (secOf s).length = s.size := by
  unfold secOf
  rw [List.length_map, Array.length_toList]
  rfl
theorem cellsS_secOf (s : ByteArray) : cellsS (secOf s) = s.data.toList.map fun b => Value.int .u8 (b.toNat : Int) := by
  unfold cellsS secOf
  rw [List.map_map]
  rfl
theorem bytesRow_range (w : World) (s : ByteArray) (cap : Nat) : (w.alloc (.cells (bytesRow s cap) 5 ((bytesRow s cap).size, (bytesRow s cap).size + 1))).drew.rangeAt w.heap.size 0 (cellsS (secOf s)) := by
  intro j v hv
  rw [cellsS_secOf] at hv
  have hj : j < s.data.size := by
    have := (List.getElem?_eq_some_iff.1 hv).1
    simpa using this
  have hb : (w.alloc (.cells (bytesRow s cap) 5 ((bytesRow s cap).size, (bytesRow s cap).size + 1))).drew.heap[w.heap.size]? = some (.cells (bytesRow s cap) 5 ((bytesRow s cap).size, (bytesRow s cap).size + 1)) := drew_blk (alloc_new w _)
  rw [cell_of_row _ _ _ _ _ _ hb, Nat.zero_add]
  unfold bytesRow
  rw [Array.getElem?_append_left (by simpa using hj)]
  simpa using hv
theorem Tryz.runs (k : FuncId) {fn : Func} {c : Code} (hf : Tryz.prog.funcs[k]? = some fn) (hname : (fn.name == "runtime.NumGoroutine") = false) (hb : fn.body = some c) : ∀ args W, (callFunc k args).run Tryz.prog W = .ok (.enter k args) W := fun args w => Go.MuLone.run_callFunc_enter (P := Tryz.prog) hf hname hb args w

section
variable {W0 w : World} {d sf m sp n lim : Nat} {safe : Nat → Sec} {wr : Int → List Sec} {bad : Int → Bool} (h : Pend W0 d sf m sp n lim safe wr bad w)
include h
theorem off_walk : Calls Tryz.prog 91 #[ptr d] w fun e w' => e = .returned (.bool false) ∧ w' = w := by
  obtain ⟨left, hblk⟩ := h.blk
  have c5 : w.cell? ⟨d, 5, none⟩ = some (.bool false) := by rw [cell_blk hblk]; rfl
  clear h hblk
  go_enter Tryz.func91, Tryz.ntmps91
  go_wp2
  go_ret
  exact ⟨rfl, rfl⟩
theorem dead_walk : Calls Tryz.prog 45 #[ptr d] w fun e w' => e = .returned (.bool false) ∧ w' = w := by
  obtain ⟨left, hblk⟩ := h.blk
  have c3 : w.cell? ⟨d, 3, none⟩ = some (.bool false) := by rw [cell_blk hblk]; rfl
  clear h hblk
  go_enter Tryz.func45, Tryz.ntmps45
  go_wp2
  go_ret
  exact ⟨rfl, rfl⟩
theorem sectors_walk : Calls Tryz.prog 72 #[ptr d] w fun e w' => e = .returned (num n) ∧ w' = w := by
  obtain ⟨left, hblk⟩ := h.blk
  have c3 : w.cell? ⟨d, 0, none⟩ = some (.slice (some ⟨sf, 0, none⟩) n n) := by rw [cell_blk hblk]; rfl
  clear h hblk
  go_enter Tryz.func72, Tryz.ntmps72
  go_wp2
  go_ret
  exact ⟨rfl, rfl⟩
theorem may_walk (i : Nat) (hi : i < n) : Calls Tryz.prog 44 #[ptr d, num i] w fun e w' => e = .returned (num 0) ∧ w' = w := by
  obtain ⟨left, hblk⟩ := h.blk
  have c0 : w.cell? ⟨d, 0, none⟩ = some (.slice (some ⟨sf, 0, none⟩) n n) := by rw [cell_blk hblk]; rfl
  have c3 : w.cell? ⟨d, 3, none⟩ = some (.bool false) := by rw [cell_blk hblk]; rfl
  have HO := Lib.hid (off_walk h)
  have hn := h.nn.2
  clear h hblk
  go_enter Tryz.func44, Tryz.ntmps44
  go_wp2_with fail
  refine HO.out.mono ?_
  rintro e w' ⟨rfl, rfl⟩
  clear HO
  go_wp2_with fail
  go_ret
  exact ⟨rfl, rfl⟩

set_option maxRecDepth 100000 in
theorem put_walk (i k : Nat) (c1 c2 : Value) (s : ByteArray) (hs : s.size = 64) (hi : i < n) (R : World → Prop) (hrun : ∀ args W, (callFunc k args).run Tryz.prog W = .ok (.enter k args) W)
    (hk : ∀ W, Ext w W → Calls Tryz.prog k #[.agg (cellsS (secOf s)).toArray, c1, c2] W fun e w' => e = .returned (.tuple #[]) ∧ R w') :
    Calls Tryz.prog 89 #[ptr d, num i, .string s, .func (.func k) #[] #[c1, c2]] w fun e w' => e = .returned (num 0) ∧ R w' := by
  have HM := Lib.hid (may_walk h i hi)
  have HK := Lib.hid hk
  have hs2 : ((s.size : Int) != 64) = false := by rw [hs]; rfl
  have kc := fun W : World => run_bytes_of_string (P := Tryz.prog) W 9 34 5 s Tryz.underlying9 Tryz.underlying34 Tryz.underlying5
  have hat : ∀ (b c : Nat) (W : World), (Instr.arrayAt 100 (.slice (some ⟨b, 0, none⟩) s.size c)).run Tryz.prog W = .ok (.pointer (some ⟨b, 0, none⟩)) W := fun b c W => run_arrayAt W 100 5 64 _ _ _ Tryz.uSec (by rw [hs]; exact Nat.le_refl _)
  have HZ := Lib.hid (show (Tryz.prog.info? 100).map (·.size) = some (cellsS (secOf s)).length by rw [cellsS_len, secOf_len, hs]; exact Tryz.sSec)
  have HS := Lib.hid hs
  clear h hk hs
  go_enter Tryz.func89, Tryz.ntmps89
  go_wp2_with fail
  refine HM.out.mono ?_
  rintro e w' ⟨rfl, rfl⟩
  clear HM
  go_wp2_with (refine wpList_load_mid rfl 100 (.tmp 25) rfl w'.heap.size 0 rfl (cellsS (secOf s)) _ (bytesRow_range w' s _) Tryz.uSec rfl HZ.out ?_)
  refine (HK.out _ (((Ext.refl w').alloc _).drew)).mono ?_
  rintro e w2 ⟨rfl, hR⟩
  have HR := Lib.hid hR
  clear HK hR kc hat HZ
  go_wp2_with fail
  go_ret
  exact ⟨rfl, HR.out⟩

set_option maxRecDepth 100000 in
/-- Write, in range. -/
theorem write_walk (i : Nat) (s : ByteArray) (hs : s.size = 64) (hi : i < n) (hlim : lim < 100000) :
    Calls Tryz.prog 42 #[ptr d, num i, .string s] w fun e w' => e = .returned (num 0) ∧ Pend W0 d sf m sp n (lim + 1) safe (fun j => if j = (i : Int) then wr i ++ [secOf s] else wr j) (fun j => if j = (i : Int) then false else bad j) w' := by
  have e2 := ((Ext.refl w).alloc (.cells #[ptr d] 36)).alloc (.cells #[num i] 3)
  have b1 := alloc_old (.cells #[num i] 3) (alloc_new w (.cells #[ptr d] 36))
  have b2 := alloc_new (w.alloc (.cells #[ptr d] 36)) (.cells #[num i] 3)
  rw [size_alloc] at b2
  have HP := Lib.hid (put_walk (h.ext e2) i 90 (ptr w.heap.size) (ptr (w.heap.size + 1)) s hs hi _ (Tryz.runs _ Tryz.func90 (by kernel_rfl) rfl)
    (fun W e => write1_walk ((h.ext e2).ext e) w.heap.size (w.heap.size + 1) i (secOf s) (by rw [secOf_len]; exact hs) (e.blk b1) (e.blk b2) hi hlim))
  clear h e2 b1 b2
  go_enter Tryz.func42, Tryz.ntmps42
  go_wp2_with fail
  refine HP.out.mono ?_
  rintro e w2 ⟨rfl, hR⟩
  have HR := Lib.hid hR
  clear HP hR
  go_wp2_with fail
  go_ret
  exact ⟨rfl, HR.out⟩
end

end Go.Proofs.YtdilchcnfnfdiaaGreatDoor
