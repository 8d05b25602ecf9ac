/- A drive that is new. Slices that the call itself makes, of elements of one cell, whatever they are. drives. -/
import Derived.Test.YtdilchcnfnfdiaaGreatDoorTSet
import Derived.Laws.MakeOwn
namespace Go.Proofs.YtdilchcnfnfdiaaGreatDoor
open Go.RowKit Go.Maps

def zeroS : Sec := List.replicate 64 0
theorem zeroS_len : zeroS.length = 64 := by simp [zeroS]
theorem zeroS_at {j : Nat} {v : Value} (h : (cellsS zeroS)[j]? = some v) : v = .int .u8 0 := by
  have hm := List.mem_of_getElem? h
  obtain ⟨b, hb, rfl⟩ := List.mem_map.1 hm
  rw [(List.mem_replicate.1 hb).2]
  rfl
theorem make_secs (n : Nat) (hn : n ≤ 4096) (W : World) : ∃ cs, (Instr.makeSlice 91 (num n) (num n)).run Tryz.prog W = .ok (.slice (some ⟨W.heap.size, 0, none⟩) n n) (W.alloc (.cells cs 100)) ∧ cs.size = n * 64 ∧ ∀ j, j < n * 64 → cs[j]? = some (.int .u8 0) := by
  obtain ⟨i, hi, hz0, hz1, hz2⟩ := info_parts Tryz.iSec
  have h := run_make (P := Tryz.prog) (w := W) 91 100 i _ Tryz.uSecs hi hz0 .i64 .i64 (n : Int) (n : Int) (by omega) (by omega) (by rw [hz2]; omega) (by omega)
  rw [hz1, Int.toNat_natCast] at h
  refine ⟨_, h, size_madeCells _ _, fun j hj => ?_⟩
  have hm : j % 64 < 64 := Nat.mod_lt _ (by decide)
  simp [madeCells, hj, Value.cells, hm]

set_option maxRecDepth 100000 in
theorem dnew_walk (n : Nat) (w : World) (h1 : 1 ≤ n) (h2 : n ≤ 4096) :
    Calls Tryz.prog 12 #[num n] w fun e w' => ∃ d sf m sp, e = .returned (ptr d) ∧ Calm w' d sf m sp n 0 (fun _ => zeroS) (fun _ => false) ∧ w.heap.size ≤ d ∧ w.heap.size ≤ sf ∧ w.heap.size ≤ m ∧ w.heap.size ≤ sp ∧ Ext w w' := by
  obtain ⟨cs, hmk, hcs, hc0⟩ := make_secs n h2 w
  obtain ⟨w1, hw1⟩ : ∃ w1, w.alloc (.cells cs 100) = w1 := ⟨_, rfl⟩
  rw [hw1] at hmk
  have s1 : w1.heap.size = w.heap.size + 1 := by rw [← hw1, size_alloc]
  have b1 : w1.heap[w.heap.size]? = some (.cells cs 100) := by rw [← hw1]; exact alloc_new w _
  have e1 : Ext w w1 := by rw [← hw1]; exact (Ext.refl w).alloc _
  have hI1 : (1 : Int) ≤ n := by omega
  have hI2 : (n : Int) ≤ 4096 := by omega
  have HF := Lib.hid (show Calm (((w1.alloc (.map #[] 0)).alloc (.map #[] 0)).alloc (.cells #[.slice (some ⟨w.heap.size, 0, none⟩) n n, .map (some w1.heap.size), .map (some (w1.heap.size + 1)), .bool false, num 0, .bool false] 95)) (w1.heap.size + 2) w.heap.size w1.heap.size (w1.heap.size + 1) n 0 (fun _ => zeroS) (fun _ => false) by
    have k2 := (Ext.refl (w1.alloc (.map #[] 0))).alloc (.map #[] 0)
    have k3 := (Ext.refl ((w1.alloc (.map #[] 0)).alloc (.map #[] 0))).alloc (.cells #[.slice (some ⟨w.heap.size, 0, none⟩) n n, .map (some w1.heap.size), .map (some (w1.heap.size + 1)), .bool false, num 0, .bool false] 95)
    have m1 := World.ownsMap_made (H := Unit) w1 Tryz.prog 3 rowRef
    have m2 := World.ownsMap_made (H := Unit) (w1.alloc (.map #[] 0)) Tryz.prog 3 (plainElem Tryz.prog 4)
    rw [size_alloc] at m2
    have bd := alloc_new ((w1.alloc (.map #[] 0)).alloc (.map #[] 0)) (.cells #[.slice (some ⟨w.heap.size, 0, none⟩) n n, .map (some w1.heap.size), .map (some (w1.heap.size + 1)), .bool false, num 0, .bool false] 95)
    rw [size_alloc, size_alloc] at bd
    refine ⟨⟨0, bd⟩, ⟨cs, k3.blk (k2.blk (((Ext.refl w1).alloc _).blk b1)), hcs, fun i hi j v hv => ?_⟩, fun _ _ => zeroS_len, ⟨0, ownsMap_keep (ownsMap_keep m1 k2.to_keeps (fun h => h)) k3.to_keeps (fun h => h), Nat.le_refl _⟩, ⟨0, _, ownsMap_keep m2 k3.to_keeps (fun h => h), Nat.le_refl _, ⟨[], rfl⟩, fun _ => rfl⟩, by omega, by omega, by omega, by omega, by omega, by omega, ⟨h1, h2⟩, by omega⟩
    have hj : j < 64 := by
      have := (List.getElem?_eq_some_iff.1 hv).1
      rw [cellsS_len, zeroS_len] at this
      exact this
    rw [hc0 _ (by omega), zeroS_at hv])
  have HE := Lib.hid ((((e1.alloc (.map #[] 0)).alloc (.map #[] 0))).alloc (.cells #[.slice (some ⟨w.heap.size, 0, none⟩) n n, .map (some w1.heap.size), .map (some (w1.heap.size + 1)), .bool false, num 0, .bool false] 95))
  have HS := Lib.hid s1
  clear hw1 s1 b1 e1 hcs hc0
  have hmm := @run_makeMap Tryz.prog
  go_enter Tryz.func12, Tryz.ntmps12
  go_wp2_with fail
  trace_state
  go_ret
  have hs := HS.out
  refine ⟨w1.heap.size + 2, w.heap.size, w1.heap.size, w1.heap.size + 1, rfl, HF.out, by omega, by omega, by omega, by omega, HE.out⟩

end Go.Proofs.YtdilchcnfnfdiaaGreatDoor
namespace Go.Proofs.YtdilchcnfnfdiaaGreatDoor
open Go.RowKit

/-- v is a slice of the call's own (from block B on) of type t's elements, that holds f of xs. -/
def OwnM {α : Type} (t : TypeId) (f : α → Value) (w : World) (B : Nat) (v : Value) (xs : List α) : Prop := w.ownsRow B t 1 v xs.length (xs.map f)
section
variable {α : Type} {t : TypeId} {f : α → Value} {w w' : World} {B : Nat} {v : Value} {xs : List α}
theorem OwnM.nil (t : TypeId) (f : α → Value) (w : World) (B : Nat) : OwnM t f w B (.slice none 0 0) [] := w.ownsRow_nil B _ 1
theorem OwnM.lt (h : OwnM t f w B v xs) {g : Nat} (hg : v.ownBlock = some g) : B ≤ g ∧ g < w.heap.size := World.ownsRow.lt h g hg
theorem OwnM.of_eq (h : OwnM t f w B v xs) (hk : ∀ g, v.ownBlock = some g → w'.heap[g]? = w.heap[g]?) : OwnM t f w' B v xs := by
  refine ⟨h.1, ?_⟩
  rcases h.2 with hn | ⟨g, cap, cur, rfl, hb, hgg, rest⟩
  · exact .inl hn
  · exact .inr ⟨g, cap, cur, rfl, hb, (hk g rfl).trans hgg, rest⟩
theorem OwnM.keep (h : OwnM t f w B v xs) {F : Nat → Prop} (k : Keeps F w w') (hF : ∀ g, v.ownBlock = some g → ¬ F g) : OwnM t f w' B v xs :=
  h.of_eq fun g hg => k.block g (h.lt hg).2 (hF g hg)
theorem OwnM.ext (h : OwnM t f w B v xs) (e : Ext w w') : OwnM t f w' B v xs := h.keep e.to_keeps (fun _ _ h => h)
theorem OwnM.mono (h : OwnM t f w B v xs) {B' : Nat} (hB : B' ≤ B) : OwnM t f w B' v xs := by
  refine ⟨h.1, ?_⟩
  rcases h.2 with hn | ⟨g, cap, cur, rfl, hb, rest⟩
  · exact .inl hn
  · exact .inr ⟨g, cap, cur, rfl, Nat.le_trans hB hb, rest⟩
theorem OwnM.rd (h : OwnM t f w B v xs) (d : α) : Rd f d w v xs := by
  rcases h.2 with ⟨rfl, hn⟩ | ⟨g, cap, cur, rfl, hb, hgg, hc, _, hs, ht⟩
  · exact ⟨none, 0, by rw [hn], by omega, fun i hi => by omega⟩
  · refine ⟨some ⟨g, 0, none⟩, cap, rfl, hc, fun i hi => ⟨⟨g, 0, none⟩, rfl, ?_⟩⟩
    rw [zero_add, cell_blk hgg]
    have h1 : (xs.map f)[i]? = some (f (xs.getD i d)) := by simp [hi]
    rw [← ht, List.getElem?_take] at h1
    split at h1
    · simpa using h1
    · cases h1
/-- A slice that has just been written out. -/
theorem OwnM.lit (w : World) (xs : List α) (hb : B ≤ w.heap.size) (hm : xs.length ≤ maxLen) : OwnM t f (w.alloc (.cells (xs.map f).toArray t)) B (.slice (some ⟨w.heap.size, 0, none⟩) xs.length xs.length) xs := by
  refine ⟨by simp, .inr ⟨w.heap.size, xs.length, (xs.map f).toArray, rfl, hb, alloc_new w _, Nat.le_refl _, hm, by simp, ?_⟩⟩
  simp
  exact List.take_of_length_le (by simp)
theorem OwnM.shape (h : OwnM t f w B v xs) (hne : xs ≠ []) : ∃ g cap, v = .slice (some ⟨g, 0, none⟩) xs.length cap ∧ B ≤ g ∧ g < w.heap.size := by
  rcases h.2 with ⟨rfl, hn⟩ | ⟨g, cap, cur, rfl, hb, hgg, hc, _, hs, ht⟩
  · exact absurd (List.eq_nil_of_length_eq_zero hn) hne
  · exact ⟨g, cap, rfl, hb, block_lt hgg⟩

variable {ops : Array Oper} {rest : List Oper} {o : Oper} {a : Act} {Q : Exit → Act → World → Prop}
/-- 'xs = append(xs, y)'. -/
theorem wpList_append_one {ts : TypeId} {z : Value} {bytes : Nat} (uS : Tryz.prog.underlying ts = some (.slice t)) (iE : (Tryz.prog.info? t).map (fun i => (i.zero, i.size, i.bytes)) = some (some z, 1, bytes)) (hz : z.cells.size = 1) (hbs : bytes ≤ 64)
    (hg : o.guard = none) (s x : Operand) (ho : o.op = .call { callee := .builtin .append, args := #[s, x], argTypes := #[ts, ts] })
    (B : Nat) (v : Value) (xs : List α) (hs : a.eval s = v) (hown : OwnM t f w B v xs) (b : Nat) (y : α) (hx : a.eval x = .slice (some ⟨b, 0, none⟩) 1 1) (hb : w.heap[b]? = some (.cells #[f y] t (0, 0))) (h1 : (f y).oneCell' = true)
    (hlen : xs.length ≤ 1048576) (hB : B ≤ w.heap.size)
    (h : ∀ g cap w', OwnM t f w' B (.slice (some ⟨g, 0, none⟩) (xs.length + 1) cap) (xs ++ [y]) → Keeps (fun k => v.ownBlock = some k) w w' → (v.ownBlock = some g ∨ g = w.heap.size) → wpList Tryz.prog ops Q rest (a.put o.dst (.slice (some ⟨g, 0, none⟩) (xs.length + 1) cap)) w') :
    wpList Tryz.prog ops Q (o :: rest) a w := by
  obtain ⟨i, hi, hz0, hz1, hz2⟩ := info_parts iE
  have hmul : (xs.length + 1) * bytes ≤ (1048576 + 1) * 64 := Nat.mul_le_mul (by omega) hbs
  refine wpList_append_lies w hg s x ts ho B t i z 1 bytes uS hi hz0 hz1 hz2 hz (by decide) v xs.length (xs.map f) hs hown ⟨b, 0, none⟩ 1 1 [f y] hx rfl (World.news_of_block (cs := #[f y]) hb) (by simpa using h1) (by decide) (by unfold maxLen; omega) (by omega) hB w.heap.size rfl ?_
  intro g cap w' h1 h2 h3 h4
  refine h g cap w' ?_ (Keeps.of_grownV h2) h3
  unfold OwnM
  rw [List.map_append, List.length_append]
  exact h1
end

theorem Tryz.uPtrs : Tryz.prog.underlying 82 = some (.slice 36) := by kernel_rfl
theorem Tryz.iPtr : (Tryz.prog.info? 36).map (fun i => (i.zero, i.size, i.bytes)) = some (some (.pointer none), 1, 8) := by kernel_rfl
theorem Tryz.uDrv : Tryz.prog.underlying 36 = some (.pointer 95) := by kernel_rfl

/-- The blocks of a drive. -/
structure DB where
  d : Nat
  sf : Nat
  m : Nat
  sp : Nat
abbrev DB.F (x : DB) : Nat → Prop := drvF x.d x.sf x.m x.sp
def DB.apart (x y : DB) : Prop := ∀ b, x.F b → ¬ y.F b
def DB.zero : DB := ⟨0, 0, 0, 0⟩
abbrev DB.val (x : DB) : Value := ptr x.d
/-- A drive with nothing pending, whatever it holds. -/
def DB.Calm (x : DB) (w : World) (n L : Nat) : Prop := ∃ lim safe bad, lim ≤ L ∧ YtdilchcnfnfdiaaGreatDoor.Calm w x.d x.sf x.m x.sp n lim safe bad
theorem DB.Calm.keep {x : DB} {w w' : World} {n L : Nat} (h : x.Calm w n L) {F : Nat → Prop} (K : Keeps F w w') (hF : ∀ b, x.F b → ¬ F b) : x.Calm w' n L := by
  obtain ⟨lim, safe, bad, hl, hc⟩ := h
  exact ⟨lim, safe, bad, hl, hc.keep K (hF _ (.inl rfl)) (hF _ (.inr (.inl rfl))) (hF _ (.inr (.inr (.inl rfl)))) (hF _ (.inr (.inr (.inr rfl))))⟩
theorem DB.Calm.ext {x : DB} {w w' : World} {n L : Nat} (h : x.Calm w n L) (e : Ext w w') : x.Calm w' n L := h.keep e.to_keeps (fun _ _ h => h)
theorem DB.Calm.lt {x : DB} {w : World} {n L : Nat} (h : x.Calm w n L) {b : Nat} (hb : x.F b) : b < w.heap.size := by
  obtain ⟨lim, safe, bad, hl, hc⟩ := h
  have p := hc.pend
  rcases hb with rfl | rfl | rfl | rfl
  · exact p.l1
  · exact p.l2
  · exact p.l3
  · exact p.l4
theorem DB.Calm.mono {x : DB} {w : World} {n L L' : Nat} (h : x.Calm w n L) (hL : L ≤ L') : x.Calm w n L' := by
  obtain ⟨lim, safe, bad, hl, hc⟩ := h
  exact ⟨lim, safe, bad, Nat.le_trans hl hL, hc⟩
/-- Drives. -/
structure Fleet (w : World) (ds : List DB) (n L : Nat) : Prop where
  calm : ∀ x ∈ ds, x.Calm w n L
  apart : ds.Pairwise DB.apart
theorem Fleet.ext {w w' : World} {ds : List DB} {n L : Nat} (h : Fleet w ds n L) (e : Ext w w') : Fleet w' ds n L := ⟨fun x hx => (h.calm x hx).ext e, h.apart⟩
theorem Fleet.mono {w : World} {ds : List DB} {n L L' : Nat} (h : Fleet w ds n L) (hL : L ≤ L') : Fleet w ds n L' := ⟨fun x hx => (h.calm x hx).mono hL, h.apart⟩
theorem Fleet.lt {w : World} {ds : List DB} {n L : Nat} (h : Fleet w ds n L) {x : DB} (hx : x ∈ ds) {b : Nat} (hb : x.F b) : b < w.heap.size := (h.calm x hx).lt hb
theorem Fleet.nil (w : World) (n L : Nat) : Fleet w [] n L := ⟨fun _ h => (by cases h), .nil⟩
theorem Fleet.add {w : World} {ds : List DB} {n L : Nat} (h : Fleet w ds n L) {x : DB} (hx : x.Calm w n L) (ha : ∀ y ∈ ds, y.apart x) : Fleet w (ds ++ [x]) n L := by
  refine ⟨fun y hy => ?_, List.pairwise_append.2 ⟨h.apart, List.pairwise_singleton _ _, fun a ha' b hb => by simp at hb; subst hb; exact ha a ha'⟩⟩
  rcases List.mem_append.1 hy with hy | hy
  · exact h.calm y hy
  · simp at hy; subst hy; exact hx

end Go.Proofs.YtdilchcnfnfdiaaGreatDoor
namespace Go.Proofs.YtdilchcnfnfdiaaGreatDoor
open Go.RowKit

def DrivesRel (w : World) (n k : Nat) (v i : Value) (wr : World) : Prop :=
  ∃ ds : List DB, ds.length ≤ k ∧ i = num ds.length ∧ OwnM 36 DB.val wr w.heap.size v ds ∧ Fleet wr ds n 0 ∧ (∀ x ∈ ds, ∀ b, x.F b → w.heap.size ≤ b ∧ v.ownBlock ≠ some b) ∧ Ext w wr

set_option maxRecDepth 100000 in
theorem drives_walk (k n : Nat) (w : World) (hk : k ≤ 1000) (h1 : 1 ≤ n) (h2 : n ≤ 4096) :
    Calls Tryz.prog 37 #[num k, num n] w fun e w' => ∃ v ds, e = .returned v ∧ ds.length = k ∧ OwnM 36 DB.val w' w.heap.size v ds ∧ Fleet w' ds n 0 ∧ (∀ x ∈ ds, ∀ b, x.F b → w.heap.size ≤ b) ∧ Ext w w' := by
  have hki : (k : Int) ≤ 1000 := by omega
  go_enter Tryz.func37, Tryz.ntmps37
  go_wp2_with fail
  go_loopw [5, 6] (fun v i wr => DrivesRel w n k v i wr) (fun _ i _ => k - (intOf i).toNat)
  case atStart =>
    exact ⟨[], Nat.zero_le _, rfl, OwnM.lit w [] (Nat.le_refl _) (Nat.zero_le _), Fleet.nil _ _ _, (fun _ h => by cases h), (Ext.refl w).alloc _⟩
  case round =>
    obtain ⟨ds, hlk, rfl, hown, hfl, hap, he⟩ := hrel
    by_cases hlt : ds.length < k
    · have HN := Lib.hid (dnew_walk n wr h1 h2)
      have HO := Lib.hid hown
      have HL := Lib.hid hfl
      have HA := Lib.hid hap
      have HE := Lib.hid he
      clear hown hfl hap he
      go_wp2_with fail
      refine HN.out.mono ?_
      rintro e w1 ⟨d, sf, m, sp, rfl, hc, q1, q2, q3, q4, e1⟩
      obtain ⟨x, hx⟩ : ∃ x : DB, x = ⟨d, sf, m, sp⟩ := ⟨_, rfl⟩
      have hxF : ∀ b, x.F b → wr.heap.size ≤ b := by
        subst hx
        rintro b (rfl | rfl | rfl | rfl) <;> assumption
      have hxc : x.Calm w1 n 0 := by subst hx; exact ⟨0, _, _, Nat.le_refl _, hc⟩
      have hd : ptr d = DB.val x := by subst hx; rfl
      have e2 := (Ext.refl w1).alloc (.cells #[ptr d] 36)
      have HO2 := Lib.hid ((HO.out.ext e1).ext e2)
      have hb := alloc_new w1 (.cells #[ptr d] 36)
      have hu5 : ∀ g, u5.ownBlock = some g → g < wr.heap.size := fun g hg => (HO.out.lt hg).2
      have ST := Lib.hid (fun (g cap : Nat) (w2 : World) (h1 : OwnM 36 DB.val w2 w.heap.size (.slice (some ⟨g, 0, none⟩) (ds.length + 1) cap) (ds ++ [x])) (h2 : Keeps (fun k => u5.ownBlock = some k) (w1.alloc (.cells #[ptr d] 36)) w2) (h3 : u5.ownBlock = some g ∨ g = (w1.alloc (.cells #[ptr d] 36)).heap.size) =>
        show DrivesRel w n k (.slice (some ⟨g, 0, none⟩) (ds.length + 1) cap) (num ((ds.length : Int) + 1)) w2 from by
          have e3 := e1.trans e2
          have hK := h2
          have fl0 : Fleet w2 ds n 0 := ⟨fun y hy => ((HL.out.calm y hy).ext e3).keep h2 (fun b hb => (HA.out y hy b hb).2), HL.out.apart⟩
          have hx2 : x.Calm w2 n 0 := (hxc.ext e2).keep h2 (fun b hb (e : u5.ownBlock = some b) => by have := hu5 b e; have := hxF b hb; omega)
          have hap : ∀ y ∈ ds, y.apart x := fun y hy b hb hb' => by have := HL.out.lt hy hb; have := hxF b hb'; omega
          refine ⟨ds ++ [x], by simp; omega, by simp, ?_, fl0.add hx2 hap, fun y hy b hb => ?_, (HE.out.trans e3).keeps h2 (fun b hb => (HO.out.lt hb).1)⟩
          · have h1' := h1
            rw [show ds.length + 1 = (ds ++ [x]).length by simp] at h1'
            rw [show ds.length + 1 = (ds ++ [x]).length by simp]
            exact h1'
          · have hlt1 : b < w1.heap.size := by
              rcases List.mem_append.1 hy with hy | hy
              · have := HL.out.lt hy hb; have := e1.size; omega
              · simp at hy; subst hy; exact hxc.lt hb
            have hge : w.heap.size ≤ b := by
              rcases List.mem_append.1 hy with hy | hy
              · exact (HA.out y hy b hb).1
              · simp at hy; subst hy; have := hxF b hb; have := HE.out.size; omega
            refine ⟨hge, fun e => ?_⟩
            have e : g = b := by simpa [Value.ownBlock] using e
            subst e
            rcases h3 with h3 | h3
            · rcases List.mem_append.1 hy with hy | hy
              · exact (HA.out y hy g hb).2 h3
              · simp at hy; subst hy; have := hxF g hb; have := hu5 g h3; omega
            · rw [size_alloc] at h3; omega)
      have hlen : ds.length ≤ 1048576 := by omega
      have hB : w.heap.size ≤ (w1.alloc (.cells #[ptr d] 36)).heap.size := by rw [size_alloc]; have := HE.out.size; have := e1.size; omega
      have HB := Lib.hid (show (w1.alloc (.cells #[ptr d] 36)).heap[w1.heap.size]? = some (.cells #[DB.val x] 36 (0, 0)) by rw [← hd]; exact hb)
      clear HN HO HL HA HE hc q1 q2 q3 q4 e1 hxF hxc hd e2 hb hu5 hx
      go_wp2_with (at_builtin; refine wpList_append_one Tryz.uPtrs Tryz.iPtr rfl (by decide) rfl _ _ rfl w.heap.size u5 ds rfl HO2.out w1.heap.size x rfl HB.out rfl hlen hB ?_; intro g cap w2 h1 h2 h3; have R := Lib.hid (ST.out g cap w2 h1 h2 h3); clear h1 h2 h3 ST HO2 HB hlen hB)
      go_roundw
      case rel => exact R.out
      case measure => simp [intOf]; omega
    · obtain hlk' : ds.length = k := by omega
      have R := Lib.hid (And.intro hlk' (And.intro hown (And.intro hfl (And.intro hap he))))
      clear hown hfl hap he
      go_wp2_with fail
      go_ret
      obtain ⟨r1, r2, r3, r4, r5⟩ := R.out
      exact ⟨_, ds, rfl, r1, r2, r3, fun x hx b hb => (r4 x hx b hb).1, r5⟩

end Go.Proofs.YtdilchcnfnfdiaaGreatDoor
