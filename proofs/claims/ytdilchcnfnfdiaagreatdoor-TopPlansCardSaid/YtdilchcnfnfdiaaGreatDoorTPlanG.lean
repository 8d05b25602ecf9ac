/- TopPlans: two slices that grow side by side; a map of what was read. -/
import Derived.Test.YtdilchcnfnfdiaaGreatDoorTPlanP
import Derived.Test.YtdilchcnfnfdiaaGreatDoorTMapS
namespace Go.Proofs.YtdilchcnfnfdiaaGreatDoor
open Go.RowKit
open Go.ChangeMaps (setBlock)

theorem Rd.form {α : Type} {f : α → Value} {d : α} {w : World} {v : Value} {xs : List α} (h : Rd f d w v xs) (hne : 0 < xs.length) : ∃ x cap, v = .slice (some x) xs.length cap ∧ xs.length ≤ cap := by
  obtain ⟨A, cap, rfl, hc, hA⟩ := h
  obtain ⟨x, rfl, -⟩ := hA 0 hne
  exact ⟨x, cap, rfl, hc⟩
theorem Rd.get {α : Type} {f : α → Value} {d : α} {w : World} {x : Addr} {m cap : Nat} {xs : List α} (h : Rd f d w (.slice (some x) m cap) xs) {j : Nat} (hj : j < xs.length) : w.cell? (x.add j) = some (f (xs.getD j d)) := by
  obtain ⟨A, cap', e, hc, hA⟩ := h
  obtain ⟨x', rfl, hcj⟩ := hA j hj
  injection e with e1
  injection e1 with e1
  subst e1
  exact hcj
theorem good_nil (n : Nat) : GoodLost n [] := ⟨fun x hx => by simp at hx, by simp, by simp⟩
theorem colsT_data (l : List ByteArray) {i : Nat} (h : i < l.length) : (colsT l).getD i ByteArray.empty = l.getD i ByteArray.empty := by
  rw [colsT, List.getD_eq_getElem?_getD, List.getElem?_append_left h, List.getD_eq_getElem?_getD]
theorem colsT_p (l : List ByteArray) : (colsT l).getD l.length ByteArray.empty = addT l := by
  rw [colsT, List.getD_eq_getElem?_getD, List.getElem?_append_right (Nat.le_refl _), Nat.sub_self]
  rfl
theorem colsT_q (l : List ByteArray) : (colsT l).getD (l.length + 1) ByteArray.empty = qT l l.length := by
  rw [colsT, List.getD_eq_getElem?_getD, List.getElem?_append_right (Nat.le_succ _), show l.length + 1 - l.length = 1 by omega]
  rfl
/-- Two slices of the call's own, in blocks apart; beside them and what is new nothing changed. -/
structure Two (B : Nat) (w3 : World) (b1 b2 : Nat) (l1 : List ByteArray) (l2 : List Bool) (u1 u2 : Value) (wr : World) : Prop where
  o1 : OwnM 9 strv wr B u1 l1
  o2 : OwnB wr B u2 l2
  p1 : ∀ q, u1.ownBlock = some q → q = b1 ∨ w3.heap.size ≤ q
  p2 : ∀ q, u2.ownBlock = some q → q = b2 ∨ w3.heap.size ≤ q
  ne : ∀ q, u1.ownBlock = some q → u2.ownBlock = some q → False
  kp : Keeps (fun q => q = b1 ∨ q = b2) w3 wr
section
variable {B b1 b2 : Nat} {w3 : World} {l1 : List ByteArray} {l2 : List Bool} {u1 u2 : Value} {wr : World}
theorem Two.alloc (h : Two B w3 b1 b2 l1 l2 u1 u2 wr) (o : Obj) : Two B w3 b1 b2 l1 l2 u1 u2 (wr.alloc o) :=
  have e := (Ext.refl wr).alloc o
  ⟨h.o1.ext e, h.o2.ext e, h.p1, h.p2, h.ne, h.kp.alloc o⟩
theorem Two.app2 (h : Two B w3 b1 b2 l1 l2 u1 u2 wr) {b : Bool} {g cap : Nat} {w5 : World} (h1 : OwnB w5 B (.slice (some ⟨g, 0, none⟩) (l2.length + 1) cap) (l2 ++ [b])) (h2 : Keeps (fun q => u2.ownBlock = some q) wr w5) (h3 : u2.ownBlock = some g ∨ g = wr.heap.size) :
    Two B w3 b1 b2 l1 (l2 ++ [b]) u1 (.slice (some ⟨g, 0, none⟩) (l2.length + 1) cap) w5 := by
  have hsz := h.kp.size
  refine ⟨h.o1.keep h2 (fun q hq h' => h.ne q hq h'), h1, h.p1, fun q hq => ?_, fun q hq hq' => ?_, h.kp.trans h2 (fun q hq => ?_)⟩
  · have hq : g = q := by simpa [Value.ownBlock] using hq
    subst hq
    rcases h3 with h3 | rfl
    · exact h.p2 g h3
    · exact .inr hsz
  · have hq' : g = q := by simpa [Value.ownBlock] using hq'
    subst hq'
    rcases h3 with h3 | rfl
    · exact h.ne g hq h3
    · exact absurd (h.o1.lt hq).2 (Nat.lt_irrefl _)
  · rcases h.p2 q hq with rfl | h5
    · exact .inl (.inr rfl)
    · exact .inr h5
theorem Two.app1 (h : Two B w3 b1 b2 l1 l2 u1 u2 wr) {y : ByteArray} {g cap : Nat} {w5 : World} (h1 : OwnM 9 strv w5 B (.slice (some ⟨g, 0, none⟩) (l1.length + 1) cap) (l1 ++ [y])) (h2 : Keeps (fun q => u1.ownBlock = some q) wr w5) (h3 : u1.ownBlock = some g ∨ g = wr.heap.size) :
    Two B w3 b1 b2 (l1 ++ [y]) l2 (.slice (some ⟨g, 0, none⟩) (l1.length + 1) cap) u2 w5 := by
  have hsz := h.kp.size
  refine ⟨h1, h.o2.keep h2 (fun q hq h' => h.ne q h' hq), fun q hq => ?_, h.p2, fun q hq hq' => ?_, h.kp.trans h2 (fun q hq => ?_)⟩
  · have hq : g = q := by simpa [Value.ownBlock] using hq
    subst hq
    rcases h3 with h3 | rfl
    · exact h.p1 g h3
    · exact .inr hsz
  · have hq : g = q := by simpa [Value.ownBlock] using hq
    subst hq
    rcases h3 with h3 | rfl
    · exact h.ne g h3 hq'
    · exact absurd (h.o2.lt hq').2 (Nat.lt_irrefl _)
  · rcases h.p1 q hq with rfl | h5
    · exact .inl (.inl rfl)
    · exact .inr h5
end
theorem Two.start (w2 : World) {B : Nat} (hB : B ≤ w2.heap.size) {w3 : World} (e : Ext ((w2.alloc (.cells #[] 9)).alloc (.cells #[] 4)) w3) :
    Two B w3 w2.heap.size (w2.heap.size + 1) [] [] (.slice (some ⟨w2.heap.size, 0, none⟩) 0 0) (.slice (some ⟨w2.heap.size + 1, 0, none⟩) 0 0) w3 := by
  have h1 := (OwnM.lit (B := B) (t := 9) (f := strv) w2 [] hB (Nat.zero_le _)).ext ((Ext.refl _).alloc (.cells #[] 4))
  have h2 : OwnB ((w2.alloc (.cells #[] 9)).alloc (.cells #[] 4)) B (.slice (some ⟨(w2.alloc (.cells #[] 9)).heap.size, 0, none⟩) 0 0) [] := OwnM.lit (B := B) (t := 4) (f := Value.bool) (w2.alloc (.cells #[] 9)) [] (by rw [size_alloc]; omega) (Nat.zero_le _)
  rw [size_alloc] at h2
  refine ⟨h1.ext e, h2.ext e, fun q hq => ?_, fun q hq => ?_, fun q hq hq' => ?_, Keeps.refl _ _⟩
  · have hq : w2.heap.size = q := by simpa [Value.ownBlock] using hq
    exact .inl hq.symm
  · have hq : w2.heap.size + 1 = q := by simpa [Value.ownBlock] using hq
    exact .inl hq.symm
  · have hq : w2.heap.size = q := by simpa [Value.ownBlock] using hq
    have hq' : w2.heap.size + 1 = q := by simpa [Value.ownBlock] using hq'
    omega
/-- The flags of the columns that are written. -/
def wsL (xs : List Bool) (k : Nat) : List Bool := (List.range k).map fun i => xs.getD i false
theorem wsL_len (xs : List Bool) (k : Nat) : (wsL xs k).length = k := by simp [wsL]
theorem wsL_succ (xs : List Bool) (k : Nat) : wsL xs (k + 1) = wsL xs k ++ [xs.getD k false] := by simp [wsL, List.range_succ]
theorem wsL_at {xs : List Bool} {k i : Nat} (h : i < k) : (wsL xs k).getD i false = xs.getD i false := by simp [wsL, List.getD_eq_getElem?_getD, h]
def GathRel (B : Nat) (w3 : World) (b1 b2 n : Nat) (old fr : List ByteArray) (xs : List Bool) (u1 u2 i : Value) (wr : World) : Prop :=
  ∃ k : Nat, k ≤ n ∧ i = num k ∧ Two B w3 b1 b2 (nowL old fr xs k) (wsL xs k) u1 u2 wr

theorem gath_step {B b1 b2 n k : Nat} {w3 wr : World} {old fr : List ByteArray} {xs : List Bool} {u1 u2 : Value} {T1 : List ByteArray} {T2 : List Bool} {b : Bool} {y : ByteArray} {xd : Addr} (ht : Two B w3 b1 b2 T1 T2 u1 u2 (wr.alloc (.cells #[.bool b] 4)))
    (hB : B ≤ w3.heap.size) (hk : k < n) (z2 : T2.length = k) (s1 : nowL old fr xs (k + 1) = T1 ++ [y]) (s2 : wsL xs (k + 1) = T2 ++ [b]) (hd : ∀ W, Keeps (fun q => q = b1 ∨ q = b2) w3 W → W.cell? (xd.add k) = some (strv y)) :
    ∀ (g cap : Nat) (w5 : World), OwnB w5 B (.slice (some ⟨g, 0, none⟩) (T2.length + 1) cap) (T2 ++ [b]) → Keeps (fun q => u2.ownBlock = some q) (wr.alloc (.cells #[.bool b] 4)) w5 → (u2.ownBlock = some g ∨ g = (wr.alloc (.cells #[.bool b] 4)).heap.size) →
      w5.cell? (xd.add k) = some (strv y) ∧ w5.cell? ⟨g, k, none⟩ = some (.bool b) ∧
      (OwnM 9 strv (w5.alloc (.cells #[strv y] 9)) B u1 T1 ∧ (w5.alloc (.cells #[strv y] 9)).heap[w5.heap.size]? = some (.cells #[strv y] 9 (0, 0)) ∧ B ≤ (w5.alloc (.cells #[strv y] 9)).heap.size) ∧
      ∀ (g6 cap6 : Nat) (w6 : World), OwnM 9 strv w6 B (.slice (some ⟨g6, 0, none⟩) (T1.length + 1) cap6) (T1 ++ [y]) → Keeps (fun q => u1.ownBlock = some q) (w5.alloc (.cells #[strv y] 9)) w6 → (u1.ownBlock = some g6 ∨ g6 = (w5.alloc (.cells #[strv y] 9)).heap.size) →
        GathRel B w3 b1 b2 n old fr xs (.slice (some ⟨g6, 0, none⟩) (T1.length + 1) cap6) (.slice (some ⟨g, 0, none⟩) (T2.length + 1) cap) (num ((k : Int) + 1)) w6 := by
  intro g cap w5 h1 h2 h3
  have T5 := ht.app2 h1 h2 h3
  refine ⟨hd _ T5.kp, ?_, ⟨(T5.alloc _).o1, alloc_new w5 _, ?_⟩, fun g6 cap6 w6 j1 j2 j3 => ⟨k + 1, by omega, by go_num, ?_⟩⟩
  · have h := T5.o2.rd
    have hl : (T2 ++ [b]).length = T2.length + 1 := by simp
    obtain ⟨A, cap', e, _, hA⟩ := h
    obtain ⟨x, rfl, hc⟩ := hA k (by rw [hl]; omega)
    injection e with e1
    injection e1 with e1
    subst e1
    rw [zero_add] at hc
    rw [hc]
    subst z2
    simp
  · rw [size_alloc]
    have := T5.kp.size
    omega
  · rw [s1, s2]
    exact (T5.alloc _).app1 j1 j2 j3

/-- What of the row was read. -/
def kvL (cols : List ByteArray) (rs : List Int) : List (Int × ByteArray) := rs.map fun r => (r, cols.getD r.toNat ByteArray.empty)
theorem kvL_keys (cols : List ByteArray) (rs : List Int) : (kvL cols rs).map (·.1) = rs := by
  unfold kvL
  rw [List.map_map]
  exact List.map_id rs
theorem kvL_mem {cols : List ByteArray} {rs : List Int} {i : Nat} (h : (i : Int) ∈ rs) : ((i : Int), cols.getD i ByteArray.empty) ∈ kvL cols rs := List.mem_map.2 ⟨_, h, by simp⟩
theorem kvL_take {cols : List ByteArray} {rs : List Int} {k : Nat} (hk : k < rs.length) : kvL cols (rs.take (k + 1)) = kvL cols (rs.take k) ++ [(rs.getD k 0, cols.getD (rs.getD k 0).toNat ByteArray.empty)] := by
  have h1 : rs.take (k + 1) = rs.take k ++ [rs.getD k 0] := by
    rw [List.take_succ_eq_append_getElem hk, List.getD_eq_getElem?_getD, List.getElem?_eq_getElem hk]
    rfl
  rw [h1]
  exact List.map_append
theorem kvL_new {cols : List ByteArray} {rs : List Int} (hn : rs.Nodup) {k : Nat} (hk : k < rs.length) : ∀ x ∈ kvL cols (rs.take k), x.1 ≠ rs.getD k 0 := by
  intro x hx e
  obtain ⟨r, hr, rfl⟩ := List.mem_map.1 hx
  have h1 : rs.take (k + 1) = rs.take k ++ [rs.getD k 0] := by
    rw [List.take_succ_eq_append_getElem hk, List.getD_eq_getElem?_getD, List.getElem?_eq_getElem hk]
    rfl
  have h2 : (rs.take (k + 1)).Nodup := hn.sublist (List.take_sublist _ _)
  rw [h1, List.nodup_append] at h2
  exact h2.2.2 _ hr _ (List.mem_singleton.2 rfl) e

def HaveRel (w7 : World) (M : Nat) (cols : List ByteArray) (rs : List Int) (i : Value) (wr : World) : Prop :=
  ∃ k : Nat, k ≤ rs.length ∧ i = num k ∧ MapS wr M (kvL cols (rs.take k)) ∧ Ext w7 wr
theorem have_step {w7 wr : World} {M k i : Nat} {cols : List ByteArray} {rs : List Int} (hM : w7.heap.size ≤ M) (hn : rs.Nodup) (hk : k < rs.length) (hi : rs.getD k 0 = (i : Int)) (hm : MapS wr M (kvL cols (rs.take k))) (he : Ext w7 wr) :
    ∃ o, (Instr.mapUpdate 67 (.map (some M)) (num i) (strv (cols.getD i ByteArray.empty))).run Tryz.prog wr.drew = .ok () (setBlock wr.drew M o) ∧ HaveRel w7 M cols rs (num ((k : Int) + 1)) (setBlock wr.drew M o) := by
  have hnew := kvL_new (cols := cols) hn hk
  rw [hi] at hnew
  obtain ⟨o, ho⟩ := hm.add hnew (cols.getD i ByteArray.empty)
  obtain ⟨h1, h2⟩ := ho wr.drew rfl
  refine ⟨o, h1, k + 1, by omega, by go_num, ?_, he.drew.setS hM o⟩
  rw [kvL_take hk, hi]
  exact h2
def DataRel (w8 : World) (n : Nat) (old fr : List ByteArray) (xs : List Bool) (u i : Value) (wr : World) : Prop :=
  ∃ k : Nat, k ≤ n ∧ i = num k ∧ OwnM 9 strv wr w8.heap.size u (nowL old fr xs k) ∧ Ext w8 wr
theorem data_step {w8 wr : World} {n k : Nat} {old fr : List ByteArray} {xs : List Bool} {u : Value} {T : List ByteArray} {y : ByteArray} (hk : k < n) (s1 : nowL old fr xs (k + 1) = T ++ [y]) (ho : OwnM 9 strv wr w8.heap.size u T) (he : Ext w8 wr) :
    ∀ (g cap : Nat) (w5 : World), OwnM 9 strv w5 w8.heap.size (.slice (some ⟨g, 0, none⟩) (T.length + 1) cap) (T ++ [y]) → Keeps (fun q => u.ownBlock = some q) (wr.alloc (.cells #[strv y] 9)) w5 →
      DataRel w8 n old fr xs (.slice (some ⟨g, 0, none⟩) (T.length + 1) cap) (num ((k : Int) + 1)) w5 := by
  intro g cap w5 h1 h2
  refine ⟨k + 1, by omega, by go_num, ?_, (he.trans ((Ext.refl wr).alloc _)).keeps h2 (fun q hq => (ho.lt hq).1)⟩
  rw [s1]
  exact h1
def ModRel (w8 : World) (n : Nat) (old fr : List ByteArray) (xs : List Bool) (x y i : Value) (wr : World) : Prop :=
  ∃ k : Nat, k ≤ n ∧ i = num k ∧ x = strv (addT (mixL old fr xs n k)) ∧ y = strv (qT (mixL old fr xs n k) n) ∧ Ext w8 wr

end Go.Proofs.YtdilchcnfnfdiaaGreatDoor
