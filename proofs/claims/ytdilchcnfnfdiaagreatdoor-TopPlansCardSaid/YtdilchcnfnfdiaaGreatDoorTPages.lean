/- pages: Encode, Save. -/
import Derived.Test.YtdilchcnfnfdiaaGreatDoorTPnd
import Derived.Test.YtdilchcnfnfdiaaGreatDoorTEncode
namespace Go.Proofs.YtdilchcnfnfdiaaGreatDoor
open Go.RowKit

def PgEnd (w : World) (r : Ending) (w' : World) : Prop := ∃ T : ByteArray, T.size = 64 ∧ r = .returned (.tuple #[.string T, num 0]) ∧ Ext w w'
theorem enc8_size (e : Nat) : (textOf (encL [e] [8])).size = 8 := by
  rw [textOf_size, encL, List.length_map, placesTo_len _ _ (Nat.le_refl _)]
  rfl
theorem pg_le {T s : ByteArray} (h1 : T.size = 8) (h2 : s.size = 8) : (({ data := #[82, 86, 84, 66] } : ByteArray) ++ T ++ s).size ≤ 60 := by
  rw [ByteArray.size_append, ByteArray.size_append, h1, h2]
  decide
set_option maxRecDepth 100000 in
set_option maxHeartbeats 1000000 in
theorem pencode_walk (w : World) (e : Nat) (s : ByteArray) (he : e < two64) (hs : s.size = 8) :
    Calls Tryz.prog 150 #[.agg #[u64v e, .string s]] w (PgEnd w) := by
  have HE := fun W (A B : Nat) (hx : ∀ i, i < 1 → ∃ x, (some ⟨A, 0, none⟩ : Option Addr) = some x ∧ W.cell? (x.add i) = some (u64v ([e].getD i 0))) (hw : RdN W (.slice (some ⟨B, 0, none⟩) 1 1) [8]) =>
    Lib.hid (encode_walk W (some ⟨A, 0, none⟩) (some ⟨B, 0, none⟩) 1 1 [e] [8] hx hw (by decide) (by decide) (fun i hi => by
      have hi : i < 1 := hi
      obtain rfl : i = 0 := by omega
      exact he))
  have hss : (s.size : Int) = 8 := by omega
  have hn0 := enc8_size e
  obtain ⟨T, hT⟩ : ∃ T, textOf (encL [e] [8]) = T := ⟨_, rfl⟩
  rw [hT] at hn0
  have hnn : (T.size : Int) = 8 := by omega
  have HN := Lib.hid hn0
  clear hn0
  simp only [hT] at HE
  have HZ := fun (t : ByteArray) (ht : t.size ≤ 60) W => Lib.hid (seal_walk t W ht)
  have HS := Lib.hid hs
  have e0 := (((Ext.refl w).alloc (.cells #[u64v e, .string s] 203)).alloc (.cells #[u64v e] 24)).alloc (.cells #[num 8] 3)
  have b0 := alloc_old (.cells #[num 8] 3) (alloc_old (.cells #[u64v e] 24) (alloc_new w (.cells #[u64v e, .string s] 203)))
  have b1 := alloc_old (.cells #[num 8] 3) (alloc_new (w.alloc (.cells #[u64v e, .string s] 203)) (.cells #[u64v e] 24))
  have b2 := alloc_new ((w.alloc (.cells #[u64v e, .string s] 203)).alloc (.cells #[u64v e] 24)) (.cells #[num 8] 3)
  rw [size_alloc] at b1 b2
  rw [size_alloc] at b2
  have HE3 := HE _ (w.heap.size + 1) (w.heap.size + 1 + 1) (fun i hi => by
    obtain rfl : i = 0 := by omega
    exact ⟨_, rfl, by rw [zero_add, cell_blk b1]; rfl⟩) ⟨_, _, rfl, Nat.le_refl _, fun i hi => by
    have hi : i < 1 := hi
    obtain rfl : i = 0 := by omega
    exact ⟨_, rfl, by rw [zero_add, cell_blk b2]; rfl⟩⟩
  have E0 := Lib.hid e0
  have B0 := Lib.hid b0
  clear hT hs he e0 HE b0 b1 b2
  go_enter Tryz.func150, Tryz.ntmps150
  go_wp2_with fail
  refine HE3.out.mono ?_
  rintro e1 w1 ⟨rfl, he1⟩
  have k1 : w1.cell? ⟨w.heap.size, 1, none⟩ = some (.string s) := by rw [cell_blk (he1.blk B0.out)]; rfl
  have E1 := Lib.hid (E0.out.trans he1)
  clear HE3 E0 B0 he1
  go_wp2_with fail
  refine (HZ _ (pg_le HN.out HS.out) _).out.mono ?_
  rintro e2 w2 ⟨rfl, he2⟩
  have E2 := Lib.hid (E1.out.trans he2)
  clear HZ E1 he2
  go_wp2_with fail
  go_ret2
  exact ⟨_, by rw [textOf_size]; exact sealL_len (by rw [secOf_len]; exact pg_le HN.out HS.out), rfl, E2.out⟩

/-- The two steps of Save, as closures. -/
def stepsC (bd bs : Nat) : Array Value := #[.func (.func 151) #[] #[ptr bd, ptr bs], .func (.func 152) #[] #[ptr bd]]
theorem psave1_walk {x : DB} {W0 w : World} {n L : Nat} (h : x.Pnd W0 w n L) (hL : L < 100000) (hn : 3 ≤ n) (bd bs : Nat) (T : ByteArray) (hT : T.size = 64)
    (hd : w.heap[bd]? = some (.cells #[x.val] 36)) (hs : w.heap[bs]? = some (.cells #[.string T] 9)) :
    Calls Tryz.prog 151 #[ptr bd, ptr bs] w fun e w' => e = .returned (num 0) ∧ x.Pnd W0 w' n (L + 1) := by
  have k1 : w.cell? ⟨bd, 0, none⟩ = some x.val := by rw [cell_blk hd]; rfl
  have k2 : w.cell? ⟨bs, 0, none⟩ = some (.string T) := by rw [cell_blk hs]; rfl
  have HW := Lib.hid (pwrite_walk h hL 2 T hT (by omega))
  clear h hd hs hL hn hT
  go_enter Tryz.func151, Tryz.ntmps151
  go_wp2_with fail
  refine HW.out.mono ?_
  rintro e w1 ⟨rfl, hp⟩
  have R := Lib.hid hp
  clear HW hp
  go_wp2_with fail
  go_ret
  exact ⟨rfl, R.out⟩
theorem psave2_walk {x : DB} {W0 w : World} {n L : Nat} (h : x.Pnd W0 w n L) (bd : Nat) (hd : w.heap[bd]? = some (.cells #[x.val] 36)) :
    Calls Tryz.prog 152 #[ptr bd] w fun e w' => e = .returned (num 0) ∧ x.Calm w' n L ∧ Keeps x.F W0 w' := by
  have k1 : w.cell? ⟨bd, 0, none⟩ = some x.val := by rw [cell_blk hd]; rfl
  have HW := Lib.hid (pflush_walk h)
  clear h hd
  go_enter Tryz.func152, Tryz.ntmps152
  go_wp2_with fail
  refine HW.out.mono ?_
  rintro e w1 ⟨rfl, hp⟩
  have R := Lib.hid hp
  clear HW hp
  go_wp2_with fail
  go_ret
  exact ⟨rfl, R.out⟩

/-- Ahead of a step. -/
def PSRel (x : DB) (w : World) (n L : Nat) (T : ByteArray) (bd bs bf : Nat) (e i : Value) (wr : World) : Prop :=
  ∃ W3 : World, Ext w W3 ∧ W3.heap[bd]? = some (.cells #[x.val] 36) ∧ W3.heap[bs]? = some (.cells #[.string T] 9) ∧ W3.heap[bf]? = some (.cells (stepsC bd bs) 98) ∧
    w.heap.size ≤ bd ∧ w.heap.size ≤ bs ∧ w.heap.size ≤ bf ∧ Keeps x.F W3 wr ∧ e = num 0 ∧ ((i = num 0 ∧ x.Pnd W3 wr n L) ∨ (i = num 1 ∧ x.Pnd W3 wr n (L + 1)) ∨ (i = num 2 ∧ x.Calm wr n (L + 1)))

set_option maxRecDepth 100000 in
set_option maxHeartbeats 1000000 in
theorem psave_walk {x : DB} {w : World} {n L : Nat} (h : x.Calm w n L) (hL : L < 100000) (hn : 3 ≤ n) (e : Nat) (s : ByteArray) (he : e < two64) (hs : s.size = 8) :
    Calls Tryz.prog 120 #[x.val, .agg #[u64v e, .string s]] w fun r w' => r = .returned (num 0) ∧ x.Calm w' n (L + 1) ∧ Keeps x.F w w' := by
  have HE := fun W => Lib.hid (pencode_walk W e s he hs)
  have HC := Lib.hid h
  have HXF := Lib.hid (fun b (hb : x.F b) => h.lt hb)
  clear he hs h
  go_enter Tryz.func120, Tryz.ntmps120
  go_wp2_with fail
  refine (HE _).out.mono ?_
  rintro e1 w1 ⟨T, hT, rfl, he1⟩
  have HT := Lib.hid hT
  have E1 := Lib.hid he1
  clear HE hT he1
  go_wp2_with fail
  have A0 := Lib.hid (show PSRel x w n L T w.heap.size w1.heap.size (w1.heap.size + 1) (num 0) (num 0) ((w1.alloc (.cells #[.string T] 9)).alloc (.cells (stepsC w.heap.size w1.heap.size) 98)) from by
    have e1 := E1.out
    have ea := (((Ext.refl w).alloc (.cells #[x.val] 36)).alloc (.cells #[u64v e, .string s] 203)).trans e1
    have e2 := ((Ext.refl w1).alloc (.cells #[.string T] 9)).alloc (.cells (stepsC w.heap.size w1.heap.size) 98)
    have hb := e2.blk (e1.blk (alloc_old (.cells #[u64v e, .string s] 203) (alloc_new w (.cells #[x.val] 36))))
    have h3 := alloc_new (w1.alloc (.cells #[.string T] 9)) (.cells (stepsC w.heap.size w1.heap.size) 98)
    rw [size_alloc] at h3
    have hsz := ea.size
    exact ⟨_, ea.trans e2, hb, alloc_old _ (alloc_new w1 _), h3, Nat.le_refl _, hsz, by omega, Keeps.refl _ _, rfl, .inl ⟨rfl, (HC.out.ext (ea.trans e2)).pnd⟩⟩)
  clear E1 HC
  go_loopw [6, 18] (fun e i wr => PSRel x w n L T w.heap.size w1.heap.size (w1.heap.size + 1) e i wr) (fun _ i _ => 2 - (intOf i).toNat)
  case atStart => exact A0.out
  case round =>
    obtain ⟨W3, hx, hd, hs, hf, g1, g2, g3, hK, rfl, hcase⟩ := hrel
    clear A0
    have hd2 := hK.blk hd (fun hb => by have := HXF.out _ hb; omega)
    have hs2 := hK.blk hs (fun hb => by have := HXF.out _ hb; omega)
    have hf2 := hK.blk hf (fun hb => by have := HXF.out _ hb; omega)
    have k0 : wr.cell? ⟨w1.heap.size + 1, 0, none⟩ = some (.func (.func 151) #[] #[ptr w.heap.size, ptr w1.heap.size]) := by rw [cell_blk hf2]; rfl
    have k1 : wr.cell? ⟨w1.heap.size + 1, 1, none⟩ = some (.func (.func 152) #[] #[ptr w.heap.size]) := by rw [cell_blk hf2]; rfl
    have HB := Lib.hid (And.intro hx (And.intro hd (And.intro hs (And.intro hf (And.intro g1 (And.intro g2 g3))))))
    rcases hcase with ⟨rfl, hp⟩ | ⟨rfl, hp⟩ | ⟨rfl, hc⟩
    · have HW := Lib.hid (psave1_walk hp hL hn w.heap.size w1.heap.size T HT.out hd2 hs2)
      clear hd2 hs2 hf2 hK hx hd hs hf g1 g2 g3 hp
      go_wp2_with fail
      refine HW.out.mono ?_
      rintro e2 w2 ⟨rfl, hp2⟩
      have R := Lib.hid hp2
      clear HW hp2
      go_wp2_with fail
      go_roundw
      case rel =>
        obtain ⟨b1, b2, b3, b4, b5, b6, b7⟩ := HB.out
        exact ⟨W3, b1, b2, b3, b4, b5, b6, b7, R.out.keeps, rfl, .inr (.inl ⟨rfl, R.out⟩)⟩
      case measure => decide
    · have HW := Lib.hid (psave2_walk hp w.heap.size hd2)
      clear hd2 hs2 hf2 hK hx hd hs hf g1 g2 g3 hp
      go_wp2_with fail
      refine HW.out.mono ?_
      rintro e2 w2 ⟨rfl, hp2⟩
      have R := Lib.hid hp2
      clear HW hp2
      go_wp2_with fail
      go_roundw
      case rel =>
        obtain ⟨b1, b2, b3, b4, b5, b6, b7⟩ := HB.out
        exact ⟨W3, b1, b2, b3, b4, b5, b6, b7, R.out.2, rfl, .inr (.inr ⟨rfl, R.out.1⟩)⟩
      case measure => decide
    · have R := Lib.hid (And.intro hc ((Keeps.of_below (F := x.F) hx).trans hK (fun i hi => .inl hi)))
      clear hd2 hs2 hf2 hK hx hd hs hf g1 g2 g3 hc
      go_wp2_with fail
      go_ret
      exact ⟨rfl, R.out⟩

end Go.Proofs.YtdilchcnfnfdiaaGreatDoor
