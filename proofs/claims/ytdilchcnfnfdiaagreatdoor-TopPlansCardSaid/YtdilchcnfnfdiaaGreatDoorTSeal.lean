/- Seal: a text, padded, and its sum. -/
import Derived.Test.YtdilchcnfnfdiaaGreatDoorTMore
import Derived.Lib.BufferWrite
namespace Go.Proofs.YtdilchcnfnfdiaaGreatDoor
open Go.RowKit

/-- The text of such bytes. -/
def textOf (l : List Nat) : ByteArray := ⟨(l.map UInt8.ofNat).toArray⟩
theorem textOf_size (l : List Nat) : (textOf l).size = l.length := by simp [textOf, ByteArray.size]
theorem secOf_textOf {l : List Nat} (h : ∀ b ∈ l, b < 256) : secOf (textOf l) = l := by
  unfold secOf textOf
  rw [List.map_map]
  conv => rhs; rw [← List.map_id l]
  apply List.map_congr_left
  intro b hb
  have := h b hb
  simp
  omega
theorem textOf_secOf (s : ByteArray) : textOf (secOf s) = s := by
  unfold secOf textOf
  rw [List.map_map]
  have : s.data.toList.map (UInt8.ofNat ∘ fun x => x.toNat) = s.data.toList := by
    conv => rhs; rw [← List.map_id s.data.toList]
    apply List.map_congr_left
    intro b _
    simp
  rw [this]
theorem secOf_inj {s t : ByteArray} (h : secOf s = secOf t) : s = t := by rw [← textOf_secOf s, ← textOf_secOf t, h]
/-- Bytes that lie in memory, as a text. -/
theorem run_text (w : World) (b cap : Nat) (l : List Nat) (hl : ∀ x ∈ l, x < 256) (hc : ∀ j v, (cellsS l)[j]? = some v → w.cell? ⟨b, j, none⟩ = some v) :
    (convert 34 9 (.slice (some ⟨b, 0, none⟩) l.length cap)).run Tryz.prog w = .ok (.string (textOf l)) w := by
  have := run_convert_bytes_back (P := Tryz.prog) w 34 9 5 ⟨b, 0, none⟩ cap (l.map UInt8.ofNat) Tryz.underlying34 Tryz.underlying5 Tryz.underlying9 (by
    intro j hj
    have hj' : j < l.length := by simpa using hj
    have hx := hl _ (List.getElem_mem hj')
    rw [zero_add, hc j (.int .u8 (l[j] : Int)) (by simp [cellsS, hj'])]
    simp
    omega)
  rw [List.length_map] at this
  exact this

def padL (bs : List Nat) : List Nat := bs ++ List.replicate (60 - bs.length) 0
theorem padL_len {bs : List Nat} (h : bs.length ≤ 60) : (padL bs).length = 60 := by simp [padL]; omega
theorem padL_lt {bs : List Nat} (h : ∀ b ∈ bs, b < 256) : ∀ b ∈ padL bs, b < 256 := by
  intro b hb
  rcases List.mem_append.1 hb with hb | hb
  · exact h b hb
  · rw [(List.mem_replicate.1 hb).2]; decide
def sealL (bs : List Nat) : List Nat := padL bs ++ bytes4 (crcSum (padL bs))
theorem sealL_len {bs : List Nat} (h : bs.length ≤ 60) : (sealL bs).length = 64 := by rw [sealL, List.length_append, padL_len h]; rfl
theorem sealL_lt {bs : List Nat} (h : ∀ b ∈ bs, b < 256) : ∀ b ∈ sealL bs, b < 256 := by
  intro b hb
  rcases List.mem_append.1 hb with hb | hb
  · exact padL_lt h b hb
  · exact bytes4_lt _ b hb

theorem Tryz.uBytes : Tryz.prog.underlying 34 = some (.slice 5) := by kernel_rfl
theorem Tryz.iByte : (Tryz.prog.info? 5).map (fun i => (i.zero, i.size, i.bytes)) = some (some (.int .u8 0), 1, 1) := by kernel_rfl

theorem made_bytes (n : Nat) : madeCells #[Value.int .u8 0] n = (cellsS (List.replicate n 0)).toArray := by
  apply Array.ext
  · simp [madeCells, cellsS]
  · intro i h1 h2
    simp [madeCells, cellsS, Nat.mod_one]
theorem make_bytes (n : Nat) (hn : n ≤ 4096) (W : World) : (Instr.makeSlice 34 (num n) (num n)).run Tryz.prog W = .ok (.slice (some ⟨W.heap.size, 0, none⟩) n n) (W.alloc (.cells (cellsS (List.replicate n 0)).toArray 5)) := by
  obtain ⟨i, hi, hz0, hz1, hz2⟩ := info_parts Tryz.iByte
  have h := run_make (P := Tryz.prog) (w := W) 34 5 i _ Tryz.uBytes hi hz0 .i64 .i64 (n : Int) (n : Int) (by omega) (by omega) (by rw [hz2]; omega) (by omega)
  rw [hz1, Int.toNat_natCast, Nat.mul_one] at h
  rw [← made_bytes n]
  exact h

section
variable {α : Type} {t : TypeId} {f : α → Value} {w : World} {ops : Array Oper} {rest : List Oper} {o : Oper} {a : Act} {Q : Exit → Act → World → Prop}
/-- 'xs = append(xs, ys...)'. -/
theorem wpList_append_many {ts : TypeId} {z : Value} {bytes : Nat} (uS : Tryz.prog.underlying ts = some (.slice t)) (iE : (Tryz.prog.info? t).map (fun i => (i.zero, i.size, i.bytes)) = some (some z, 1, bytes)) (hz : z.cells.size = 1) (hbs : bytes ≤ 64)
    (hg : o.guard = none) (s x : Operand) (ho : o.op = .call { callee := .builtin .append, args := #[s, x], argTypes := #[ts, ts] })
    (B : Nat) (v : Value) (xs : List α) (hs : a.eval s = v) (hown : OwnM t f w B v xs) (b : Addr) (m c : Nat) (ys : List α) (hx : a.eval x = .slice (some b) m c) (hm : ys.length = m) (hm0 : 0 < m)
    (hb : ∀ j u, (ys.map f)[j]? = some u → w.cell? (b.add j) = some u) (h1 : ∀ y ∈ ys, (f y).oneCell' = true)
    (hlen : xs.length + ys.length ≤ 1048576) (hB : B ≤ w.heap.size)
    (h : ∀ g cap w', OwnM t f w' B (.slice (some ⟨g, 0, none⟩) (xs.length + m) cap) (xs ++ ys) → Keeps (fun k => v.ownBlock = some k) w w' → (v.ownBlock = some g ∨ g = w.heap.size) → wpList Tryz.prog ops Q rest (a.put o.dst (.slice (some ⟨g, 0, none⟩) (xs.length + m) cap)) w') :
    wpList Tryz.prog ops Q (o :: rest) a w := by
  obtain ⟨i, hi, hz0, hz1, hz2⟩ := info_parts iE
  subst hm
  have hmul : (xs.length + ys.length) * bytes ≤ 1048576 * 64 := Nat.mul_le_mul hlen hbs
  refine wpList_append_lies w hg s x ts ho B t i z 1 bytes uS hi hz0 hz1 hz2 hz (by decide) v xs.length (xs.map f) hs hown b ys.length c (ys.map f) hx (by simp) hb (fun u hu => by obtain ⟨y, hy, rfl⟩ := List.mem_map.1 hu; exact h1 y hy) hm0 (by unfold maxLen; omega) (by omega) hB w.heap.size rfl ?_
  intro g cap w' h1 h2 h3 h4
  refine h g cap w' ?_ (Keeps.of_grownV h2) h3
  unfold OwnM
  rw [List.map_append, List.length_append]
  exact h1
end
abbrev u8v (b : Nat) : Value := .int .u8 (b : Int)
theorem OwnM.cell {α : Type} {t : TypeId} {f : α → Value} {w : World} {B g n cap : Nat} {xs : List α} (h : OwnM t f w B (.slice (some ⟨g, 0, none⟩) n cap) xs) : ∀ j v, (xs.map f)[j]? = some v → w.cell? ⟨g, j, none⟩ = some v := by
  intro j v hv
  have := World.ownsRow.cells h (g := g) rfl j v hv
  rw [zero_add] at this
  exact this
theorem Ext.setRow {a w : World} (h : Ext a w) {g : Nat} (hg : a.heap.size ≤ g) (cs : Array Value) : Ext a (w.setRow g cs) :=
  ⟨h.os, h.tape, h.output, by rw [size_setRow]; exact h.size, fun k hk => (setRow_other w g k cs (by omega)).trans (h.block k hk)⟩
theorem pad_row (m : Nat) (bs : List Nat) : List.take 0 (cellsS (List.replicate m 0)).toArray.toList ++ cellsS bs ++ List.drop (0 + bs.length) (cellsS (List.replicate m 0)).toArray.toList = cellsS (bs ++ List.replicate (m - bs.length) 0) := by
  simp [cellsS, List.map_append]

set_option maxRecDepth 100000 in
theorem seal_walk (s : ByteArray) (w : World) (hs : s.size ≤ 60) : Calls Tryz.prog 8 #[.string s, .int .i64 64] w fun e w' => e = .returned (.tuple #[.string (textOf (sealL (secOf s))), .bool true]) ∧ Ext w w' := by
  have hsi : (s.size : Int) ≤ 60 := by omega
  have hlen : (secOf s).length ≤ 60 := by rw [secOf_len]; exact hs
  have hpl := padL_len hlen
  have hpb := padL_lt (secOf_lt s)
  have hmk : (Instr.makeSlice 34 (.int .i64 60) (.int .i64 60)).run Tryz.prog w = .ok (.slice (some ⟨w.heap.size, 0, none⟩) 60 60) (w.alloc (.cells (cellsS (List.replicate 60 0)).toArray 5)) := make_bytes 60 (by decide) w
  obtain ⟨w1, hw1⟩ : ∃ w1, w.alloc (.cells (cellsS (List.replicate 60 0)).toArray 5) = w1 := ⟨_, rfl⟩
  have b1 : w1.heap[w.heap.size]? = some (.cells (cellsS (List.replicate 60 0)).toArray 5) := by rw [← hw1]; exact alloc_new w _
  have e1 : Ext w w1 := by rw [← hw1]; exact (Ext.refl w).alloc _
  rw [hw1] at hmk
  have hcp := Lib.run_copy_row_string (P := Tryz.prog) w1 34 9 3 5 w.heap.size 0 60 60 s _ 5 Tryz.uBytes (by kernel_rfl) b1 hs (by simp [cellsS]; omega)
  have hrow : (List.take 0 (cellsS (List.replicate 60 0)).toArray.toList ++ Lib.byteCells s.data.toList ++ List.drop (0 + s.size) (cellsS (List.replicate 60 0)).toArray.toList) = cellsS (padL (secOf s)) := by
    rw [show Lib.byteCells s.data.toList = cellsS (secOf s) from (cellsS_secOf s).symm, ← secOf_len]
    exact pad_row 60 (secOf s)
  rw [hrow] at hcp
  have b2 := setRow_heap w1 w.heap.size _ (cellsS (padL (secOf s))).toArray _ _ b1
  have e2 := e1.setRow (Nat.le_refl _) (cellsS (padL (secOf s))).toArray
  obtain ⟨w2, hw2⟩ : ∃ w2, w1.setRow w.heap.size (cellsS (padL (secOf s))).toArray = w2 := ⟨_, rfl⟩
  rw [hw2] at hcp b2 e2
  obtain ⟨P, hP⟩ : ∃ P, padL (secOf s) = P := ⟨_, rfl⟩
  rw [hP] at b2 hpl hpb
  have hcv := run_text w2 w.heap.size 60 P hpb (fun j v hv => by rw [cell_blk b2]; simpa using hv)
  rw [hpl] at hcv
  have hown : OwnM 5 u8v w2 w.heap.size (.slice (some ⟨w.heap.size, 0, none⟩) 60 60) P :=
    ⟨by rw [hpl]; simp [hpl], .inr ⟨w.heap.size, 60, _, by rw [hpl], Nat.le_refl _, b2, by omega, by decide, by simp [cellsS, hpl], by simp [cellsS, hpl]; rw [← hpl, ← List.length_map (f := fun b : Nat => Value.int .u8 (b : Int)), List.take_length]⟩⟩
  have HS := Lib.hid (sum_walk (textOf P) w2 (by rw [textOf_size, hpl]; decide))
  have HO := Lib.hid hown
  have HB := Lib.hid (And.intro hpl (And.intro hpb (And.intro hP e2)))
  clear hown hpl hpb hP e2 b2 b1 e1 hw1 hw2 hrow hlen hs
  go_enter Tryz.func8, Tryz.ntmps8
  go_wp2_with fail
  refine HS.out.mono ?_
  rintro e w3 ⟨rfl, e3⟩
  rw [secOf_textOf HB.out.2.1]
  obtain ⟨c, hc⟩ : ∃ c, crcSum P = c := ⟨_, rfl⟩
  rw [hc]
  have HB4 := Lib.hid (bytes_walk4 c w3)
  have e4 := e3.alloc (.cells (cellsS (bytes4 c)).toArray 5)
  have hb4 := alloc_new w3 (.cells (cellsS (bytes4 c)).toArray 5)
  have HO3 := Lib.hid (HO.out.ext e4)
  have HN := Lib.hid (show ∀ j u, ((bytes4 c).map u8v)[j]? = some u → (w3.alloc (.cells (cellsS (bytes4 c)).toArray 5)).cell? ((⟨w3.heap.size, 0, none⟩ : Addr).add j) = some u from fun j u hu => by
    rw [zero_add, cell_blk hb4]
    simpa [cellsS] using hu)
  have ST := Lib.hid (fun (g cap : Nat) (w' : World) (h1 : OwnM 5 u8v w' w.heap.size (.slice (some ⟨g, 0, none⟩) (P.length + 4) cap) (P ++ bytes4 c)) (h2 : Keeps (fun k => (Value.slice (some ⟨w.heap.size, 0, none⟩) 60 60).ownBlock = some k) (w3.alloc (.cells (cellsS (bytes4 c)).toArray 5)) w') =>
    show (convert 34 9 (.slice (some ⟨g, 0, none⟩) (P.length + 4) cap)).run Tryz.prog w' = .ok (.string (textOf (sealL (secOf s)))) w' ∧ Ext w w' from by
      have hl : (P ++ bytes4 c).length = P.length + 4 := by simp [bytes4]
      have hP := HB.out.2.2.1
      have e : P ++ bytes4 c = sealL (secOf s) := by rw [sealL, hP, hc]
      have h := run_text w' g cap (P ++ bytes4 c) (by rw [e]; exact sealL_lt (secOf_lt s)) (fun j v hv => h1.cell j v (by simpa [cellsS] using hv))
      rw [hl] at h
      rw [h, e]
      exact ⟨rfl, (HB.out.2.2.2.trans e4).keeps h2 (fun i hi => Nat.le_of_eq (by simpa [Value.ownBlock] using hi))⟩)
  have HBn := Lib.hid (show w.heap.size ≤ (w3.alloc (.cells (cellsS (bytes4 c)).toArray 5)).heap.size from (HB.out.2.2.2.trans e4).size)
  have HL := Lib.hid (show P.length + (bytes4 c).length ≤ 1048576 by rw [HB.out.1]; show 60 + 4 ≤ 1048576; decide)
  clear HS e3 e4 hb4 hc HO
  go_wp2_with fail
  refine HB4.out.mono ?_
  rintro e w4 ⟨rfl, rfl⟩
  clear HB4
  go_wp2_with (at_builtin; refine wpList_append_many Tryz.uBytes Tryz.iByte rfl (by decide) rfl _ _ rfl w.heap.size _ P rfl HO3.out ⟨w3.heap.size, 0, none⟩ 4 4 (bytes4 c) rfl rfl (by decide) HN.out (fun _ _ => rfl) HL.out HBn.out ?_; intro g cap w' h1 h2 h3; obtain ⟨hcv9, he9⟩ := ST.out g cap w' h1 h2; have HE9 := Lib.hid he9; clear h1 h2 h3 he9 ST HO3 HN HL HBn)
  exact bodyPost_ret (v := .tuple #[.string (textOf (sealL (secOf s))), .bool true]) (by simp [results, Tryz.results8, go_sem]) rfl ⟨rfl, HE9.out⟩

end Go.Proofs.YtdilchcnfnfdiaaGreatDoor
