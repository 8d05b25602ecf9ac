/- drive: Read, Spoil. -/
import Derived.Test.YtdilchcnfnfdiaaGreatDoorTSEncA
namespace Go.Proofs.YtdilchcnfnfdiaaGreatDoor
open Go.RowKit Go.Maps

theorem bool_inv {P : Program} {e : TypeId} (he : P.underlying e = some .bool) {v : Value} {z : DataW Unit × List MemPlace} (h : plainElem P e v = some z) : ∃ x, v = .bool x ∧ z = (.lit (.bool x), []) := by
  unfold plainElem at h
  rw [he] at h
  cases v <;> simp at h
  exact ⟨_, rfl, h.symm⟩
theorem lit_bool_inj {a b : Bool} (h : (DataW.lit (.bool a) : DataW Unit) = .lit (.bool b)) : a = b := by
  injection h with h
  injection h
/-- Is a sector spoilt? -/
theorem spoilt_look {w : World} {sp k : Nat} {D : DataW Unit} {bad : Int → Bool} (h : w.ownsMap Tryz.prog 3 (plainElem Tryz.prog 4) sp k D) (hb : ∀ i, D.atKey (keyI i) (.lit (.bool false)) = .lit (.bool (bad i))) (i : Int) (h1 : -9223372036854775808 ≤ i) (h2 : i ≤ 9223372036854775807) :
    (Instr.lookup 93 (.map (some sp)) (num i) false).run Tryz.prog w = .ok (.bool (bad i)) w := by
  obtain ⟨v, ps, hrun, hv⟩ := h.lookup Tryz.intKey Tryz.uSpoilt (Tryz.zBool w) (plainElem_bool Tryz.underlying4 false) (keyI_mk i h1 h2)
  obtain ⟨x, hx1, hx2⟩ := bool_inv Tryz.underlying4 hv
  have e : x = bad i := lit_bool_inj ((congrArg Prod.fst hx2).symm.trans (hb i))
  rw [hx1, e] at hrun
  exact hrun
theorem add_at (g o i : Nat) : (⟨g, o, none⟩ : Addr).add i = ⟨g, o + i, none⟩ := by unfold Addr.add; split <;> simp_all
/-- Bytes that lie in the midst of a block, as a text. -/
theorem run_text_at (w : World) (b o cap : Nat) (l : List Nat) (hl : ∀ x ∈ l, x < 256) (hc : ∀ j v, (cellsS l)[j]? = some v → w.cell? ⟨b, o + j, none⟩ = some v) :
    (convert 34 9 (.slice (some ⟨b, o, none⟩) l.length cap)).run Tryz.prog w = .ok (.string (textOf l)) w := by
  have := run_convert_bytes_back (P := Tryz.prog) w 34 9 5 ⟨b, o, none⟩ cap (l.map UInt8.ofNat) Tryz.underlying34 Tryz.underlying5 Tryz.underlying9 (by
    intro j hj
    have hj' : j < l.length := by simpa using hj
    have hx := hl _ (List.getElem_mem hj')
    rw [add_at, hc j (.int .u8 (l[j] : Int)) (by simp [cellsS, hj'])]
    simp
    omega)
  rw [List.length_map] at this
  exact this

section
variable {w : World} {d sf m sp n lim : Nat} {safe : Nat → Sec} {bad : Int → Bool} (h : Calm w d sf m sp n lim safe bad)
include h
theorem Calm.look (i : Nat) (hi : i < n) : (∃ v, (Instr.lookup 92 (.map (some m)) (num i) false).run Tryz.prog w = .ok v w ∧ ∃ A c, v = .slice A 0 c) := by
  have hn := h.nn.2
  obtain ⟨k, hm, _⟩ := h.wm
  exact ⟨_, rows_look hm (Rows.empty w w.heap.size) i (by omega) (by omega), none, 0, rfl⟩
set_option maxRecDepth 100000 in
/-- Read. -/
theorem read_walk (i : Nat) (hi : i < n) (hlt : ∀ x ∈ safe i, x < 256) :
    Calls Tryz.prog 15 #[ptr d, num i] w fun e w' => e = .returned (.tuple #[.string (if bad i then { data := #[] } else textOf (safe i)), num (if bad i then 41 else 0)]) ∧ w' = w := by
  obtain ⟨left, hblk⟩ := h.blk
  obtain ⟨k2, D2, hsm, _, _, hb⟩ := h.sm
  obtain ⟨cs, hsec, hcsz, hcs⟩ := h.sec
  have hn := h.nn.2
  have HM := Lib.hid (may_walk h.pend i hi)
  obtain ⟨v, hl1, A, c, rfl⟩ := h.look i hi
  have hl2 := spoilt_look hsm hb i (by omega) (by omega)
  have hs64 := h.s64 i hi
  have hcv := run_text_at w sf (i * 64) 64 (safe i) hlt (fun j v hv => by rw [cell_blk hsec]; exact hcs i hi j v hv)
  rw [hs64] at hcv
  have c0 : w.cell? ⟨d, 0, none⟩ = some (.slice (some ⟨sf, 0, none⟩) n n) := by rw [cell_blk hblk]; rfl
  have c1 : w.cell? ⟨d, 1, none⟩ = some (.map (some m)) := by rw [cell_blk hblk]; rfl
  have c2 : w.cell? ⟨d, 2, none⟩ = some (.map (some sp)) := by rw [cell_blk hblk]; rfl
  generalize textOf (safe i) = T at hcv ⊢
  generalize bad i = bb at hl2 ⊢
  have hii : (i : Int) < n := by omega
  have hni : (n : Int) ≤ 4096 := by omega
  clear h hblk hsm hb hsec hcs hcsz hlt hs64
  go_enter Tryz.func15, Tryz.ntmps15
  go_wp2_with fail
  refine HM.out.mono ?_
  rintro e w' ⟨rfl, rfl⟩
  clear HM
  cases bb
  · go_wp2_with fail
    go_ret2
    exact ⟨rfl, rfl⟩
  · go_wp2_with fail
    go_ret2
    exact ⟨rfl, rfl⟩

set_option maxRecDepth 100000 in
/-- Spoil. -/
theorem spoil_walk (i : Nat) (hi : i < n) (hlim : lim < 100000) :
    Calls Tryz.prog 16 #[ptr d, num i] w fun e w' => e = .returned (num 0) ∧ Calm w' d sf m sp n (lim + 1) safe (fun j => if j = (i : Int) then true else bad j) := by
  obtain ⟨left, hblk⟩ := h.blk
  obtain ⟨k2, D2, hsm, hk2, hD2, hb⟩ := h.sm
  have hn := h.nn.2
  have HM := Lib.hid (may_walk h.pend i hi)
  obtain ⟨w2, hrun, hown, hturn⟩ := hsm.store Tryz.intKey Tryz.uSpoilt (by unfold maxLen; have := h.ll; omega) (keyI_mk i (by omega) (by omega)) (plainElem_bool Tryz.underlying4 true)
  have K := Keeps.of_grown hturn.grown
  have R := Lib.hid (show Calm w2 d sf m sp n (lim + 1) safe (fun j => if j = (i : Int) then true else bad j) from by
    obtain ⟨cs, hsec, hcs⟩ := h.sec
    obtain ⟨k, hm, hk⟩ := h.wm
    refine ⟨⟨left, K.blk hblk h.ne3⟩, ⟨cs, K.blk hsec h.ne5, hcs⟩, h.s64, ⟨k, ownsMap_keep hm K h.ne6, by omega⟩, ⟨k2 + 1, _, hown, by omega, hD2.put _ _, fun j => ?_⟩, h.ne1, h.ne2, h.ne3, h.ne4, h.ne5, h.ne6, h.nn, by omega⟩
    by_cases e : j = (i : Int)
    · subst e
      rw [if_pos rfl, atKey_put_same hD2 (show WideAt.IsKeyLit (keyI (i : Int)) from trivial)]
    · rw [if_neg e, atKey_put_other (keyI_ne e)]
      exact hb j)
  have c2 : w.cell? ⟨d, 2, none⟩ = some (.map (some sp)) := by rw [cell_blk hblk]; rfl
  clear h hblk hsm hb hown hturn K hD2
  go_enter Tryz.func16, Tryz.ntmps16
  go_wp2_with fail
  refine HM.out.mono ?_
  rintro e w' ⟨rfl, rfl⟩
  clear HM
  go_wp2_with fail
  go_ret
  exact ⟨rfl, R.out⟩
end

end Go.Proofs.YtdilchcnfnfdiaaGreatDoor
