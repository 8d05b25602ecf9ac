/- crc: Open. -/
import Derived.Test.YtdilchcnfnfdiaaGreatDoorTSeal
import Derived.Deep.RegionHeld3
namespace Go.Proofs.YtdilchcnfnfdiaaGreatDoor
open Go.RowKit

theorem bytes_text (n : Nat) (w : World) : Calls Tryz.prog 35 #[.int .u32 n] w fun e w' => e = .returned (.slice (some ⟨w.heap.size, 0, none⟩) 4 4) ∧ Ext w w' ∧ (convert 34 9 (.slice (some ⟨w.heap.size, 0, none⟩) 4 4)).run Tryz.prog w' = .ok (.string (textOf (bytes4 n))) w' := by
  refine (bytes_walk4 n w).mono ?_
  rintro e w' ⟨rfl, rfl⟩
  refine ⟨rfl, (Ext.refl w).alloc _, run_text _ _ 4 (bytes4 n) (bytes4_lt n) fun j v hv => ?_⟩
  rw [cell_blk (alloc_new w _)]
  simpa using hv
section
variable {P : Program} {ops : Array Oper} {Q : Exit → Act → World → Prop} {md : Region.Mode} {S : World → Prop}
/-- wpAnyH_take, the slot told. -/
theorem wpAnyH_take3 {i d : Nat} {oi : Oper} {v : Value} {fuel : Nat} {listed : Array Bool} {a : Act} {w : World} (hi : ops[i]? = some oi) (hd : oi.dst = some d)
    (hs : Region.noSelect ops = true) (hf : Region.free md ops listed i = true) (hr : (Region.ready md ops listed).contains i = true)
    (hQ : ∀ c a w, Q (.panic c) (a.put oi.dst v) w → Q (.panic c) a w) (hy : YieldsIf P ops S oi v a) (hS : S w)
    (h : wpAnyH P md ops Q S fuel (listed.setIfInBounds i true) { a with tmps := a.tmps.setIfInBounds d v } w) : wpAnyH P md ops Q S (fuel + 1) listed a w := by
  refine wpAnyH_take hi hs hf hr hQ hy hS ?_
  rw [hd]
  exact h
end

/-- Do the last four bytes fit? -/
def openB (l : List Nat) : Bool := decide (bytes4 (crcSum (l.take 60)) = l.drop 60)
theorem secOf_extract (s : ByteArray) (a b : Nat) : secOf (s.extract a b) = ((secOf s).take b).drop a := by
  unfold secOf
  rw [ByteArray.data_extract, Array.toList_extract, List.extract_eq_take_drop]
  rw [← List.map_take, ← List.map_drop, List.drop_take]
theorem toList_secOf (s : ByteArray) : s.toList = s.data.toList := ByteArray.toList_eq s
theorem open_cmp (s : ByteArray) (hs : s.size = 64) : ((textOf (bytes4 (crcSum (secOf (s.extract 0 60))))).toList == (s.extract 60 64).toList) = openB (secOf s) := by
  have h1 : secOf (s.extract 0 60) = (secOf s).take 60 := by rw [secOf_extract s 0 60, List.drop_zero]
  have h2 : secOf (s.extract 60 64) = (secOf s).drop 60 := by
    rw [secOf_extract s 60 64, List.take_of_length_le (by rw [secOf_len]; omega)]
  rw [h1, Bool.eq_iff_iff]
  unfold openB
  simp only [beq_iff_eq, decide_eq_true_eq]
  constructor
  · intro h
    have h3 : textOf (bytes4 (crcSum ((secOf s).take 60))) = s.extract 60 64 := by
      rw [toList_secOf, toList_secOf] at h
      exact ByteArray.ext (Array.toList_inj.1 h)
    rw [← h2, ← h3, secOf_textOf (bytes4_lt _)]
  · intro h
    rw [← h2] at h
    have h3 : textOf (bytes4 (crcSum ((secOf s).take 60))) = s.extract 60 64 := secOf_inj (by rw [secOf_textOf (bytes4_lt _)]; exact h)
    rw [h3]

set_option maxRecDepth 100000 in
set_option maxHeartbeats 4000000 in
theorem open_walk (s : ByteArray) (w : World) (hs : s.size = 64) :
    Calls Tryz.prog 10 #[.string s] w fun e w' => e = .returned (.tuple #[.string (if openB (secOf s) then s.extract 0 60 else { data := #[] }), .bool (openB (secOf s))]) ∧ Ext w w' := by
  have hsi : (s.size : Int) = 64 := by omega
  have HS := fun (t : ByteArray) (W : World) (ht : t.size ≤ 1048576) => Lib.hid (sum_walk t W ht)
  have HB := fun (n : Nat) W => Lib.hid (bytes_text n W)
  have hcm := open_cmp s hs
  obtain ⟨bb, hbb⟩ : ∃ bb, openB (secOf s) = bb := ⟨_, rfl⟩
  rw [hbb] at hcm ⊢
  clear hbb
  go_enter Tryz.func10, Tryz.ntmps10
  have X := Lib.hid (Ext.refl w).drew
  go_wp2_with fail
  refine wp_region_noPanic ?_
  refine wp_region_held_drew (S := fun W => Ext w W) (by kernel_rfl) X.out (fun hHeld => ?_)
  generalize World.drew w = wd at X hHeld ⊢
  refine wpAnyH_take3 (i := 0) (d := 8) (v := num 60) rfl rfl (by kernel_rfl) (by kernel_rfl) (by kernel_rfl) (fun _ _ _ h => h) (Or.inl ⟨by rfl, ?_⟩) hHeld ?_
  · intro w9 hS9
    go_simp
  simp only [List.setIfInBounds_toArray, List.set_cons_succ, List.set_cons_zero]
  refine wpAnyH_take3 (i := 1) (d := 9) (v := .bool false) rfl rfl (by kernel_rfl) (by kernel_rfl) (by kernel_rfl) (fun _ _ _ h => h) (Or.inl ⟨by rfl, ?_⟩) hHeld ?_
  · intro w9 hS9
    go_simp
  simp only [List.setIfInBounds_toArray, List.set_cons_succ, List.set_cons_zero]
  refine wpAnyH_take3 (i := 2) (d := 10) (v := .bool false) rfl rfl (by kernel_rfl) (by kernel_rfl) (by kernel_rfl) (fun _ _ _ h => h) (Or.inl ⟨by rfl, ?_⟩) hHeld ?_
  · intro w9 hS9
    go_simp
  simp only [List.setIfInBounds_toArray, List.set_cons_succ, List.set_cons_zero]
  refine wpAnyH_take3 (i := 3) (d := 11) (v := .string s) rfl rfl (by kernel_rfl) (by kernel_rfl) (by kernel_rfl) (fun _ _ _ h => h) (Or.inl ⟨by rfl, ?_⟩) hHeld ?_
  · intro w9 hS9
    go_simp
  simp only [List.setIfInBounds_toArray, List.set_cons_succ, List.set_cons_zero]
  refine wpAnyH_take3 (i := 4) (d := 12) (v := num 60) rfl rfl (by kernel_rfl) (by kernel_rfl) (by kernel_rfl) (fun _ _ _ h => h) (Or.inl ⟨by rfl, ?_⟩) hHeld ?_
  · intro w9 hS9
    go_simp
  simp only [List.setIfInBounds_toArray, List.set_cons_succ, List.set_cons_zero]
  refine wpAnyH_take3 (i := 5) (d := 13) (v := .string (s.extract 0 60)) rfl rfl (by kernel_rfl) (by kernel_rfl) (by kernel_rfl) (fun _ _ _ h => h) (Or.inl ⟨by rfl, ?_⟩) hHeld ?_
  · intro w9 hS9
    go_simp
  simp only [List.setIfInBounds_toArray, List.set_cons_succ, List.set_cons_zero]
  refine wpAnyH_take3 (i := 9) (d := 17) (v := .string s) rfl rfl (by kernel_rfl) (by kernel_rfl) (by kernel_rfl) (fun _ _ _ h => h) (Or.inl ⟨by rfl, ?_⟩) hHeld ?_
  · intro w9 hS9
    go_simp
  simp only [List.setIfInBounds_toArray, List.set_cons_succ, List.set_cons_zero]
  refine wpAnyH_take3 (i := 10) (d := 18) (v := num 60) rfl rfl (by kernel_rfl) (by kernel_rfl) (by kernel_rfl) (fun _ _ _ h => h) (Or.inl ⟨by rfl, ?_⟩) hHeld ?_
  · intro w9 hS9
    go_simp
  simp only [List.setIfInBounds_toArray, List.set_cons_succ, List.set_cons_zero]
  refine wpAnyH_take3 (i := 11) (d := 19) (v := .string (s.extract 60 64)) rfl rfl (by kernel_rfl) (by kernel_rfl) (by kernel_rfl) (fun _ _ _ h => h) (Or.inl ⟨by rfl, ?_⟩) hHeld ?_
  · intro w9 hS9
    go_simp
  simp only [List.setIfInBounds_toArray, List.set_cons_succ, List.set_cons_zero]
  refine wpAnyH_ready (rs := [6]) (by kernel_rfl) (by simp) ?_
  refine AllReadyH.cons rfl (fun K9 hK9 => ?_) AllReadyH.nil
  go_simp
  refine (HS _ _ (by rw [ByteArray.size_extract]; omega)).out.mono ?_
  rintro e w2 ⟨rfl, he2⟩
  have X := Lib.hid (X.out.trans he2)
  clear he2
  go_wp2_with fail
  refine hK9.out _ _ ?_ (fun hHeld => ?_)
  · exact X.out
  clear hK9 K9
  try simp only [List.setIfInBounds_toArray, List.set_cons_succ, List.set_cons_zero]
  refine wpAnyH_ready (rs := [7]) (by kernel_rfl) (by simp) ?_
  refine AllReadyH.cons rfl (fun K9 hK9 => ?_) AllReadyH.nil
  go_simp
  refine (HB _ _).out.mono ?_
  rintro e w3 ⟨rfl, he3, hcv⟩
  have X := Lib.hid (X.out.trans he3)
  clear he3
  go_wp2_with fail
  refine hK9.out _ _ ?_ (fun hHeld => ?_)
  · exact X.out
  clear hK9 K9
  try simp only [List.setIfInBounds_toArray, List.set_cons_succ, List.set_cons_zero]
  refine wpAnyH_ready (rs := [8]) (by kernel_rfl) (by simp) ?_
  refine AllReadyH.cons rfl (fun K9 hK9 => ?_) AllReadyH.nil
  go_simp
  refine hK9.out _ _ ?_ (fun hHeld => ?_)
  · exact X.out
  clear hK9 K9
  try simp only [List.setIfInBounds_toArray, List.set_cons_succ, List.set_cons_zero]
  refine wpAnyH_take3 (i := 12) (d := 20) (v := .bool (!bb)) rfl rfl (by kernel_rfl) (by kernel_rfl) (by kernel_rfl) (fun _ _ _ h => h) (Or.inl ⟨by rfl, ?_⟩) hHeld ?_
  · intro w9 hS9
    go_simp
  simp only [List.setIfInBounds_toArray, List.set_cons_succ, List.set_cons_zero]
  refine wpAnyH_take3 (i := 13) (d := 21) (v := .bool (!bb)) rfl rfl (by kernel_rfl) (by kernel_rfl) (by kernel_rfl) (fun _ _ _ h => h) (Or.inl ⟨by rfl, ?_⟩) hHeld ?_
  · intro w9 hS9
    go_simp
  simp only [List.setIfInBounds_toArray, List.set_cons_succ, List.set_cons_zero]
  refine wpAnyH_done (by kernel_rfl) ?_ _
  refine NoPanic.normal ?_
  clear hcm hcv hHeld HS HB
  cases bb
  · go_wp2_with fail
    go_ret2
    exact ⟨rfl, X.out⟩
  · go_wp2_with fail
    go_ret2
    exact ⟨rfl, X.out⟩

end Go.Proofs.YtdilchcnfnfdiaaGreatDoor
