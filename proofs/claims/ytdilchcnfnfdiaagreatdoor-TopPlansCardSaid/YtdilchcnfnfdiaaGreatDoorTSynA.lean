/- syndrome: added, P, Delta. gf: Mul by two. -/
import Derived.Test.YtdilchcnfnfdiaaGreatDoorTXor
namespace Go.Proofs.YtdilchcnfnfdiaaGreatDoor
open Go.RowKit

abbrev strv (s : ByteArray) : Value := .string s
abbrev RdT (w : World) (v : Value) (xs : List ByteArray) : Prop := Rd strv ByteArray.empty w v xs
def addT (l : List ByteArray) : ByteArray := l.foldl xorT ByteArray.empty
theorem xorT_size (a b : ByteArray) : (xorT a b).size = max a.size b.size := by rw [xorT, textOf_size, xorL_len, secOf_len, secOf_len]
theorem secOf_xorT (a b : ByteArray) : secOf (xorT a b) = xorL (secOf a) (secOf b) := secOf_textOf (xorL_lt (secOf_lt a) (secOf_lt b))
theorem addT_snoc (l : List ByteArray) (x : ByteArray) : addT (l ++ [x]) = xorT (addT l) x := by simp [addT]
theorem addT_size : ∀ (l : List ByteArray) (m : Nat) (s : ByteArray), s.size ≤ m → (∀ x ∈ l, x.size ≤ m) → (l.foldl xorT s).size ≤ m
  | [], _, _, h, _ => h
  | x :: r, m, s, h, hl => addT_size r m (xorT s x) (by rw [xorT_size]; have := hl x List.mem_cons_self; omega) (fun y hy => hl y (List.mem_cons_of_mem _ hy))
theorem xorT_nil (x : ByteArray) : xorT ByteArray.empty x = x := by
  unfold xorT
  rw [show secOf ByteArray.empty = [] from rfl, xorL, textOf_secOf]

def AddRel (w : World) (l : List ByteArray) (s i : Value) (wr : World) : Prop := ∃ k : Nat, k ≤ l.length ∧ i = num k ∧ s = strv (addT (l.take k)) ∧ Ext w wr
set_option maxRecDepth 100000 in
theorem added_walk (w : World) (v : Value) (l : List ByteArray) (hv : RdT w v l) (hl : l.length ≤ 1000) (hs : ∀ x ∈ l, x.size ≤ 1000) :
    Calls Tryz.prog 63 #[v] w fun e w' => e = .returned (strv (addT l)) ∧ Ext w w' := by
  obtain ⟨A, cap, rfl, hcap, hc⟩ := hv
  have HC := Lib.hid hc
  have HS := Lib.hid hs
  have hli : (l.length : Int) ≤ 1000 := by omega
  obtain ⟨n, hn⟩ : ∃ n, l.length = n := ⟨_, rfl⟩
  have HN := Lib.hid hn
  rw [hn] at hcap hli hl ⊢
  have R0 := Lib.hid (show AddRel w l (strv ByteArray.empty) (num 0) w from ⟨0, Nat.zero_le _, rfl, rfl, Ext.refl w⟩)
  clear hc hs hn
  go_enter Tryz.func63, Tryz.ntmps63
  go_wp2_with fail
  go_loopw [3, 8] (fun s i wr => AddRel w l s i wr) (fun _ i _ => n - (intOf i).toNat)
  case atStart => exact R0.out
  case round =>
    obtain ⟨k, hk, rfl, rfl, he⟩ := hrel
    clear R0
    by_cases hlt : k < n
    · have hkl : k < l.length := by have := HN.out; omega
      obtain ⟨x, rfl, hx⟩ := HC.out k hkl
      have d1 := he.cell hx
      have hsz : (l.getD k ByteArray.empty).size ≤ 1000 := HS.out _ (by rw [List.getD_eq_getElem?_getD, List.getElem?_eq_getElem hkl]; exact List.getElem_mem hkl)
      have hst : addT (l.take (k + 1)) = xorT (addT (l.take k)) (l.getD k ByteArray.empty) := by
        rw [List.take_succ_eq_append_getElem hkl, addT_snoc]
        simp [hkl]
      have haz : (addT (l.take k)).size ≤ 1000 := addT_size _ 1000 _ (Nat.zero_le _) (fun y hy => HS.out y (List.mem_of_mem_take hy))
      generalize l.getD k ByteArray.empty = y at d1 hsz hst
      obtain ⟨S, hS⟩ : ∃ S, addT (l.take k) = S := ⟨_, rfl⟩
      rw [hS] at hst haz ⊢
      have HX := Lib.hid (xor_walk S y wr haz hsz)
      have RX := Lib.hid (fun (W : World) (e : Ext wr W) => show AddRel w l (strv (xorT S y)) (num ((k : Int) + 1)) W from ⟨k + 1, by omega, by go_num, by rw [hst], he.trans e⟩)
      have hki : (k : Int) < n := by omega
      clear hx hst haz hsz hS he
      go_wp2_with fail
      refine HX.out.mono ?_
      rintro e w2 ⟨rfl, he2⟩
      have R := Lib.hid (RX.out w2 he2)
      clear HX RX he2
      go_wp2_with fail
      go_roundw
      case rel => exact R.out
      case measure => simp [intOf]; omega
    · obtain rfl : k = n := by have := HN.out; omega
      have hall : l.take k = l := List.take_of_length_le (by have := HN.out; omega)
      rw [hall]
      have R := Lib.hid he
      clear he hall
      go_wp2_with fail
      go_ret
      exact ⟨rfl, R.out⟩
theorem synP_walk (w : World) (v : Value) (l : List ByteArray) (hv : RdT w v l) (hl : l.length ≤ 1000) (hs : ∀ x ∈ l, x.size ≤ 1000) :
    Calls Tryz.prog 28 #[v] w fun e w' => e = .returned (strv (addT l)) ∧ Ext w w' := by
  have HA := Lib.hid (added_walk w v l hv hl hs)
  clear hv hl hs
  go_enter Tryz.func28, Tryz.ntmps28
  go_wp2_with fail
  refine HA.out.mono ?_
  rintro e w2 ⟨rfl, he2⟩
  have R := Lib.hid he2
  clear HA he2
  go_wp2_with fail
  go_ret
  exact ⟨rfl, R.out⟩

end Go.Proofs.YtdilchcnfnfdiaaGreatDoor
