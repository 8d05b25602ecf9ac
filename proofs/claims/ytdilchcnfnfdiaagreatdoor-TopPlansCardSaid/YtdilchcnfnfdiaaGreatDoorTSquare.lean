/- TopPlans' small functions: square. -/
import Derived.Test.YtdilchcnfnfdiaaGreatDoorTHeavy
namespace Go.Proofs.YtdilchcnfnfdiaaGreatDoor
open Go.RowKit Go.Shelf

/-- A text, cut or filled up to five bytes. -/
def sq5 (y : ByteArray) : ByteArray := (y ++ blankT 64).extract 0 5
def squareL (l : List ByteArray) (m : Nat) : List ByteArray := (List.range m).map fun i => sq5 (l.getD i ByteArray.empty)
theorem squareL_len (l : List ByteArray) (m : Nat) : (squareL l m).length = m := by simp [squareL]
theorem squareL_step (l : List ByteArray) (m : Nat) : squareL l m ++ [sq5 (l.getD m ByteArray.empty)] = squareL l (m + 1) := by simp [squareL, List.range_succ]
theorem sq5_size (y : ByteArray) : (sq5 y).size = 5 := by
  rw [sq5, ByteArray.size_extract, ByteArray.size_append, blankT_size]
  omega
def SqRel (w : World) (l : List ByteArray) (m : Nat) (u i : Value) (wr : World) : Prop := ∃ k : Nat, k ≤ m ∧ i = num k ∧ OwnM 9 strv wr w.heap.size u (squareL l k) ∧ Ext w wr
set_option maxRecDepth 100000 in
theorem squareT_walk (w : World) (v : Value) (l : List ByteArray) (m : Nat) (hv : RdT w v l) (hl : l.length ≤ 40) (hs : ∀ j, j < l.length → (l.getD j ByteArray.empty).size ≤ 100) (hm : m ≤ 8) :
    Calls Tryz.prog 25 #[v, num m, num 5] w fun e w' => ∃ u, e = .returned u ∧ OwnM 9 strv w' w.heap.size u (squareL l m) ∧ Ext w w' := by
  obtain ⟨A, cap, rfl, hcap, hc⟩ := hv
  have HC := Lib.hid hc
  have HS := Lib.hid hs
  have hli : (l.length : Int) ≤ 40 := by omega
  have hmi : (m : Int) ≤ 8 := by omega
  obtain ⟨n, hn⟩ : ∃ n, l.length = n := ⟨_, rfl⟩
  have HN := Lib.hid hn
  have R0 := Lib.hid (show SqRel w l m (.slice (some ⟨w.heap.size, 0, none⟩) 0 0) (num 0) (w.alloc (.cells #[] 9)) from ⟨0, Nat.zero_le _, rfl, OwnM.lit w [] (Nat.le_refl _) (Nat.zero_le _), (Ext.refl w).alloc _⟩)
  have H64 := Lib.hid (blankT_size 64)
  have HBl := Lib.hid blankT_walk
  rw [hn] at hcap hli hl ⊢
  clear hc hs hn
  go_enter Tryz.func25, Tryz.ntmps25
  go_wp2_with fail
  go_loopw [7, 8] (fun u i wr => SqRel w l m u i wr) (fun _ i _ => m - (intOf i).toNat)
  case atStart => exact R0.out
  case round =>
    obtain ⟨k, hk, rfl, hown, he⟩ := hrel
    clear R0
    by_cases hlt : k < m
    · have hki : (k : Int) < m := by omega
      have hst := squareL_step l k
      have hT8 := squareL_len l k
      obtain ⟨T, hT⟩ : ∃ T, squareL l k = T := ⟨_, rfl⟩
      rw [hT] at hown hst hT8
      by_cases hin : k < n
      · obtain ⟨x, rfl, hx⟩ := HC.out k (by rw [HN.out]; exact hin)
        have hsz := HS.out k (by rw [HN.out]; exact hin)
        have hini : (k : Int) < n := by omega
        have d1 := he.cell hx
        generalize l.getD k ByteArray.empty = y at d1 hsz hst
        have hszi : (y.size : Int) ≤ 100 := by omega
        clear hx
        replace hst : T ++ [(y ++ blankT 64).extract 0 5] = squareL l (k + 1) := hst
        have e2 := (Ext.refl wr).alloc (.cells #[strv ((y ++ blankT 64).extract 0 5)] 9)
        have HO := Lib.hid (hown.ext e2)
        have HB := Lib.hid (alloc_new wr (.cells #[strv ((y ++ blankT 64).extract 0 5)] 9))
        have ST := Lib.hid (fun (g cap : Nat) (w3 : World) (h1 : OwnM 9 strv w3 w.heap.size (.slice (some ⟨g, 0, none⟩) (T.length + 1) cap) (T ++ [(y ++ blankT 64).extract 0 5])) (h2 : Keeps (fun q => u7.ownBlock = some q) (wr.alloc (.cells #[strv ((y ++ blankT 64).extract 0 5)] 9)) w3) =>
          show SqRel w l m (.slice (some ⟨g, 0, none⟩) (T.length + 1) cap) (num ((k : Int) + 1)) w3 from ⟨k + 1, by omega, by go_num, by rw [hst] at h1; exact h1, (he.trans e2).keeps h2 (fun q hq => (hown.lt hq).1)⟩)
        have hB : w.heap.size ≤ (wr.alloc (.cells #[strv ((y ++ blankT 64).extract 0 5)] 9)).heap.size := by have := (he.trans e2).size; omega
        have hlen : T.length ≤ 1048576 := by omega
        have HB1 := Lib.hid (HBl.out wr)
        clear hT hst e2 hown he
        go_wp2_with fail
        refine HB1.out.mono ?_
        rintro e2 w2 ⟨rfl, rfl⟩
        clear HB1
        have hb64 := H64.out
        have hsum : y.size + 64 < 9223372036854775808 := by omega
        have h5 : 5 ≤ (y ++ blankT 64).size := by rw [ByteArray.size_append, hb64]; omega
        go_wp2_with (at_builtin; refine wpList_append_one Tryz.uStrs Tryz.iStr rfl (by decide) rfl _ _ rfl w.heap.size u7 T rfl HO.out w2.heap.size ((y ++ blankT 64).extract 0 5) rfl HB.out rfl hlen hB ?_; intro g cap5 w3 h1 h2 h3; have R := Lib.hid (ST.out g cap5 w3 h1 h2); clear h1 h2 h3 ST HO HB hlen hB)
        go_roundw
        case rel => have h := R.out; rw [hT8] at h; exact h
        case measure => simp [intOf]; omega
      · have hini : (n : Int) ≤ k := by omega
        have hy0 : l.getD k ByteArray.empty = ByteArray.empty := by rw [List.getD_eq_getElem?_getD, List.getElem?_eq_none (by rw [HN.out]; omega)]; rfl
        rw [hy0] at hst
        clear hy0
        replace hst : T ++ [((⟨#[]⟩ : ByteArray) ++ blankT 64).extract 0 5] = squareL l (k + 1) := hst
        have e2 := (Ext.refl wr).alloc (.cells #[strv (((⟨#[]⟩ : ByteArray) ++ blankT 64).extract 0 5)] 9)
        have HO := Lib.hid (hown.ext e2)
        have HB := Lib.hid (alloc_new wr (.cells #[strv (((⟨#[]⟩ : ByteArray) ++ blankT 64).extract 0 5)] 9))
        have ST := Lib.hid (fun (g cap : Nat) (w3 : World) (h1 : OwnM 9 strv w3 w.heap.size (.slice (some ⟨g, 0, none⟩) (T.length + 1) cap) (T ++ [((⟨#[]⟩ : ByteArray) ++ blankT 64).extract 0 5])) (h2 : Keeps (fun q => u7.ownBlock = some q) (wr.alloc (.cells #[strv (((⟨#[]⟩ : ByteArray) ++ blankT 64).extract 0 5)] 9)) w3) =>
          show SqRel w l m (.slice (some ⟨g, 0, none⟩) (T.length + 1) cap) (num ((k : Int) + 1)) w3 from ⟨k + 1, by omega, by go_num, by rw [hst] at h1; exact h1, (he.trans e2).keeps h2 (fun q hq => (hown.lt hq).1)⟩)
        have hB : w.heap.size ≤ (wr.alloc (.cells #[strv (((⟨#[]⟩ : ByteArray) ++ blankT 64).extract 0 5)] 9)).heap.size := by have := (he.trans e2).size; omega
        have hlen : T.length ≤ 1048576 := by omega
        have HB1 := Lib.hid (HBl.out wr)
        clear hT hst e2 hown he
        go_wp2_with fail
        refine HB1.out.mono ?_
        rintro e2 w2 ⟨rfl, rfl⟩
        clear HB1
        have hb64 := H64.out
        have hsum : (0 : Nat) + 64 < 9223372036854775808 := by omega
        have h5 : 5 ≤ ((⟨#[]⟩ : ByteArray) ++ blankT 64).size := by rw [ByteArray.size_append, hb64]; simp
        go_wp2_with (at_builtin; refine wpList_append_one Tryz.uStrs Tryz.iStr rfl (by decide) rfl _ _ rfl w.heap.size u7 T rfl HO.out w2.heap.size (((⟨#[]⟩ : ByteArray) ++ blankT 64).extract 0 5) rfl HB.out rfl hlen hB ?_; intro g cap5 w3 h1 h2 h3; have R := Lib.hid (ST.out g cap5 w3 h1 h2); clear h1 h2 h3 ST HO HB hlen hB)
        go_roundw
        case rel => have h := R.out; rw [hT8] at h; exact h
        case measure => simp [intOf]; omega
    · obtain rfl : k = m := by omega
      have HO := Lib.hid (And.intro hown he)
      clear hown he
      go_wp2_with fail
      go_ret
      exact ⟨_, rfl, HO.out.1, HO.out.2⟩
end Go.Proofs.YtdilchcnfnfdiaaGreatDoor
