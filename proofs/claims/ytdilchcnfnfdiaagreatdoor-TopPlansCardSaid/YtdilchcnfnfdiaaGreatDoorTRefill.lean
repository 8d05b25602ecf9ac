/- refill: Clone of []string, May, Make. -/
import Derived.Test.YtdilchcnfnfdiaaGreatDoorTSynQ
namespace Go.Proofs.YtdilchcnfnfdiaaGreatDoor
open Go.RowKit Go.Shelf

theorem Tryz.uStrs : Tryz.prog.underlying 57 = some (.slice 9) := by kernel_rfl
theorem Tryz.iStr : (Tryz.prog.info? 9).map (fun i => (i.zero, i.size, i.bytes)) = some (some (.string ByteArray.empty), 1, 16) := by kernel_rfl
theorem strs_nil (w : World) (x : Addr) (n c : Nat) : (binOp .eql 57 (.slice (some x) n c) (.slice none 0 0)).run Tryz.prog w = .ok (.bool false) w := by
  have h : ∀ d : Nat, (Op.equalIn (d + 1) 57 (.slice (some x) n c) (.slice none 0 0)).run Tryz.prog w = .ok false w := fun d => by
    simp [Op.equalIn, run_underlying Tryz.uStrs]
  simp only [binOp]
  simp [Op.equal, Op.maxDepth, h 9999]

set_option maxRecDepth 100000 in
theorem cloneT_walk (w : World) (v : Value) (l : List ByteArray) (hv : RdT w v l) (hne : l ≠ []) (hl : l.length ≤ 1000) :
    Calls Tryz.prog 56 #[v] w fun e w' => ∃ u, e = .returned u ∧ OwnM 9 strv w' w.heap.size u l ∧ Ext w w' := by
  obtain ⟨A, cap, rfl, hcap, hc⟩ := hv
  have hlen : 0 < l.length := List.length_pos_iff.2 hne
  obtain ⟨x, rfl, -⟩ := hc 0 hlen
  have h0 := OwnM.lit (B := w.heap.size) (t := 9) (f := strv) w [] (Nat.le_refl _) (Nat.zero_le _)
  have hc' : ∀ j u, (l.map strv)[j]? = some u → (w.alloc (.cells #[] 9)).cell? (x.add j) = some u := by
    intro j u hu
    have hj : j < l.length := by
      have := (List.getElem?_eq_some_iff.1 hu).1
      simpa using this
    obtain ⟨y, hy, hcj⟩ := hc j hj
    cases hy
    rw [((Ext.refl w).alloc _).cell hcj]
    rw [← hu]
    simp [hj]
  have H := Lib.hid (And.intro h0 hc')
  have HL := Lib.hid (show ([] : List ByteArray).length + l.length ≤ 1048576 by simp; omega)
  have HB := Lib.hid (show w.heap.size ≤ (w.alloc (.cells #[] 9)).heap.size by rw [size_alloc]; omega)
  have HE := Lib.hid ((Ext.refl w).alloc (.cells #[] 9))
  have hsn := fun W => strs_nil W x l.length cap
  clear h0 hc' hc
  go_enter Tryz.func56, Tryz.ntmps56
  go_wp2_with (at_builtin; refine wpList_append_many Tryz.uStrs Tryz.iStr rfl (by decide) rfl _ _ rfl w.heap.size (.slice (some ⟨w.heap.size, 0, none⟩) 0 0) [] rfl H.out.1 x l.length cap l rfl rfl hlen H.out.2 (fun _ _ => rfl) HL.out HB.out ?_; intro g cap2 w' h1 h2 h3; have R := Lib.hid (And.intro h1 h2); clear h1 h2 h3 H HL HB)
  go_ret
  obtain ⟨r1, r2⟩ := R.out
  refine ⟨_, rfl, ?_, HE.out.keeps r2 (fun b hb => Nat.le_of_eq (by simpa [Value.ownBlock] using hb))⟩
  rw [List.nil_append, List.length_nil, Nat.zero_add] at r1
  exact r1

theorem make_boolsT (m : Nat) (hm : m ≤ 10) (W : World) : (Instr.makeSlice 58 (num m) (num m)).run Tryz.prog W = .ok (.slice (some ⟨W.heap.size, 0, none⟩) m m) (W.alloc (.cells (List.replicate m (Value.bool false)).toArray 4)) :=
  match m, hm with
  | 0, _ => by kernel_rfl
  | 1, _ => by kernel_rfl
  | 2, _ => by kernel_rfl
  | 3, _ => by kernel_rfl
  | 4, _ => by kernel_rfl
  | 5, _ => by kernel_rfl
  | 6, _ => by kernel_rfl
  | 7, _ => by kernel_rfl
  | 8, _ => by kernel_rfl
  | 9, _ => by kernel_rfl
  | 10, _ => by kernel_rfl
  | (m + 11), h => absurd h (by omega)

def MayRel (W : World) (n S : Nat) (s i : Value) (wr : World) : Prop := wr = W ∧ ((∃ k : Nat, k < n ∧ i = num k ∧ s = num (-1)) ∨ ∃ k : Nat, 1 ≤ k ∧ k ≤ n ∧ i = num k ∧ s = num S)
set_option maxRecDepth 100000 in
theorem mayT_walk (w : World) (v : Value) (l : List ByteArray) (S : Nat) (hv : RdT w v l) (h4 : 4 ≤ l.length) (h10 : l.length ≤ 10) (hS : S ≤ 1000) (hs : ∀ x ∈ l, x.size = S) :
    Calls Tryz.prog 57 #[v, .slice none 0 0] w fun e w' => e = .returned (num 0) ∧ Ext w w' := by
  obtain ⟨A, cap, rfl, hcap, hc⟩ := hv
  have hmk : ∀ W : World, (Instr.makeSlice 58 (.int .i64 (l.length : Int)) (.int .i64 (l.length : Int))).run Tryz.prog W = .ok (.slice (some ⟨W.heap.size, 0, none⟩) l.length l.length) (W.alloc (.cells (List.replicate l.length (Value.bool false)).toArray 4)) := fun W => make_boolsT l.length h10 W
  have hE := (Ext.refl w).alloc (.cells (List.replicate l.length (Value.bool false)).toArray 4)
  have hb := alloc_new w (.cells (List.replicate l.length (Value.bool false)).toArray 4)
  have hbc : ∀ k, k < l.length → (w.alloc (.cells (List.replicate l.length (Value.bool false)).toArray 4)).cell? ⟨w.heap.size, k, none⟩ = some (.bool false) := fun k hk => by
    rw [cell_blk hb]
    simp [hk]
  have hcc : ∀ k, k < l.length → ∃ x, A = some x ∧ (w.alloc (.cells (List.replicate l.length (Value.bool false)).toArray 4)).cell? (x.add k) = some (strv (l.getD k ByteArray.empty)) := fun k hk => by
    obtain ⟨x, hx, hk⟩ := hc k hk
    exact ⟨x, hx, hE.cell hk⟩
  have hsz : ∀ k, k < l.length → (l.getD k ByteArray.empty).size = S := fun k hk => hs _ (by rw [List.getD_eq_getElem?_getD, List.getElem?_eq_getElem hk]; exact List.getElem_mem hk)
  obtain ⟨n, hn⟩ : ∃ n, l.length = n := ⟨_, rfl⟩
  rw [hn] at hcap hmk hE hb hbc hcc hsz h4 h10 ⊢
  have HC := Lib.hid (And.intro hcc (And.intro hbc hsz))
  have HE := Lib.hid hE
  have h4i : (4 : Int) ≤ n := by omega
  have h10i : (n : Int) ≤ 10 := by omega
  have hSi : (S : Int) ≤ 1000 := by omega
  clear hc hs hcc hbc hsz hE hb hn
  go_enter Tryz.func57, Tryz.ntmps57
  go_wp2_with fail
  go_loopw [24] (fun i wr => i = num 0 ∧ wr = w.alloc (.cells (List.replicate n (Value.bool false)).toArray 4)) (fun _ _ => 0)
  case atStart => exact ⟨rfl, rfl⟩
  case round =>
    obtain ⟨rfl, rfl⟩ := hrel
    obtain ⟨W, hW⟩ : ∃ W, w.alloc (.cells (List.replicate n (Value.bool false)).toArray 4) = W := ⟨_, rfl⟩
    simp only [hW] at HC HE ⊢
    clear hmk hW
    go_wp2_with fail
    go_loopw [8, 48] (fun s i wr => MayRel W n S s i wr) (fun _ i _ => n - (intOf i).toNat)
    case atStart => exact ⟨rfl, .inl ⟨0, by omega, rfl, rfl⟩⟩
    case round =>
      obtain ⟨rfl, h⟩ := hrel
      rcases h with ⟨k, hk, rfl, rfl⟩ | ⟨k, hk1, hk, rfl, rfl⟩
      · obtain ⟨x, rfl, hx⟩ := HC.out.1 k hk
        have hbx := HC.out.2.1 k hk
        have hsx := HC.out.2.2 k hk
        have hki : (k : Int) < n := by omega
        generalize l.getD k ByteArray.empty = y at hx hsx
        go_wp2_with fail
        go_roundw
        case rel => exact ⟨rfl, .inr ⟨k + 1, by omega, by omega, by go_num, by first | rfl | rw [hsx]⟩⟩
        case measure => simp [intOf]; omega
      · by_cases hlt : k < n
        · obtain ⟨x, rfl, hx⟩ := HC.out.1 k hlt
          have hbx := HC.out.2.1 k hlt
          have hsx := HC.out.2.2 k hlt
          have hki : (k : Int) < n := by omega
          generalize l.getD k ByteArray.empty = y at hx hsx
          go_wp2_with fail
          go_roundw
          case rel => exact ⟨rfl, .inr ⟨k + 1, by omega, by omega, by go_num, by first | rfl | rw [hsx]⟩⟩
          case measure => simp [intOf]; omega
        · obtain rfl : k = n := by omega
          go_wp2_with fail
          go_ret
          exact ⟨rfl, HE.out⟩

theorem addT_all (S : Nat) : ∀ (l : List ByteArray) (s : ByteArray), s.size ≤ S → l ≠ [] → (∀ x ∈ l, x.size = S) → (l.foldl xorT s).size = S
  | [], _, _, h, _ => absurd rfl h
  | [x], s, h, _, hx => by
    have := hx x List.mem_cons_self
    show (xorT s x).size = S
    rw [xorT_size]; omega
  | x :: y :: r, s, h, _, hx => addT_all S (y :: r) (xorT s x) (by rw [xorT_size]; have := hx x List.mem_cons_self; omega) (List.cons_ne_nil _ _) (fun z hz => hx z (List.mem_cons_of_mem _ hz))
theorem qT_all (l : List ByteArray) (S : Nat) (h : ∀ x ∈ l, x.size = S) : ∀ j, j ≤ l.length → 0 < j → (qT l j).size = S
  | 0, _, h0 => absurd h0 (Nat.lt_irrefl _)
  | j + 1, hj, _ => by
    have h1 := qT_size l S (fun x hx => by rw [h x hx]; exact Nat.le_refl _) j (by omega)
    have h2 := h (l.getD j ByteArray.empty) (by rw [List.getD_eq_getElem?_getD, List.getElem?_eq_getElem (by omega)]; exact List.getElem_mem _)
    rw [qT, xorT_size, timesT_size]
    omega
/-- The columns of a stripe, with its two checks. -/
def colsT (l : List ByteArray) : List ByteArray := l ++ [addT l, qT l l.length]
theorem colsT_len (l : List ByteArray) : (colsT l).length = l.length + 2 := by simp [colsT]
theorem colsT_all (l : List ByteArray) (S : Nat) (hne : l ≠ []) (h : ∀ x ∈ l, x.size = S) : ∀ x ∈ colsT l, x.size = S := by
  intro x hx
  rcases List.mem_append.1 hx with hx | hx
  · exact h x hx
  · rcases List.mem_cons.1 hx with rfl | hx
    · exact addT_all S l _ (Nat.zero_le _) hne h
    · rcases List.mem_singleton.1 hx with rfl
      exact qT_all l S h l.length (Nat.le_refl _) (List.length_pos_iff.2 hne)
set_option maxRecDepth 100000 in
theorem refillT_walk (w : World) (v : Value) (l : List ByteArray) (S : Nat) (hv : RdT w v l) (h2 : 2 ≤ l.length) (h8 : l.length ≤ 8) (hS : S ≤ 1000) (hs : ∀ x ∈ l, x.size = S) :
    Calls Tryz.prog 26 #[v] w fun e w' => ∃ u, e = .returned (.tuple #[u, num 0]) ∧ OwnM 9 strv w' w.heap.size u (colsT l) ∧ Ext w w' := by
  have hne : l ≠ [] := by rintro rfl; simp at h2
  have hs' : ∀ x ∈ l, x.size ≤ 1000 := fun x hx => by rw [hs x hx]; exact hS
  have HC := Lib.hid (cloneT_walk w v l hv hne (by omega))
  have HP := Lib.hid (fun W (e : Ext w W) => synP_walk W v l (hv.ext e) (by omega) hs')
  have HQ := Lib.hid (fun W (e : Ext w W) => synQ_walk W v l (hv.ext e) h8 hs')
  have HM := Lib.hid (fun W u (hu : OwnM 9 strv W w.heap.size u (colsT l)) => mayT_walk W u (colsT l) S (hu.rd ByteArray.empty) (by rw [colsT_len]; omega) (by rw [colsT_len]; omega) hS (colsT_all l S hne hs))
  have HL := Lib.hid (show l.length + 2 ≤ 1048576 by omega)
  clear hv hne hs hs' h2 h8
  go_enter Tryz.func26, Tryz.ntmps26
  go_wp2_with fail
  refine HC.out.mono ?_
  rintro e1 w1 ⟨u, rfl, hu, he1⟩
  have HP1 := Lib.hid (HP.out w1 he1)
  have F1 := Lib.hid (And.intro hu he1)
  clear HC HP hu he1
  go_wp2_with fail
  refine HP1.out.mono ?_
  rintro e2 w2 ⟨rfl, he2⟩
  have HQ1 := Lib.hid (HQ.out w2 (F1.out.2.trans he2))
  have F2 := Lib.hid (And.intro (F1.out.1.ext he2) (F1.out.2.trans he2))
  clear HP1 HQ he2 F1
  go_wp2_with fail
  refine HQ1.out.mono ?_
  rintro e3 w3 ⟨rfl, he3⟩
  have HA := Lib.hid ((Ext.refl w3).alloc (.cells #[strv (addT l), strv (qT l l.length)] 9))
  have hcl : ∀ j x, ([addT l, qT l l.length].map strv)[j]? = some x → (w3.alloc (.cells #[strv (addT l), strv (qT l l.length)] 9)).cell? ((⟨w3.heap.size, 0, none⟩ : Addr).add j) = some x := fun j x hx => by
    rw [zero_add, cell_blk (alloc_new w3 _)]
    simpa using hx
  have HK := Lib.hid hcl
  have F3 := Lib.hid (And.intro ((F2.out.1.ext he3).ext HA.out) ((F2.out.2.trans he3).trans HA.out))
  have HB := Lib.hid (show w.heap.size ≤ (w3.alloc (.cells #[strv (addT l), strv (qT l l.length)] 9)).heap.size from F3.out.2.size)
  clear HQ1 he3 F2 HA hcl
  go_wp2_with (at_builtin; refine wpList_append_many Tryz.uStrs Tryz.iStr rfl (by decide) rfl _ _ rfl w.heap.size u l rfl F3.out.1 ⟨w3.heap.size, 0, none⟩ 2 2 [addT l, qT l l.length] rfl rfl (by decide) HK.out (fun _ _ => rfl) HL.out HB.out ?_; intro g cap2 w4 h1 h2 h3; have R := Lib.hid (And.intro h1 (And.intro (h1.lt rfl).1 h2)); clear h1 h2 h3 HK HL HB)
  obtain ⟨r1, r2, r3⟩ := R.out
  have E4 : Ext w w4 := F3.out.2.keeps r3 (fun b hb => (F3.out.1.lt hb).1)
  rw [show l.length + 2 = (colsT l).length from (colsT_len l).symm] at r1
  have HM1 := Lib.hid (HM.out w4 _ r1)
  have F4 := Lib.hid (And.intro r1 E4)
  rw [colsT_len] at HM1 F4
  clear r1 r2 r3 E4 R HM F3
  go_wp2_with fail
  refine HM1.out.mono ?_
  rintro e5 w5 ⟨rfl, he5⟩
  have F5 := Lib.hid (And.intro (F4.out.1.ext he5) (F4.out.2.trans he5))
  clear HM1 he5 F4
  go_wp2_with fail
  go_ret2
  exact ⟨_, rfl, F5.out.1, F5.out.2⟩
end Go.Proofs.YtdilchcnfnfdiaaGreatDoor
