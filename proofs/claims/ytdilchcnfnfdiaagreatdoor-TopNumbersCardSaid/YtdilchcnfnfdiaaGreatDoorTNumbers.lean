/- TopNumbers: the walk. -/
import Derived.Test.YtdilchcnfnfdiaaGreatDoorTShown
import Derived.Test.YtdilchcnfnfdiaaGreatDoorTDecode
import Derived.Test.YtdilchcnfnfdiaaGreatDoorTCrcJ
namespace Go.Proofs.YtdilchcnfnfdiaaGreatDoor
open Go.RowKit

/-- What the walk is told of numbers that came in. -/
def NumArg (w : World) (a : Option Addr) (len : Nat) (xs : Nat → Nat) : Prop := ∀ i, i < len → xs i < 2 ^ 64 ∧ ∃ x, a = some x ∧ w.cell? (x.add i) = some (u64v (xs i))
def firstL (xs : Nat → Nat) (n : Nat) : List Nat := (List.range n).map xs
theorem firstL_snoc (xs : Nat → Nat) (k : Nat) : firstL xs (k + 1) = firstL xs k ++ [xs k] := by simp [firstL, List.range_succ]
theorem firstL_len (xs : Nat → Nat) (k : Nat) : (firstL xs k).length = k := by simp [firstL]
theorem sumN_rep (k : Nat) : sumN (List.replicate k 8) k = 8 * k := by
  unfold sumN
  rw [List.take_of_length_le (by simp), List.sum_replicate_nat]
  omega
theorem take_sealL (bs : List Nat) : (sealL bs).take bs.length = bs := by
  unfold sealL padL
  rw [List.append_assoc, List.take_append_of_le_length (Nat.le_refl _), List.take_of_length_le (Nat.le_refl _)]
theorem open_any (s : ByteArray) (hs : s.size = 64) {lb : Bool} (h : openB (secOf s) = lb) : ∃ U : ByteArray, ∀ w, Calls Tryz.prog 10 #[.string s] w fun e w' => e = .returned (.tuple #[.string U, .bool lb]) ∧ Ext w w' :=
  ⟨if lb then s.extract 0 60 else { data := #[] }, fun w => by have := open_walk s w hs; rw [h] at this; exact this⟩
theorem secOf_append (a b : ByteArray) : secOf (a ++ b) = secOf a ++ secOf b := by
  unfold secOf
  rw [ByteArray.data_append, Array.toList_append, List.map_append]
/-- A text of which one byte is another one. -/
theorem flip_open (S : ByteArray) (hs : S.size = 64) (ho : openB (secOf S) = true) {kk bk by_ cb : Nat} (hk : kk < S.size) (hb : S[kk].toNat = bk) (hby : by_ < 256) (hc : bk ^^^ by_ = cb) :
    openB (secOf (S.extract 0 kk ++ textOf [cb] ++ S.extract (kk + 1) S.size)) = decide (by_ = 0) ∧ (S.extract 0 kk ++ textOf [cb] ++ S.extract (kk + 1) S.size).size = 64 := by
  have hbk : bk < 256 := by rw [← hb]; exact S[kk].toNat_lt
  have hcb : cb < 256 := by rw [← hc]; exact Nat.xor_lt_two_pow (n := 8) hbk hby
  have hl : (secOf S).length = 64 := by rw [secOf_len]; exact hs
  have hat : (secOf S)[kk]? = some bk := by
    have hk' : kk < S.data.size := hk
    rw [← hb]
    unfold secOf
    rw [List.getElem?_map, Array.getElem?_toList, Array.getElem?_eq_getElem hk']
    rfl
  have hsec : secOf (S.extract 0 kk ++ textOf [cb] ++ S.extract (kk + 1) S.size) = (secOf S).set kk cb := by
    rw [secOf_append, secOf_append, secOf_extract, secOf_extract, secOf_textOf (by intro y hy; rcases List.mem_singleton.1 hy with rfl; exact hcb), List.drop_zero, List.take_of_length_le (show (secOf S).length ≤ S.size by omega), List.set_eq_take_append_cons_drop, if_pos (by omega), List.append_assoc]
    rfl
  refine ⟨?_, by rw [← secOf_len, hsec, List.length_set]; exact hl⟩
  rw [hsec]
  by_cases h0 : by_ = 0
  · have : cb = bk := by rw [← hc, h0]; simp
    rw [decide_eq_true h0, this, show (secOf S).set kk bk = secOf S from by
      obtain ⟨h1, h2⟩ := split_at hat
      rw [h2 bk, ← h1]]
    exact ho
  · rw [decide_eq_false h0]
    refine open_off hl (secOf_lt S) ho hat hcb (fun e => h0 ?_)
    have h1 : bk ^^^ by_ = bk ^^^ 0 := by rw [hc, e, Nat.xor_zero]
    exact xor_cancel_l h1
/-- Ahead of a number that is taken. -/
def TakeRel (w : World) (xs : Nat → Nat) (n : Nat) (v x i : Value) (wr : World) : Prop :=
  ∃ k : Nat, k ≤ n ∧ i = num k ∧ OwnM 3 natv wr w.heap.size v (List.replicate k 8) ∧ OwnM 24 u64v wr w.heap.size x (firstL xs k) ∧ (∀ g, v.ownBlock = some g → x.ownBlock ≠ some g) ∧ Ext w wr

set_option maxRecDepth 100000 in
set_option maxHeartbeats 4000000 in
theorem numbers_walk (a : Option Addr) (len cap at_ by_ : Nat) (xs : Nat → Nat) (w : World) (hx : NumArg w a len xs) (hl : (len : Int) ≤ 9223372036854775807) (hat : at_ ≤ 255) (hby : by_ ≤ 255) :
    Calls Tryz.prog 3 #[.slice a len cap, .int .u8 at_, .int .u8 by_] w fun e w' => e = .returned (.bool true) ∧ Ext w w' := by
  have HX := Lib.hid hx
  obtain ⟨n, hn⟩ : ∃ n, min len 7 = n := ⟨_, rfl⟩
  have hn7 : n ≤ 7 := by omega
  have hnl : n ≤ len := by omega
  have HN := Lib.hid hn
  have A0 := Lib.hid (show TakeRel w xs n (.slice (some ⟨w.heap.size, 0, none⟩) 0 0) (.slice (some ⟨w.heap.size + 1, 0, none⟩) 0 0) (num 0) ((w.alloc (.cells #[] 3)).alloc (.cells #[] 24)) from by
    have h1 := (OwnM.lit (B := w.heap.size) (t := 3) (f := natv) w [] (Nat.le_refl _) (Nat.zero_le _)).ext ((Ext.refl _).alloc (.cells #[] 24))
    have h2 := OwnM.lit (B := w.heap.size) (t := 24) (f := u64v) (w.alloc (.cells #[] 3)) [] (by rw [size_alloc]; omega) (Nat.zero_le _)
    rw [size_alloc] at h2
    refine ⟨0, Nat.zero_le _, rfl, h1, h2, fun g hg e => ?_, ((Ext.refl w).alloc _).alloc _⟩
    have hg : w.heap.size = g := by simpa [Value.ownBlock] using hg
    have e : w.heap.size + 1 = g := by simpa [Value.ownBlock] using e
    omega)
  clear hx hn
  go_enter Tryz.func3, Tryz.ntmps3
  go_wp2_with fail
  go_loopw [7, 8, 9] (fun v x i wr => TakeRel w xs n v x i wr) (fun _ _ i _ => n - (intOf i).toNat)
  case atStart => exact A0.out
  case round =>
    obtain ⟨k, hk, rfl, hv, hxv, hne, he⟩ := hrel
    clear A0
    by_cases hlt : k < n
    · obtain ⟨hyb, x, rfl, hcx⟩ := HX.out k (by omega)
      obtain ⟨y, hy⟩ : ∃ y, xs k = y := ⟨_, rfl⟩
      rw [hy] at hyb hcx
      have hsn := firstL_snoc xs k
      rw [hy] at hsn
      obtain ⟨T1, hT1⟩ : ∃ T1, List.replicate k 8 = T1 := ⟨_, rfl⟩
      obtain ⟨T2, hT2⟩ : ∃ T2, firstL xs k = T2 := ⟨_, rfl⟩
      have hsn1 : List.replicate (k + 1) 8 = T1 ++ [8] := by rw [← hT1, List.replicate_succ']
      rw [hT1] at hv
      rw [hT2] at hxv hsn
      have hl1 : T1.length ≤ 1048576 := by rw [← hT1]; simp; omega
      have hl2 : T2.length ≤ 1048576 := by rw [← hT2, firstL_len]; omega
      have e1 := (Ext.refl wr).alloc (.cells #[natv 8] 3)
      have HV := Lib.hid (hv.ext e1)
      have HB1 := Lib.hid (alloc_new wr (.cells #[natv 8] 3))
      have hB1 : w.heap.size ≤ (wr.alloc (.cells #[natv 8] 3)).heap.size := by rw [size_alloc]; have := he.size; omega
      have ST1 := Lib.hid (fun (g cap : Nat) (w5 : World) (h1 : OwnM 3 natv w5 w.heap.size (.slice (some ⟨g, 0, none⟩) (T1.length + 1) cap) (T1 ++ [8])) (h2 : Keeps (fun q => u7.ownBlock = some q) (wr.alloc (.cells #[natv 8] 3)) w5) (h3 : u7.ownBlock = some g ∨ g = (wr.alloc (.cells #[natv 8] 3)).heap.size) =>
        show w5.cell? (x.add k) = some (u64v y) ∧ (OwnM 24 u64v (w5.alloc (.cells #[u64v y] 24)) w.heap.size u8 T2 ∧ (w5.alloc (.cells #[u64v y] 24)).heap[w5.heap.size]? = some (.cells #[u64v y] 24 (0, 0)) ∧ w.heap.size ≤ (w5.alloc (.cells #[u64v y] 24)).heap.size) ∧
          (∀ (g6 cap6 : Nat) (w6 : World), OwnM 24 u64v w6 w.heap.size (.slice (some ⟨g6, 0, none⟩) (T2.length + 1) cap6) (T2 ++ [y]) → Keeps (fun q => u8.ownBlock = some q) (w5.alloc (.cells #[u64v y] 24)) w6 → (u8.ownBlock = some g6 ∨ g6 = (w5.alloc (.cells #[u64v y] 24)).heap.size) →
            TakeRel w xs n (.slice (some ⟨g, 0, none⟩) (T1.length + 1) cap) (.slice (some ⟨g6, 0, none⟩) (T2.length + 1) cap6) (num ((k : Int) + 1)) w6) from by
          have E5 : Ext w w5 := (he.trans e1).keeps h2 (fun q hq => (hv.lt hq).1)
          have hx5 : OwnM 24 u64v w5 w.heap.size u8 T2 := (hxv.ext e1).keep h2 (fun q hq h' => hne q h' hq)
          have hgu : u8.ownBlock ≠ some g := by
            rcases h3 with h3 | h3
            · exact hne g h3
            · intro hq
              have := (hxv.lt hq).2
              rw [size_alloc] at h3
              omega
          refine ⟨E5.cell hcx, ⟨hx5.ext ((Ext.refl w5).alloc _), alloc_new w5 _, by rw [size_alloc]; have := E5.size; omega⟩, fun g6 cap6 w6 j1 j2 j3 => ?_⟩
          refine ⟨k + 1, by omega, by go_num, ?_, ?_, fun q hq hq' => ?_, (E5.trans ((Ext.refl w5).alloc _)).keeps j2 (fun q hq => (hxv.lt hq).1)⟩
          · rw [hsn1]
            have h5 := (h1.ext ((Ext.refl w5).alloc (.cells #[u64v y] 24))).keep j2 (fun q hq h' => by
              have hq : g = q := by simpa [Value.ownBlock] using hq
              subst hq
              exact hgu h')
            exact h5
          · rw [hsn]
            exact j1
          · have hq : g = q := by simpa [Value.ownBlock] using hq
            have hq' : g6 = q := by simpa [Value.ownBlock] using hq'
            subst hq
            subst hq'
            rcases j3 with j3 | j3
            · exact hgu j3
            · have := (h1.lt (g := g6) rfl).2
              rw [size_alloc] at j3
              omega)
      have hki : (k : Int) < len := by omega
      have hki7 : (k : Int) < 7 := by omega
      have hkd : decide (k < len) = true := by simp; omega
      clear hv hxv hne he hcx hT1 hT2 hsn hsn1 e1 hy hyb
      go_wp2_with (first
        | (at_builtin; refine wpList_append_one Tryz.uInts Tryz.iInt rfl (by decide) rfl _ _ rfl w.heap.size u7 T1 rfl HV.out wr.heap.size 8 rfl HB1.out rfl hl1 hB1 ?_; intro g cap5 w5 h1 h2 h3; obtain ⟨hc5, hx5, hst⟩ := ST1.out g cap5 w5 h1 h2 h3; have HX5 := Lib.hid hx5; have ST2 := Lib.hid hst; clear h1 h2 h3 hx5 hst ST1 HV HB1 hB1)
        | (at_builtin; refine wpList_append_one Tryz.uU64s' Tryz.iU64' rfl (by decide) rfl _ _ rfl w.heap.size u8 T2 rfl HX5.out.1 w5.heap.size y rfl HX5.out.2.1 rfl hl2 HX5.out.2.2 ?_; intro g6 cap6 w6 j1 j2 j3; have R := Lib.hid (ST2.out g6 cap6 w6 j1 j2 j3); clear j1 j2 j3 ST2 HX5))
      go_roundw
      case rel => exact R.out
      case measure => simp [intOf]; omega
    · obtain rfl : k = n := by omega
      have hxs : ∀ i, i < k → xs i < 2 ^ 64 := fun i hi => (HX.out i (by omega)).1
      have hkn := HN.out
      obtain ⟨Aw, cw, hu7, _, hcw⟩ := hv.rd 0
      obtain ⟨Ax, cx, hu8, _, hcx⟩ := hxv.rd 0
      have HRD := hv.rd 0
      rw [List.length_replicate] at hu7
      rw [firstL_len] at hu8 hcx
      subst hu7 hu8
      have hle := sumN_rep k
      have HEN := encode_walk wr Ax Aw cx cw (firstL xs k) (List.replicate k 8) (fun i hi => by
        rw [List.length_replicate] at hi
        exact hcx i hi) (by rw [List.length_replicate]; exact HRD) (fun y hy => by rw [List.eq_of_mem_replicate hy]; decide) (by simp; omega) (fun i hi => by
        rw [List.length_replicate] at hi
        have h8 : (List.replicate k 8).getD i 0 = 8 := by simp [hi]
        have hxi : (firstL xs k).getD i 0 = xs i := by simp [firstL, hi]
        rw [h8, hxi]
        exact hxs i hi)
      rw [List.length_replicate] at HEN
      have hEl : (encL (firstL xs k) (List.replicate k 8)).length = 8 * k := by
        rw [encL, List.length_map, placesTo_len _ _ (Nat.le_refl _), List.length_replicate]
        exact hle
      have HEN2 := Lib.hid HEN
      have R := Lib.hid (And.intro hv (And.intro hxv (And.intro he hEl)))
      clear hv hxv hne he hcw hcx HRD HEN hEl hle hlt hk
      have HZ := fun W => Lib.hid (seal_walk (textOf (encL (firstL xs k) (List.replicate k 8))) W (by rw [textOf_size, R.out.2.2.2]; omega))
      obtain ⟨Z, hZ⟩ : ∃ Z, textOf (encL (firstL xs k) (List.replicate k 8)) = Z := ⟨_, rfl⟩
      have HZ2 := Lib.hid (show secOf Z = encL (firstL xs k) (List.replicate k 8) by rw [← hZ]; exact secOf_textOf (encL_lt _ _))
      have HEN3 := HEN2.out
      rw [hZ] at HZ HEN3
      obtain ⟨S, hS⟩ : ∃ S, textOf (sealL (secOf Z)) = S := ⟨_, rfl⟩
      have hsl : secOf S = sealL (encL (firstL xs k) (List.replicate k 8)) := by rw [← hS, HZ2.out]; exact secOf_textOf (sealL_lt (encL_lt _ _))
      have hSs : S.size = 64 := by rw [← secOf_len, hsl]; exact sealL_len (by rw [R.out.2.2.2]; omega)
      have hSi : (S.size : Int) = 64 := by omega
      rw [hS] at HZ
      have HEN4 := Lib.hid HEN3
      have HSL := Lib.hid (And.intro hsl hSs)
      have HSH := fun W => Lib.hid (shown_walk W)
      clear HEN2 HEN3 hZ hS hsl hSs
      have hki7 : (k : Int) ≤ 7 := by omega
      have hkey : ((len : Int) ≤ k) ∨ ((k : Int) < len ∧ (7 : Int) ≤ k) := by omega
      clear hkn
      rcases hkey with hkl | ⟨hkl, hk7⟩
      all_goals
        go_wp2_with fail
        refine HEN4.out.mono ?_
        rintro e1 w1 ⟨rfl, he1⟩
        have R1 := Lib.hid he1
        clear HEN4 he1
        go_wp2_with fail
        refine (HZ _).out.mono ?_
        rintro e2 w2 ⟨rfl, he2⟩
        have R2 := Lib.hid (R1.out.trans he2)
        clear HZ R1 he2
        go_wp2_with fail
        refine (HSH _).out.mono ?_
        rintro e3 w3 ⟨rfl, he3⟩
        have R3 := Lib.hid (R2.out.trans he3)
        clear HSH R2 he3
        go_wp2_with fail
        have HOP := open_walk S w3 HSL.out.2
        rw [HSL.out.1, open_seal (by rw [R.out.2.2.2]; omega), if_pos rfl] at HOP
        obtain ⟨T, hT⟩ : ∃ T, S.extract 0 60 = T := ⟨_, rfl⟩
        rw [hT] at HOP
        have hTs : T.size = 60 := by rw [← hT, ByteArray.size_extract, HSL.out.2]; rfl
        have hTi : (T.size : Int) = 60 := by omega
        have HT := Lib.hid (And.intro hT hTs)
        have HOP2 := Lib.hid HOP
        clear hT hTs HOP
        refine HOP2.out.mono ?_
        rintro e4 w4 ⟨rfl, he4⟩
        have R4 := Lib.hid (R3.out.trans he4)
        clear HOP2 R3 he4
        go_wp2_with fail
        have hT8 : T.extract 0 (8 * k) = leftT (firstL xs k) (List.replicate k 8) 0 := by
          refine secOf_inj ?_
          rw [secOf_extract', List.drop_zero, ← HT.out.1, secOf_extract', List.drop_zero, HSL.out.1, leftT, List.drop_zero, secOf_textOf (encL_lt _ _), List.take_take, show min (8 * k) 60 = (encL (firstL xs k) (List.replicate k 8)).length by rw [R.out.2.2.2]; omega]
          exact take_sealL _
        rw [hT8]
        have HRW := (R.out.1.ext R4.out).rd 0
        have HDE := decode_walk w4 Aw cw (firstL xs k) (List.replicate k 8) (by rw [List.length_replicate]; exact HRW) (fun y hy => by rw [List.eq_of_mem_replicate hy]; decide) (by simp; omega) (by rw [firstL_len]; simp) (fun i hi => by
          rw [List.length_replicate] at hi
          have h8 : (List.replicate k 8).getD i 0 = 8 := by simp [hi]
          have hxi : (firstL xs k).getD i 0 = xs i := by simp [firstL, hi]
          rw [h8, hxi]
          exact hxs i hi)
        rw [List.length_replicate] at HDE
        have HDE2 := Lib.hid HDE
        clear hT8 HRW HDE
        refine HDE2.out.mono ?_
        rintro e5 w5 ⟨v5, rfl, hv5, he5⟩
        obtain ⟨A5, c5, hv5e, _, _⟩ := hv5.rd 0
        rw [firstL_len] at hv5e
        subst hv5e
        have R5 := Lib.hid (And.intro hv5 (R4.out.trans he5))
        clear HDE2 R4 hv5 he5
        have hkk : at_ % 64 < 64 := Nat.mod_lt _ (by decide)
        have hkm : (at_ : Int) % 64 = ((at_ % 64 : Nat) : Int) := by omega
        generalize at_ % 64 = kk at hkk hkm
        have hkki : (kk : Int) < 64 := by omega
        have hkS : kk < S.size := by have := HSL.out.2; omega
        obtain ⟨bk, hbk⟩ : ∃ bk, S[kk].toNat = bk := ⟨_, rfl⟩
        have hbL : bk < 256 := by rw [← hbk]; exact S[kk].toNat_lt
        obtain ⟨cb, hcb⟩ : ∃ cb, bk ^^^ by_ = cb := ⟨_, rfl⟩
        have hxo : bits BinOp.xor IntKind.u8 (bk : Int) (by_ : Int) = (cb : Int) := by rw [u8_xor_nat bk by_ hbL (by omega), hcb]
        have hcL : cb < 256 := by rw [← hcb]; exact Nat.xor_lt_two_pow (n := 8) hbL (by omega)
        obtain ⟨f1, f2⟩ := flip_open S HSL.out.2 (by rw [HSL.out.1]; exact open_seal (by rw [R.out.2.2.2]; omega)) hkS hbk (show by_ < 256 by omega) hcb
        obtain ⟨lb, hlb⟩ : ∃ lb, decide (by_ = 0) = lb := ⟨_, rfl⟩
        have HLB := Lib.hid (show (lb = true ∧ (by_ : Int) = 0) ∨ (lb = false ∧ ¬ (by_ : Int) = 0) from by
          by_cases h : by_ = 0
          · exact .inl ⟨by rw [← hlb]; exact decide_eq_true h, by omega⟩
          · exact .inr ⟨by rw [← hlb]; exact decide_eq_false h, by omega⟩)
        rw [hlb] at f1
        obtain ⟨U3, hU3⟩ := open_any _ f2 f1
        have HO3 := fun W => Lib.hid (hU3 W)
        clear hcb f1 f2 hlb hU3
        go_wp2_with fail
        rw [hkm]
        have X := Lib.hid (Ext.refl w5).drew
        have hk64 : ¬ (64 : Int) < kk := by omega
        have hkw : IntKind.i64.wrap ((kk : Int) + 1) = (kk : Int) + 1 := by rw [IntKind.wrap_i64]; omega
        have hkb1 : (0 : Int) ≤ (kk : Int) + 1 := by omega
        have hkb2 : (kk : Int) + 1 ≤ 64 := by omega
        refine wp_region_noPanic ?_
        refine wp_region_held_drew (S := fun W => Ext w5 W) (by kernel_rfl) X.out (fun hHeld => ?_)
        generalize World.drew w5 = wd at X hHeld ⊢
        -- (GEN
        refine wpAnyH_take3 (i := 0) (d := 99) (v := .string S) rfl rfl (by kernel_rfl) (by kernel_rfl) (by kernel_rfl) (fun _ _ _ h => h) (Or.inl ⟨by rfl, ?_⟩) hHeld ?_
        · intro w9 hS9
          go_simp
        simp only [List.setIfInBounds_toArray, List.set_cons_succ, List.set_cons_zero]
        refine wpAnyH_take3 (i := 1) (d := 100) (v := num kk) rfl rfl (by kernel_rfl) (by kernel_rfl) (by kernel_rfl) (fun _ _ _ h => h) (Or.inl ⟨by rfl, ?_⟩) hHeld ?_
        · intro w9 hS9
          go_simp
        simp only [List.setIfInBounds_toArray, List.set_cons_succ, List.set_cons_zero]
        refine wpAnyH_take3 (i := 2) (d := 101) (v := .string (S.extract 0 kk)) rfl rfl (by kernel_rfl) (by kernel_rfl) (by kernel_rfl) (fun _ _ _ h => h) (Or.inl ⟨by rfl, ?_⟩) hHeld ?_
        · intro w9 hS9
          go_simp
        simp only [List.setIfInBounds_toArray, List.set_cons_succ, List.set_cons_zero]
        refine wpAnyH_take3 (i := 3) (d := 102) (v := .string S) rfl rfl (by kernel_rfl) (by kernel_rfl) (by kernel_rfl) (fun _ _ _ h => h) (Or.inl ⟨by rfl, ?_⟩) hHeld ?_
        · intro w9 hS9
          go_simp
        simp only [List.setIfInBounds_toArray, List.set_cons_succ, List.set_cons_zero]
        refine wpAnyH_take3 (i := 4) (d := 103) (v := num kk) rfl rfl (by kernel_rfl) (by kernel_rfl) (by kernel_rfl) (fun _ _ _ h => h) (Or.inl ⟨by rfl, ?_⟩) hHeld ?_
        · intro w9 hS9
          go_simp
        simp only [List.setIfInBounds_toArray, List.set_cons_succ, List.set_cons_zero]
        refine wpAnyH_take3 (i := 5) (d := 104) (v := .int .u8 (bk : Int)) rfl rfl (by kernel_rfl) (by kernel_rfl) (by kernel_rfl) (fun _ _ _ h => h) (Or.inl ⟨by rfl, ?_⟩) hHeld ?_
        · intro w9 hS9
          go_simp
        simp only [List.setIfInBounds_toArray, List.set_cons_succ, List.set_cons_zero]
        refine wpAnyH_take3 (i := 6) (d := 105) (v := .int .u8 (by_ : Int)) rfl rfl (by kernel_rfl) (by kernel_rfl) (by kernel_rfl) (fun _ _ _ h => h) (Or.inl ⟨by rfl, ?_⟩) hHeld ?_
        · intro w9 hS9
          go_simp
        simp only [List.setIfInBounds_toArray, List.set_cons_succ, List.set_cons_zero]
        refine wpAnyH_take3 (i := 7) (d := 106) (v := .int .u8 (cb : Int)) rfl rfl (by kernel_rfl) (by kernel_rfl) (by kernel_rfl) (fun _ _ _ h => h) (Or.inl ⟨by rfl, ?_⟩) hHeld ?_
        · intro w9 hS9
          go_simp
        simp only [List.setIfInBounds_toArray, List.set_cons_succ, List.set_cons_zero]
        refine wpAnyH_take3 (i := 11) (d := 110) (v := .string S) rfl rfl (by kernel_rfl) (by kernel_rfl) (by kernel_rfl) (fun _ _ _ h => h) (Or.inl ⟨by rfl, ?_⟩) hHeld ?_
        · intro w9 hS9
          go_simp
        simp only [List.setIfInBounds_toArray, List.set_cons_succ, List.set_cons_zero]
        refine wpAnyH_take3 (i := 12) (d := 111) (v := num kk) rfl rfl (by kernel_rfl) (by kernel_rfl) (by kernel_rfl) (fun _ _ _ h => h) (Or.inl ⟨by rfl, ?_⟩) hHeld ?_
        · intro w9 hS9
          go_simp
        simp only [List.setIfInBounds_toArray, List.set_cons_succ, List.set_cons_zero]
        refine wpAnyH_take3 (i := 13) (d := 112) (v := num ((kk : Int) + 1)) rfl rfl (by kernel_rfl) (by kernel_rfl) (by kernel_rfl) (fun _ _ _ h => h) (Or.inl ⟨by rfl, ?_⟩) hHeld ?_
        · intro w9 hS9
          go_simp
        simp only [List.setIfInBounds_toArray, List.set_cons_succ, List.set_cons_zero]
        refine wpAnyH_take3 (i := 14) (d := 113) (v := .string (S.extract (kk + 1) S.size)) rfl rfl (by kernel_rfl) (by kernel_rfl) (by kernel_rfl) (fun _ _ _ h => h) (Or.inl ⟨by rfl, ?_⟩) hHeld ?_
        · intro w9 hS9
          go_simp
        simp only [List.setIfInBounds_toArray, List.set_cons_succ, List.set_cons_zero]
        refine wpAnyH_ready (rs := [8]) (by kernel_rfl) (by simp) ?_
        refine AllReadyH.cons rfl (fun K9 hK9 => ?_) AllReadyH.nil
        go_simp
        refine hK9.out _ _ ?_ (fun hHeld => ?_)
        · exact X.out.alloc _
        clear hK9 K9
        try simp only [List.setIfInBounds_toArray, List.set_cons_succ, List.set_cons_zero]
        have X := Lib.hid (X.out.alloc (.cells #[.int .u8 (cb : Int)] 5))
        have hcv : (convert 34 9 (.slice (some ⟨wd.heap.size, 0, none⟩) 1 1)).run Tryz.prog (wd.alloc (.cells #[.int .u8 (cb : Int)] 5)) = .ok (.string (textOf [cb])) (wd.alloc (.cells #[.int .u8 (cb : Int)] 5)) := run_text (wd.alloc (.cells #[.int .u8 (cb : Int)] 5)) wd.heap.size 1 [cb] (fun y hy => by rcases List.mem_singleton.1 hy with rfl; exact hcL) (fun j v hv => by rw [cell_blk (alloc_new wd _)]; simpa [cellsS] using hv)
        have hAs : ((S.extract 0 kk).size : Int) ≤ 64 := by rw [ByteArray.size_extract]; omega
        have hBs : ((textOf [cb]).size : Int) = 1 := by rw [textOf_size]; rfl
        have hCs : ((S.extract (kk + 1) S.size).size : Int) ≤ 64 := by rw [ByteArray.size_extract]; omega
        refine wpAnyH_ready (rs := [9]) (by kernel_rfl) (by simp) ?_
        refine AllReadyH.cons rfl (fun K9 hK9 => ?_) AllReadyH.nil
        go_simp
        refine hK9.out _ _ ?_ (fun hHeld => ?_)
        · exact X.out
        clear hK9 K9
        try simp only [List.setIfInBounds_toArray, List.set_cons_succ, List.set_cons_zero]
        refine wpAnyH_take3 (i := 10) (d := 109) (v := .string (S.extract 0 kk ++ textOf [cb])) rfl rfl (by kernel_rfl) (by kernel_rfl) (by kernel_rfl) (fun _ _ _ h => h) (Or.inl ⟨by rfl, ?_⟩) hHeld ?_
        · intro w9 hS9
          go_simp
          omega
        simp only [List.setIfInBounds_toArray, List.set_cons_succ, List.set_cons_zero]
        refine wpAnyH_take3 (i := 15) (d := 114) (v := .string (S.extract 0 kk ++ textOf [cb] ++ S.extract (kk + 1) S.size)) rfl rfl (by kernel_rfl) (by kernel_rfl) (by kernel_rfl) (fun _ _ _ h => h) (Or.inl ⟨by rfl, ?_⟩) hHeld ?_
        · intro w9 hS9
          go_simp
          omega
        simp only [List.setIfInBounds_toArray, List.set_cons_succ, List.set_cons_zero]
        refine wpAnyH_ready (rs := [16]) (by kernel_rfl) (by simp) ?_
        refine AllReadyH.cons rfl (fun K9 hK9 => ?_) AllReadyH.nil
        go_simp
        refine (HO3 _).out.mono ?_
        rintro e6 w6 ⟨rfl, he6⟩
        have X := Lib.hid (X.out.trans he6)
        clear he6
        go_wp2_with fail
        refine hK9.out _ _ ?_ (fun hHeld => ?_)
        · exact X.out
        clear hK9 K9
        try simp only [List.setIfInBounds_toArray, List.set_cons_succ, List.set_cons_zero]
        refine wpAnyH_take3 (i := 17) (d := 98) (v := .tuple #[.string U3, .bool lb]) rfl rfl (by kernel_rfl) (by kernel_rfl) (by kernel_rfl) (fun _ _ _ h => h) (Or.inl ⟨by rfl, ?_⟩) hHeld ?_
        · intro w9 hS9
          go_simp
        simp only [List.setIfInBounds_toArray, List.set_cons_succ, List.set_cons_zero]
        refine wpAnyH_take3 (i := 18) (d := 116) (v := .string U3) rfl rfl (by kernel_rfl) (by kernel_rfl) (by kernel_rfl) (fun _ _ _ h => h) (Or.inl ⟨by rfl, ?_⟩) hHeld ?_
        · intro w9 hS9
          go_simp
        simp only [List.setIfInBounds_toArray, List.set_cons_succ, List.set_cons_zero]
        refine wpAnyH_take3 (i := 19) (d := 117) (v := .bool lb) rfl rfl (by kernel_rfl) (by kernel_rfl) (by kernel_rfl) (fun _ _ _ h => h) (Or.inl ⟨by rfl, ?_⟩) hHeld ?_
        · intro w9 hS9
          go_simp
        simp only [List.setIfInBounds_toArray, List.set_cons_succ, List.set_cons_zero]
        refine wpAnyH_take3 (i := 20) (d := 19) (v := .string U3) rfl rfl (by kernel_rfl) (by kernel_rfl) (by kernel_rfl) (fun _ _ _ h => h) (Or.inl ⟨by rfl, ?_⟩) hHeld ?_
        · intro w9 hS9
          go_simp
        simp only [List.setIfInBounds_toArray, List.set_cons_succ, List.set_cons_zero]
        refine wpAnyH_take3 (i := 21) (d := 20) (v := .bool lb) rfl rfl (by kernel_rfl) (by kernel_rfl) (by kernel_rfl) (fun _ _ _ h => h) (Or.inl ⟨by rfl, ?_⟩) hHeld ?_
        · intro w9 hS9
          go_simp
        simp only [List.setIfInBounds_toArray, List.set_cons_succ, List.set_cons_zero]
        refine wpAnyH_done (by kernel_rfl) ?_ _
        refine NoPanic.normal ?_
        clear hcv hHeld HO3 hAs hBs hCs hxo
        have RX := Lib.hid (And.intro (R.out.2.1.ext (R5.out.2.trans X.out)) (And.intro (R5.out.1.ext X.out) ((R.out.2.2.1.trans R5.out.2).trans X.out)))
        have hkn0 : (0 : Int) ≤ k := by omega
        clear R R5 X
        rcases HLB.out with ⟨rfl, hz⟩ | ⟨rfl, hz⟩
        all_goals
          clear HLB
          go_wp2_with fail
          clear hkw hkb1 hkb2 hz hSi hTi hkk hkm hkki hkS hbk hbL hcL hHeld HZ2 HSL HT
          go_loopw [21] (fun i w9 => ∃ j : Nat, j ≤ k ∧ i = num j ∧ Ext w6 w9) (fun i _ => k - (intOf i).toNat)
          case atStart => exact ⟨0, Nat.zero_le _, rfl, Ext.refl w6⟩
          case round =>
            obtain ⟨j, hj, rfl, he9⟩ := hrel
            by_cases hjk : j < k
            · obtain ⟨_, _, e1, _, hc1⟩ := (RX.out.1.ext he9).rd 0
              injection e1 with e1 e1b e1c
              clear e1b
              subst e1 e1c
              obtain ⟨_, _, e2, _, hc2⟩ := (RX.out.2.1.ext he9).rd 0
              injection e2 with e2 e2b e2c
              clear e2b
              subst e2 e2c
              obtain ⟨x1, hA1, d1⟩ := hc1 j (by rw [firstL_len]; exact hjk)
              obtain ⟨x2, hA2, d2⟩ := hc2 j (by rw [firstL_len]; exact hjk)
              subst hA1 hA2
              generalize (firstL xs k).getD j 0 = y at d1 d2
              have hji : (j : Int) < k := by omega
              have hj0 : (0 : Int) ≤ j := by omega
              have HE9 := Lib.hid he9
              clear hc1 hc2 he9
              go_wp2_with fail
              go_quiet (fail)
              go_wp2_with fail
              go_roundw
              case rel => exact ⟨j + 1, by omega, by go_num, HE9.out.drewN _⟩
              case measure => simp [intOf]; omega
            · obtain rfl : j = k := by omega
              have HE9 := Lib.hid (RX.out.2.2.trans he9)
              clear he9
              go_wp2_with fail
              go_ret
              exact ⟨rfl, HE9.out⟩

end Go.Proofs.YtdilchcnfnfdiaaGreatDoor
