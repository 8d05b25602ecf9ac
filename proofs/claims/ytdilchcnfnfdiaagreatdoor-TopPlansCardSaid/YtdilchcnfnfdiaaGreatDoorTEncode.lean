/- pack: Encode. -/
import Derived.Test.YtdilchcnfnfdiaaGreatDoorTPlaces
import Derived.Test.YtdilchcnfnfdiaaGreatDoorTDrawnIn
namespace Go.Proofs.YtdilchcnfnfdiaaGreatDoor
open Go.RowKit Go.Shelf

attribute [local go_sem] Oper.semAt_some

abbrev u64v (n : Nat) : Value := .int .u64 (n : Int)
abbrev RdU (w : World) (v : Value) (xs : List Nat) : Prop := Rd u64v 0 w v xs
/-- The byte of a place. -/
def byteP (xs : List Nat) (p : Nat × Nat) : Nat := xs.getD p.1 0 / 2 ^ p.2 % 256
def encL (xs ws : List Nat) : List Nat := (placesTo ws ws.length).map (byteP xs)
theorem encL_lt (xs ws : List Nat) : ∀ b ∈ encL xs ws, b < 256 := by
  intro b hb
  obtain ⟨p, _, rfl⟩ := List.mem_map.1 hb
  exact Nat.mod_lt _ (by decide)
theorem placesTo_len (ws : List Nat) : ∀ t, t ≤ ws.length → (placesTo ws t).length = sumN ws t
  | 0, _ => rfl
  | t + 1, h => by
    rw [placesTo_succ, List.length_append, placesTo_len ws t (by omega), sumN_succ (by omega)]
    simp [placesAt]
theorem byteP_val (x up : Nat) (hup : up ≤ 64) : IntKind.u8.wrap ((x : Int) / 2 ^ up) = ((x / 2 ^ up % 256 : Nat) : Int) := by
  have _ := hup
  rw [IntKind.wrap_u8, show (x : Int) / 2 ^ up = ((x / 2 ^ up : Nat) : Int) by simp]
  omega

theorem make_cap (n : Nat) (hn : n ≤ 4096) (W : World) : (Instr.makeSlice 34 (.int .i64 0) (num n)).run Tryz.prog W = .ok (.slice (some ⟨W.heap.size, 0, none⟩) 0 n) (W.alloc (.cells (cellsS (List.replicate n 0)).toArray 5)) := by
  obtain ⟨i, hi, hz0, hz1, hz2⟩ := info_parts Tryz.iByte
  have h := run_make (P := Tryz.prog) (w := W) 34 5 i _ Tryz.uBytes hi hz0 .i64 .i64 0 (n : Int) (by omega) (by omega) (by rw [hz2]; omega) (by omega)
  rw [hz1, Int.toNat_natCast, Nat.mul_one] at h
  rw [← made_bytes n]
  exact h

def FitRel (W : World) (len : Nat) (i : Value) (wr : World) : Prop := ∃ k : Nat, k ≤ len ∧ i = num k ∧ wr = W

theorem text_of_row {w : World} {B : Nat} {v : Value} {l : List Nat} (h : w.ownsRow B 5 1 v l.length (l.map u8v)) (hl : ∀ b ∈ l, b < 256) : (convert 34 9 v).run Tryz.prog w = .ok (.string (textOf l)) w := by
  rcases h.2 with ⟨rfl, h0⟩ | ⟨g, cap, cur, rfl, _⟩
  · obtain rfl : l = [] := List.eq_nil_of_length_eq_zero h0
    kernel_rfl
  · exact run_text w g cap l hl (fun j u hu => (show OwnM 5 u8v w B (.slice (some ⟨g, 0, none⟩) l.length cap) l from h).cell j u hu)

set_option maxRecDepth 100000 in
set_option maxHeartbeats 4000000 in
theorem encode_walk (w : World) (Ax Aw : Option Addr) (cx cw : Nat) (xs ws : List Nat) (hx : ∀ i, i < ws.length → ∃ x, Ax = some x ∧ w.cell? (x.add i) = some (u64v (xs.getD i 0))) (hw : RdN w (.slice Aw ws.length cw) ws) (hb : ∀ x ∈ ws, 1 ≤ x ∧ x ≤ 8) (hl : ws.length ≤ 64)
    (hfit : ∀ i, i < ws.length → xs.getD i 0 < 2 ^ (8 * ws.getD i 0)) :
    Calls Tryz.prog 7 #[.slice Ax ws.length cx, .slice Aw ws.length cw] w fun e w' => e = .returned (.tuple #[.string (textOf (encL xs ws)), num 0]) ∧ Ext w w' := by
  refine (callsIn_wide (n := 3)).1 ?_
  have e1 := (Ext.refl w).alloc (.cells #[.slice Ax ws.length cx] 22)
  have HS := Lib.hid (size_walk (w.alloc (.cells #[.slice Ax ws.length cx] 22)) (.slice Aw ws.length cw) ws (hw.ext e1) hb hl)
  have hle := sumN_le (fun y hy => (hb y hy).2) ws.length
  obtain ⟨z, hz⟩ : ∃ z, sumN ws ws.length = z := ⟨_, rfl⟩
  rw [hz] at HS hle
  have hwi : (ws.length : Int) ≤ 64 := by omega
  refine callsIn_of_wp_marks Tryz.func7 rfl trivial ?_ rfl
  simp only [Tryz.ntmps7, List.size_toArray, List.length_cons, List.length_nil, Nat.reduceAdd, Nat.reduceSub, Array.replicate_succ, Array.replicate_zero, List.push_toArray, List.append_toArray, List.nil_append, List.cons_append]
  gi_wp2
  refine ⟨trivial, (callsIn_wide.2 HS.out).mono ?_⟩
  rintro e w1 ⟨rfl, rfl⟩
  gi_wp2
  have hmk := make_cap z (by omega) (w.alloc (.cells #[.slice Ax ws.length cx] 22))
  obtain ⟨W2, hW2⟩ : ∃ W2, (w.alloc (.cells #[.slice Ax ws.length cx] 22)).alloc (.cells (cellsS (List.replicate z 0)).toArray 5) = W2 := ⟨_, rfl⟩
  rw [hW2] at hmk
  obtain ⟨W1, hW1⟩ : ∃ W1, w.alloc (.cells #[.slice Ax ws.length cx] 22) = W1 := ⟨_, rfl⟩
  have b1 : W1.heap[w.heap.size]? = some (.cells #[.slice Ax ws.length cx] 22) := by rw [← hW1]; exact alloc_new w _
  rw [hW1] at e1 hmk hW2 ⊢
  have c1 : W1.cell? ⟨w.heap.size, 0, none⟩ = some (.slice Ax ws.length cx) := by rw [cell_blk b1]; rfl
  have HX := Lib.hid hx
  have HW := Lib.hid hw
  have HF := Lib.hid hfit
  have HB := Lib.hid hb
  have HE := Lib.hid e1
  have HM := Lib.hid (And.intro hW2 hz)
  have HBX := Lib.hid b1
  have hzi : (z : Int) ≤ 512 := by omega
  clear hx hw hfit hb e1 HS hW1 b1 hW2 hz hle
  gi_loopw [30] (fun i wr => FitRel W1 ws.length i wr) (fun i _ => ws.length - (intOf i).toNat)
  case atStart => exact ⟨0, Nat.zero_le _, rfl, rfl⟩
  case round =>
    obtain ⟨k, hk, rfl, rfl⟩ := hrel
    by_cases hlt : k < ws.length
    · obtain ⟨x, rfl, hcx⟩ := HX.out k hlt
      obtain ⟨A', cap', hv', _, hcw⟩ := HW.out
      injection hv' with q1 _ q2
      subst q1 q2
      obtain ⟨y, hAy, hcy⟩ := hcw k hlt
      subst hAy
      have h1 := HE.out.cell hcx
      have h2 := HE.out.cell hcy
      have hwb := HB.out (ws.getD k 0) (by rw [List.getD_eq_getElem?_getD, List.getElem?_eq_getElem hlt]; exact List.getElem_mem hlt)
      have hf := HF.out k hlt
      have HFT := Lib.hid (fits_walk (xs.getD k 0) (ws.getD k 0) wr hf hwb.1 hwb.2)
      clear hcx hcy hcw hwb hf
      generalize xs.getD k 0 = a at h1 HFT
      generalize ws.getD k 0 = b at h2 HFT
      gi_wp2
      refine ⟨trivial, (callsIn_wide.2 HFT.out).mono ?_⟩
      rintro e w1 ⟨rfl, rfl⟩
      clear HFT
      gi_wp2
      go_roundw
      case rel => exact ⟨k + 1, by omega, by go_num, rfl⟩
      case measure => simp [intOf]; omega
    · obtain rfl : k = ws.length := by omega
      gi_wp2
      refine ⟨trivial, (callsIn_wide.2 (places_walk Aw ws.length cw _)).mono ?_⟩
      rintro e w' ⟨rfl, rfl⟩
      gi_wp2
      have hHE := HE.out
      obtain ⟨hM1, hM2⟩ := HM.out
      have s2 : W2.heap.size = wr.heap.size + 1 := by rw [← hM1, size_alloc]
      have hB2 : Ext w W2 := by rw [← hM1]; exact hHE.alloc _
      have row2 : W2.heap[wr.heap.size]? = some (.cells (cellsS (List.replicate z 0)).toArray 5) := by rw [← hM1]; exact alloc_new wr _
      have hown2 : W2.ownsRow w.heap.size 5 1 (.slice (some ⟨wr.heap.size, 0, none⟩) 0 z) 0 [] := ⟨by simp, .inr ⟨wr.heap.size, z, _, rfl, hHE.size, row2, Nat.zero_le _, by unfold maxLen; omega, by simp [cellsS], by simp⟩⟩
      have bX : Boxed W2 w.heap.size 22 (.slice Ax ws.length cx) := by
        show W2.heap[w.heap.size]? = _
        rw [← hM1]
        exact alloc_old _ HBX.out
      have bB := Boxed.new W2 34 (.slice (some ⟨wr.heap.size, 0, none⟩) 0 z)
      have hB0 : Below w.heap.size w ((W2.alloc (.cells #[.slice (some ⟨wr.heap.size, 0, none⟩) 0 z] 34)).alloc (.cells #[.slice Aw ws.length cw] 23)) := (hB2.alloc _).alloc _
      have hpl : (placesTo ws ws.length).length = z := by rw [placesTo_len ws _ (Nat.le_refl _), hM2]
      obtain ⟨i0, hi, hz0, hz1, hz2⟩ := info_parts Tryz.iByte
      have hW8 : ∀ x ∈ ws, x ≤ 8 := fun x hx => (HB.out x hx).2
      have hcells : ∀ i, i < ws.length → ∃ x, Aw = some x ∧ ((W2.alloc (.cells #[.slice (some ⟨wr.heap.size, 0, none⟩) 0 z] 34)).alloc (.cells #[.slice Aw ws.length cw] 23)).cell? (x.add i) = some (natv (ws.getD i 0)) ∧ (x.add i).block < w.heap.size := fun i hi => by
        obtain ⟨A', cap', hv', _, hcw⟩ := HW.out
        injection hv' with q1 _ q2
        subst q1 q2
        obtain ⟨y, hAy, hcy⟩ := hcw i hi
        exact ⟨y, hAy, Ext.cell hB0 hcy, World.block_lt_of_cell? w _ hcy⟩
      have bN := Boxed.new (W2.alloc (.cells #[.slice (some ⟨wr.heap.size, 0, none⟩) 0 z] 34)) 23 (.slice Aw ws.length cw)
      rw [World.size_alloc] at bN
      have hws : w.heap.size < W2.heap.size := by have := hHE.size; omega
      have HS2 := Lib.hid s2
      have HPL := Lib.hid hpl
      clear s2 hM1 hM2 hpl row2 hHE hmk
      refine wpIn_rangeFunc_ownG rfl (by decide) (gf := 67) (lb := #[.pointer (some ⟨W2.heap.size + 1, 0, none⟩)]) rfl trivial (enters_of Tryz.func67 (by kernel_rfl) rfl)
        (places_stops 2 (by decide) (W2.heap.size + 1) w.heap.size ws Aw cw hW8 hl _ (by simp; omega) bN.cell hcells) belowK_t (belowK_b (by simp; omega)) (Below.refl _ _) (fun _ => rfl)
        (fun pre W => (∃ v, Boxed W W2.heap.size 34 v ∧ W.ownsRow w.heap.size 5 1 v pre.length (pre.map fun j => u8v (byteP xs (plc ws j))) ∧ True) ∧ Boxed W w.heap.size 22 (.slice Ax ws.length cx) ∧ Below w.heap.size w W)
        (fun _ _ _ => False)
        (OwnFrom.and (Go.Own.from (holdsRow_own w.heap.size W2.heap.size 34 5 1 (fun (pre : List Nat) => pre.length) (fun pre => pre.map fun j => u8v (byteP xs (plc ws j))) (fun _ _ => True)) _) (OwnFrom.and (Go.Own.from (boxed_own w.heap.size 22 (fun (_ : List Nat) => .slice Ax ws.length cx)) _) (ownFrom_below (Nat.le_refl _) (by simp; omega))))
        (fun _ _ _ _ _ hs _ _ => hs)
        ⟨⟨_, bB.alloc _, (hown2.alloc _).alloc _, trivial⟩, (bX.alloc _).alloc _, hB0⟩
        (fun j => { tmps := #[.slice Ax ws.length cx, .slice Aw ws.length cw, ptr w.heap.size, undef, u4, u5, natv z, num 0, u8, u9, ptr W2.heap.size, natv (plc ws j).1, natv (plc ws j).2, .tuple #[natv z, num 0], .slice Aw ws.length cw, .tuple #[natv z, num 0], natv z, num 0, .bool false, num 0, .bool false, undef, .bool false, .slice Ax ws.length cx, .int .i64 ws.length, .slice Aw ws.length cw, .int .i64 ws.length, .bool false, .slice Aw ws.length cw, .int .i64 ws.length, num ws.length, .bool false, u32, u33, u34, u35, u36, u37, u38, u39, u40, u41, u42, natv z, .slice (some ⟨wr.heap.size, 0, none⟩) 0 z, .slice Aw ws.length cw, .func (.func 67) #[] #[ptr (W2.heap.size + 1)], natv (plc ws j).1, natv (plc ws j).2, undef, undef, undef, undef, undef, undef, undef, undef, undef, undef, undef, undef], defers := [] }) ?assign ?body ?done ?stop
      case assign =>
        intro l x W K hK
        gi_wp2
        exact hK
      case body =>
        rintro l pre x W ⟨⟨v, hv, hrow, -⟩, hbx, hBl⟩ hlt
        obtain ⟨hp1, hp2⟩ := plc_in hW8 (by omega) x
        have hpre : pre.length ≤ 512 := by have := HPL.out; omega
        have hq : byteP xs (plc ws x) = xs.getD (plc ws x).1 0 / 2 ^ (plc ws x).2 % 256 := rfl
        obtain ⟨q, hqe⟩ : ∃ q, byteP xs (plc ws x) = q := ⟨_, rfl⟩
        have HQ := Lib.hid hqe
        have hrow' : ∀ v', W.ownsRow w.heap.size 5 1 v' pre.length ((pre.map fun j => u8v (byteP xs (plc ws j))) ++ [u8v q]) = W.ownsRow w.heap.size 5 1 v' pre.length ((pre ++ [x]).map fun j => u8v (byteP xs (plc ws j))) := fun v' => by rw [List.map_append, ← hqe]; rfl
        rw [hqe] at hq
        obtain ⟨y, rfl, hcy⟩ := HX.out (plc ws x).1 hp1
        have hcW := (hBl.cell (p := y.add (plc ws x).1) (World.block_lt_of_cell? w _ hcy)).trans hcy
        generalize (plc ws x).2 = p2 at hp2 hq
        generalize (plc ws x).1 = p1 at hp1 hq hcW
        obtain ⟨a, ha⟩ : ∃ a, xs.getD p1 0 = a := ⟨_, rfl⟩
        rw [ha] at hcW hq
        have hval : IntKind.u8.wrap ((a : Int) / 2 ^ p2) = (q : Int) := by
          rw [IntKind.wrap_u8, show (a : Int) / 2 ^ p2 = ((a / 2 ^ p2 : Nat) : Int) by simp]
          omega
        have hcb := hv.cell
        have hfb := hv.frozen
        have hcx := hbx.cell
        have hp1i : (p1 : Int) < (ws.length : Int) := by omega
        have hp2i : (p2 : Int) ≤ 56 := by omega
        clear ha hq hcy HX HBX hrow' hqe c1 hcells bN bB hown2 bX hB0 hB2
        obtain ⟨v', w1, hrun, hown', hgrow, _⟩ := run_append_own (P := Tryz.prog) (w := (W.alloc (.cells #[u8v q] 5)).drew) w.heap.size 34 34 5 i0 (.int .u8 0) 1 1 Tryz.uBytes hi hz0 hz1 hz2 rfl (by decide) v pre.length _ (hrow.alloc _) ⟨W.heap.size, 0, none⟩ 1 1 [u8v q] rfl (cell_one_new W (u8v q) 5) (by simp [Value.oneCell']) (by unfold maxLen; omega) (by omega) (by have := hBl.size; simp; omega)
        obtain ⟨g', cap', rfl⟩ := ownsRow_succ hown'
        obtain ⟨hv1, hv2, hr2, hk2, hb2⟩ := Boxed.appended (W := W.drew) (tmp := .cells #[u8v q] 5) (show Boxed W.drew W2.heap.size 34 v from hv) (by decide) (show W.drew.ownsRow w.heap.size 5 1 v pre.length (pre.map fun j => u8v (byteP xs (plc ws j))) from hrow) hBl.size (Nat.le_of_lt hws) hown' (show (W.drew.alloc (.cells #[u8v q] 5)).grownBy w1 v.ownBlock from hgrow)
        have hbx2 : Boxed (w1.setCell ⟨W2.heap.size, 0, none⟩ (.slice (some ⟨g', 0, none⟩) (pre.length + 1) cap')) w.heap.size 22 (.slice (some y) ws.length cx) :=
          Boxed.other (((show Boxed W.drew w.heap.size 22 (.slice (some y) ws.length cx) from hbx).alloc (.cells #[u8v q] 5)).kept (show (W.drew.alloc (.cells #[u8v q] 5)).grownBy w1 v.ownBlock from hgrow) (hbx.not_row (by decide) hrow)) (Nat.ne_of_lt hws) _
        have hr3 : (w1.setCell ⟨W2.heap.size, 0, none⟩ (.slice (some ⟨g', 0, none⟩) (pre.length + 1) cap')).ownsRow w.heap.size 5 1 (.slice (some ⟨g', 0, none⟩) (pre.length + 1) cap') (pre ++ [x]).length ((pre ++ [x]).map fun j => u8v (byteP xs (plc ws j))) := by
          rw [List.map_append, List.length_append]
          show World.ownsRow _ _ _ _ _ _ (_ ++ [u8v (byteP xs (plc ws x))])
          rw [HQ.out]
          exact hr2
        have hk3 := (KeepsOthers.drew W).trans hk2
        have hb3 := ((Below.refl w.heap.size W).drew).trans hb2
        have HFIN := Lib.hid (And.intro hk3 (And.intro hb3 (And.intro (And.intro hv2 hr3) (And.intro hbx2 (hBl.trans hb3)))))
        have hcb2 : (W.alloc (.cells #[.int .u8 (q : Int)] 5)).drew.cell? ⟨W2.heap.size, 0, none⟩ = some v := (hv.alloc (.cells #[u8v q] 5)).cell
        have hcb3 : (W.alloc (.cells #[.int .u8 (q : Int)] 5)).cell? ⟨W2.heap.size, 0, none⟩ = some v := hcb2
        have hc1 := hv1.cell
        have hf1 := hv1.frozen
        have hmo : Tryz.prog.follows .mixedOrders = true := by kernel_rfl
        gi_wp2
        refine wpIn_region_any hmo (wpAnyIn_of_wpAny (by simp) _ _ _ _ ?_)
        change wpAny _ _ _ _ _ _ _ (World.drew _)
        refine wpAny_take (i := 2) (v := natv p1) rfl (by kernel_rfl) (by kernel_rfl) (by kernel_rfl) (fun _ _ _ h => by cases h.1) (Or.inl ⟨by rfl, ?_⟩) ?_
        · intro w9
          go_simp
        refine wpAny_take (i := 5) (v := natv p2) rfl (by kernel_rfl) (by kernel_rfl) (by kernel_rfl) (fun _ _ _ h => by cases h.1) (Or.inl ⟨by rfl, ?_⟩) ?_
        · intro w9
          go_simp
        refine wpAny_ready (rs := [0, 1]) (by kernel_rfl) (by simp) ?_
        refine AllReady.cons rfl (fun K9 hK9 => ?_) ?_
        · go_simp
          refine hK9 _ _ ?_
          clear hK9 K9
          refine wpAny_ready (rs := [1]) (by kernel_rfl) (by simp) ?_
          refine AllReady.cons rfl (fun K9 hK9 => ?_) ?_
          · go_simp
            refine hK9 _ _ ?_
            clear hK9 K9
            refine wpAny_take (i := 3) (v := .pointer (some (y.add p1))) rfl (by kernel_rfl) (by kernel_rfl) (by kernel_rfl) (fun _ _ _ h => by cases h.1) (Or.inl ⟨by rfl, ?_⟩) ?_
            · intro w9
              go_simp
            refine wpAny_ready (rs := [4]) (by kernel_rfl) (by simp) ?_
            refine AllReady.cons rfl (fun K9 hK9 => ?_) ?_
            · go_simp
              refine hK9 _ _ ?_
              clear hK9 K9
              refine wpAny_take (i := 6) (v := .int .u64 ((a : Int) / 2 ^ p2)) rfl (by kernel_rfl) (by kernel_rfl) (by kernel_rfl) (fun _ _ _ h => by cases h.1) (Or.inl ⟨by rfl, ?_⟩) ?_
              · intro w9
                go_simp
              refine wpAny_take (i := 7) (v := .int .u8 q) rfl (by kernel_rfl) (by kernel_rfl) (by kernel_rfl) (fun _ _ _ h => by cases h.1) (Or.inl ⟨by rfl, ?_⟩) ?_
              · intro w9
                go_simp
              refine wpAny_ready (rs := [8]) (by kernel_rfl) (by simp) ?_
              refine AllReady.cons rfl (fun K9 hK9 => ?_) ?_
              · go_simp
                refine hK9 _ _ ?_
                clear hK9 K9
                refine wpAny_ready (rs := [9]) (by kernel_rfl) (by simp) ?_
                refine AllReady.cons rfl (fun K9 hK9 => ?_) ?_
                · refine wp_of_run (by rfl) (run_append_op rfl rfl hrun) ?_
                  refine hK9 _ _ ?_
                  clear hK9 K9
                  refine wpAny_ready (rs := [10]) (by kernel_rfl) (by simp) ?_
                  refine AllReady.cons rfl (fun K9 hK9 => ?_) ?_
                  · go_simp
                    refine hK9 _ _ ?_
                    clear hK9 K9
                    refine wpAny_done (by kernel_rfl) ?_ _
                    refine ⟨rfl, ?_⟩
                    gi_wp2
                    exact ⟨HFIN.out.1.from _, HFIN.out.2.1, ⟨_, HFIN.out.2.2.1.1, HFIN.out.2.2.1.2, trivial⟩, HFIN.out.2.2.2.1, HFIN.out.2.2.2.2⟩
                  exact AllReady.nil
                exact AllReady.nil
              exact AllReady.nil
            exact AllReady.nil
          exact AllReady.nil
        refine AllReady.cons rfl (fun K9 hK9 => ?_) ?_
        · go_simp
          refine hK9 _ _ ?_
          clear hK9 K9
          refine wpAny_take (i := 3) (v := .pointer (some (y.add p1))) rfl (by kernel_rfl) (by kernel_rfl) (by kernel_rfl) (fun _ _ _ h => by cases h.1) (Or.inl ⟨by rfl, ?_⟩) ?_
          · intro w9
            go_simp
          refine wpAny_ready (rs := [0, 4]) (by kernel_rfl) (by simp) ?_
          refine AllReady.cons rfl (fun K9 hK9 => ?_) ?_
          · go_simp
            refine hK9 _ _ ?_
            clear hK9 K9
            refine wpAny_ready (rs := [4]) (by kernel_rfl) (by simp) ?_
            refine AllReady.cons rfl (fun K9 hK9 => ?_) ?_
            · go_simp
              refine hK9 _ _ ?_
              clear hK9 K9
              refine wpAny_take (i := 6) (v := .int .u64 ((a : Int) / 2 ^ p2)) rfl (by kernel_rfl) (by kernel_rfl) (by kernel_rfl) (fun _ _ _ h => by cases h.1) (Or.inl ⟨by rfl, ?_⟩) ?_
              · intro w9
                go_simp
              refine wpAny_take (i := 7) (v := .int .u8 q) rfl (by kernel_rfl) (by kernel_rfl) (by kernel_rfl) (fun _ _ _ h => by cases h.1) (Or.inl ⟨by rfl, ?_⟩) ?_
              · intro w9
                go_simp
              refine wpAny_ready (rs := [8]) (by kernel_rfl) (by simp) ?_
              refine AllReady.cons rfl (fun K9 hK9 => ?_) ?_
              · go_simp
                refine hK9 _ _ ?_
                clear hK9 K9
                refine wpAny_ready (rs := [9]) (by kernel_rfl) (by simp) ?_
                refine AllReady.cons rfl (fun K9 hK9 => ?_) ?_
                · refine wp_of_run (by rfl) (run_append_op rfl rfl hrun) ?_
                  refine hK9 _ _ ?_
                  clear hK9 K9
                  refine wpAny_ready (rs := [10]) (by kernel_rfl) (by simp) ?_
                  refine AllReady.cons rfl (fun K9 hK9 => ?_) ?_
                  · go_simp
                    refine hK9 _ _ ?_
                    clear hK9 K9
                    refine wpAny_done (by kernel_rfl) ?_ _
                    refine ⟨rfl, ?_⟩
                    gi_wp2
                    exact ⟨HFIN.out.1.from _, HFIN.out.2.1, ⟨_, HFIN.out.2.2.1.1, HFIN.out.2.2.1.2, trivial⟩, HFIN.out.2.2.2.1, HFIN.out.2.2.2.2⟩
                  exact AllReady.nil
                exact AllReady.nil
              exact AllReady.nil
            exact AllReady.nil
          refine AllReady.cons rfl (fun K9 hK9 => ?_) ?_
          · go_simp
            refine hK9 _ _ ?_
            clear hK9 K9
            refine wpAny_take (i := 6) (v := .int .u64 ((a : Int) / 2 ^ p2)) rfl (by kernel_rfl) (by kernel_rfl) (by kernel_rfl) (fun _ _ _ h => by cases h.1) (Or.inl ⟨by rfl, ?_⟩) ?_
            · intro w9
              go_simp
            refine wpAny_take (i := 7) (v := .int .u8 q) rfl (by kernel_rfl) (by kernel_rfl) (by kernel_rfl) (fun _ _ _ h => by cases h.1) (Or.inl ⟨by rfl, ?_⟩) ?_
            · intro w9
              go_simp
            refine wpAny_ready (rs := [0, 8]) (by kernel_rfl) (by simp) ?_
            refine AllReady.cons rfl (fun K9 hK9 => ?_) ?_
            · go_simp
              refine hK9 _ _ ?_
              clear hK9 K9
              refine wpAny_ready (rs := [8]) (by kernel_rfl) (by simp) ?_
              refine AllReady.cons rfl (fun K9 hK9 => ?_) ?_
              · go_simp
                refine hK9 _ _ ?_
                clear hK9 K9
                refine wpAny_ready (rs := [9]) (by kernel_rfl) (by simp) ?_
                refine AllReady.cons rfl (fun K9 hK9 => ?_) ?_
                · refine wp_of_run (by rfl) (run_append_op rfl rfl hrun) ?_
                  refine hK9 _ _ ?_
                  clear hK9 K9
                  refine wpAny_ready (rs := [10]) (by kernel_rfl) (by simp) ?_
                  refine AllReady.cons rfl (fun K9 hK9 => ?_) ?_
                  · go_simp
                    refine hK9 _ _ ?_
                    clear hK9 K9
                    refine wpAny_done (by kernel_rfl) ?_ _
                    refine ⟨rfl, ?_⟩
                    gi_wp2
                    exact ⟨HFIN.out.1.from _, HFIN.out.2.1, ⟨_, HFIN.out.2.2.1.1, HFIN.out.2.2.1.2, trivial⟩, HFIN.out.2.2.2.1, HFIN.out.2.2.2.2⟩
                  exact AllReady.nil
                exact AllReady.nil
              exact AllReady.nil
            refine AllReady.cons rfl (fun K9 hK9 => ?_) ?_
            · go_simp
              refine hK9 _ _ ?_
              clear hK9 K9
              refine wpAny_ready (rs := [0]) (by kernel_rfl) (by simp) ?_
              refine AllReady.cons rfl (fun K9 hK9 => ?_) ?_
              · go_simp
                refine hK9 _ _ ?_
                clear hK9 K9
                refine wpAny_ready (rs := [9]) (by kernel_rfl) (by simp) ?_
                refine AllReady.cons rfl (fun K9 hK9 => ?_) ?_
                · refine wp_of_run (by rfl) (run_append_op rfl rfl hrun) ?_
                  refine hK9 _ _ ?_
                  clear hK9 K9
                  refine wpAny_ready (rs := [10]) (by kernel_rfl) (by simp) ?_
                  refine AllReady.cons rfl (fun K9 hK9 => ?_) ?_
                  · go_simp
                    refine hK9 _ _ ?_
                    clear hK9 K9
                    refine wpAny_done (by kernel_rfl) ?_ _
                    refine ⟨rfl, ?_⟩
                    gi_wp2
                    exact ⟨HFIN.out.1.from _, HFIN.out.2.1, ⟨_, HFIN.out.2.2.1.1, HFIN.out.2.2.1.2, trivial⟩, HFIN.out.2.2.2.1, HFIN.out.2.2.2.2⟩
                  exact AllReady.nil
                exact AllReady.nil
              exact AllReady.nil
            exact AllReady.nil
          exact AllReady.nil
        exact AllReady.nil
      case done =>
        rintro D ys W hD rfl ⟨⟨v, hv, hrow, -⟩, hbx, hBl⟩ hK
        have hc := hv.cell
        have he : (List.range (placesTo ws ws.length).length).map (fun j => u8v (byteP xs (plc ws j))) = (encL xs ws).map u8v := by
          unfold encL
          rw [← plc_map ws, List.map_map, List.map_map, plc_map ws]
          rfl
        have hlen : (List.range (placesTo ws ws.length).length).length = (encL xs ws).length := by simp [encL]
        rw [he, hlen] at hrow
        have hcv := text_of_row hrow (encL_lt xs ws)
        have HK := Lib.hid (And.intro hK (And.intro hD hBl))
        clear hK hrow he hlen hD hBl hv hbx hcells bN bB hown2 bX hB0 hB2
        gi_wp2
        obtain ⟨hK, hD, hBl⟩ := HK.out
        refine ⟨by simp, .inl ⟨_, _, rfl, run_takeDeferred hK, ?_⟩⟩
        exact ⟨.tuple #[.string (textOf (encL xs ws)), num 0], by simp [results, Tryz.results7, go_sem], rfl, hBl.trans (belowK_b (w := w) (Nat.le_refl _) W D _ _ (by simp at hD; omega) hK rfl rfl)⟩
      case stop =>
        rintro D c pre W _ _ h _
        exact h.elim

end Go.Proofs.YtdilchcnfnfdiaaGreatDoor
