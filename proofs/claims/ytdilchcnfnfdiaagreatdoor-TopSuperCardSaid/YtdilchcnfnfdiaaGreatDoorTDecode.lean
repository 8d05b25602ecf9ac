/- pack: Decode. -/
import Derived.Test.YtdilchcnfnfdiaaGreatDoorTDec
namespace Go.Proofs.YtdilchcnfnfdiaaGreatDoor
open Go.RowKit Go.Shelf

attribute [local go_sem] Oper.semAt_some

/-- A row of cells that is known whole, through a range over a function. -/
theorem rowed_own {β : Type} (g : Nat) (t : TypeId) (f : β → Array Value) : Go.Own (fun s W => W.heap[g]? = some (.cells (f s) t (0, 0))) := fun s X Y row hs hg hrow =>
  (hg.block g (block_lt hs) (fun e' => by obtain ⟨o, ho, hc⟩ := hrow g e'.symm; rw [show X.heap[g]? = _ from hs] at ho; cases ho; cases hc)).trans hs
theorem Tryz.uU64s' : Tryz.prog.underlying 22 = some (.slice 24) := by kernel_rfl
theorem Tryz.iU64' : (Tryz.prog.info? 24).map (fun i => (i.zero, i.size, i.bytes)) = some (some (.int .u64 0), 1, 8) := by kernel_rfl
theorem make_u64 (n : Nat) (hn : n ≤ 64) (W : World) : (Instr.makeSlice 22 (num n) (num n)).run Tryz.prog W = .ok (.slice (some ⟨W.heap.size, 0, none⟩) n n) (W.alloc (.cells ((List.replicate n 0).map u64v).toArray 24)) := by
  obtain ⟨i, hi, hz0, hz1, hz2⟩ := info_parts Tryz.iU64'
  have h := run_make (P := Tryz.prog) (w := W) 22 24 i _ Tryz.uU64s' hi hz0 .i64 .i64 (n : Int) (n : Int) (by omega) (by omega) (by rw [hz2]; omega) (by omega)
  rw [hz1, Int.toNat_natCast, Nat.mul_one] at h
  rw [show ((List.replicate n 0).map u64v).toArray = madeCells #[Value.int .u64 0] n from ?_]
  · exact h
  · apply Array.ext
    · simp [madeCells]
    · intro i h1 h2
      simp [madeCells, Nat.mod_one]

theorem secOf_extract' (s : ByteArray) (a b : Nat) : secOf (s.extract a b) = ((secOf s).take b).drop a := by
  unfold secOf
  rw [ByteArray.data_extract, Array.toList_extract, List.extract_eq_take_drop]
  rw [← List.map_take, ← List.map_drop, List.drop_take]
/-- What is left of the text behind t bytes. -/
def leftT (xs ws : List Nat) (t : Nat) : ByteArray := textOf ((encL xs ws).drop t)
def DecEnd (w : World) (xs : List Nat) (e : Ending) (w' : World) : Prop := ∃ v, e = .returned (.tuple #[v, num 0]) ∧ OwnM 24 u64v w' w.heap.size v xs ∧ Ext w w'
set_option maxRecDepth 100000 in
set_option maxHeartbeats 4000000 in
theorem decode_walk (w : World) (Aw : Option Addr) (cw : Nat) (xs ws : List Nat) (hw : RdN w (.slice Aw ws.length cw) ws) (hb : ∀ x ∈ ws, 1 ≤ x ∧ x ≤ 8) (hl : ws.length ≤ 64) (hxl : xs.length = ws.length)
    (hfit : ∀ i, i < ws.length → xs.getD i 0 < 2 ^ (8 * ws.getD i 0)) :
    Calls Tryz.prog 11 #[.string (leftT xs ws 0), .slice Aw ws.length cw] w (DecEnd w xs) := by
  refine (callsIn_wide (n := 3)).1 ?_
  have e1 := (Ext.refl w).alloc (.cells #[.string (leftT xs ws 0)] 9)
  have HS := Lib.hid (size_walk (w.alloc (.cells #[.string (leftT xs ws 0)] 9)) (.slice Aw ws.length cw) ws (hw.ext e1) hb hl)
  have hle := sumN_le (fun y hy => (hb y hy).2) ws.length
  have hTs : (leftT xs ws 0).size = sumN ws ws.length := by rw [leftT, textOf_size, List.drop_zero, encL, List.length_map, placesTo_len ws _ (Nat.le_refl _)]
  obtain ⟨T0, hT0⟩ : ∃ T0, leftT xs ws 0 = T0 := ⟨_, rfl⟩
  rw [hT0] at e1 HS hTs ⊢
  obtain ⟨z, hz⟩ : ∃ z, sumN ws ws.length = z := ⟨_, rfl⟩
  rw [hz] at HS hle hTs
  have hTsi : (T0.size : Int) = z := by omega
  have hwi : (ws.length : Int) ≤ 64 := by omega
  have hzi : (z : Int) ≤ 512 := by omega
  obtain ⟨W1, hW1⟩ : ∃ W1, w.alloc (.cells #[.string T0] 9) = W1 := ⟨_, rfl⟩
  have b1 : W1.heap[w.heap.size]? = some (.cells #[.string T0] 9) := by rw [← hW1]; exact alloc_new w _
  have s1 : W1.heap.size = w.heap.size + 1 := by rw [← hW1, size_alloc]
  rw [hW1] at e1 HS
  have c1 : W1.cell? ⟨w.heap.size, 0, none⟩ = some (.string T0) := by rw [cell_blk b1]; rfl
  have hmk := make_u64 ws.length hl W1
  obtain ⟨W2, hW2⟩ : ∃ W2, W1.alloc (.cells ((List.replicate ws.length 0).map u64v).toArray 24) = W2 := ⟨_, rfl⟩
  rw [hW2] at hmk
  have s2 : W2.heap.size = W1.heap.size + 1 := by rw [← hW2, size_alloc]
  have b2 : W2.heap[W1.heap.size]? = some (.cells ((List.replicate ws.length 0).map u64v).toArray 24) := by rw [← hW2]; exact alloc_new W1 _
  have e2 : Ext W1 W2 := by rw [← hW2]; exact (Ext.refl W1).alloc _
  have HW := Lib.hid hw
  have HF := Lib.hid hfit
  have HB := Lib.hid hb
  have HM := Lib.hid (And.intro hz (And.intro hTs (And.intro s1 (And.intro s2 (And.intro b1 (And.intro b2 (And.intro e1 (And.intro e2 (And.intro hxl hT0)))))))))
  clear hw hfit hb hz hTs s1 s2 b1 b2 e1 e2 hxl hT0 hW2
  refine callsIn_of_wp_marks Tryz.func11 rfl trivial ?_ rfl
  simp only [Tryz.ntmps11, List.size_toArray, List.length_cons, List.length_nil, Nat.reduceAdd, Nat.reduceSub, Array.replicate_succ, Array.replicate_zero, List.push_toArray, List.append_toArray, List.nil_append, List.cons_append]
  gi_wp2
  refine ⟨trivial, (callsIn_wide.2 HS.out).mono ?_⟩
  rintro e w1 ⟨rfl, rfl⟩
  clear HS
  gi_wp2
  refine ⟨trivial, (callsIn_wide.2 (places_walk Aw ws.length cw _)).mono ?_⟩
  rintro e w' ⟨rfl, rfl⟩
  gi_wp2
  obtain ⟨hz, hTs, s1, s2, b1, b2, e1, e2, hxl, hT0⟩ := HM.out
  have hpl : (placesTo ws ws.length).length = z := by rw [placesTo_len ws _ (Nat.le_refl _), hz]
  have hW8 : ∀ x ∈ ws, x ≤ 8 := fun x hx => (HB.out x hx).2
  have e12 : Ext w W2 := e1.trans e2
  have hB0 : Below w.heap.size w ((W2.alloc (.cells #[.slice (some ⟨w1.heap.size, 0, none⟩) ws.length ws.length] 22)).alloc (.cells #[.slice Aw ws.length cw] 23)) := (e12.alloc _).alloc _
  have hcells : ∀ i, i < ws.length → ∃ x, Aw = some x ∧ ((W2.alloc (.cells #[.slice (some ⟨w1.heap.size, 0, none⟩) ws.length ws.length] 22)).alloc (.cells #[.slice Aw ws.length cw] 23)).cell? (x.add i) = some (natv (ws.getD i 0)) ∧ (x.add i).block < w.heap.size := fun i hi => by
    obtain ⟨A', cap', hv', _, hcw⟩ := HW.out
    injection hv' with q1 _ q2
    subst q1 q2
    obtain ⟨y, hAy, hcy⟩ := hcw i hi
    exact ⟨y, hAy, Ext.cell hB0 hcy, World.block_lt_of_cell? w _ hcy⟩
  have bN := Boxed.new (W2.alloc (.cells #[.slice (some ⟨w1.heap.size, 0, none⟩) ws.length ws.length] 22)) 23 (.slice Aw ws.length cw)
  rw [World.size_alloc] at bN
  have bS : Boxed W2 w.heap.size 9 (.string (leftT xs ws 0)) := by rw [hT0]; exact e2.blk b1
  have bL := Boxed.new W2 22 (.slice (some ⟨w1.heap.size, 0, none⟩) ws.length ws.length)
  have bR : W2.heap[w1.heap.size]? = some (.cells ((gat (encL xs ws) ws []).map u64v).toArray 24 (0, 0)) := b2
  have hsz : w.heap.size < W2.heap.size ∧ w.heap.size < w1.heap.size ∧ w1.heap.size < W2.heap.size := by omega
  have hEl : (encL xs ws).length = z := by rw [encL, List.length_map, hpl]
  have HSZ := Lib.hid (And.intro hpl (And.intro hEl s2))
  clear s1 s2 b1 b2 e1 e2 hxl hT0 hTs hz hmk hW1 hpl hEl
  refine wpIn_rangeFunc_ownG rfl (by decide) (gf := 67) (lb := #[.pointer (some ⟨W2.heap.size + 1, 0, none⟩)]) rfl trivial (enters_of Tryz.func67 (by kernel_rfl) rfl)
    (places_stops 2 (by decide) (W2.heap.size + 1) w.heap.size ws Aw cw hW8 hl _ (by simp; omega) bN.cell hcells) belowK_t (belowK_b (by simp; omega)) (Below.refl _ _) (fun _ => rfl)
    (fun pre W => Boxed W w.heap.size 9 (.string (leftT xs ws pre.length)) ∧ Boxed W W2.heap.size 22 (.slice (some ⟨w1.heap.size, 0, none⟩) ws.length ws.length) ∧ W.heap[w1.heap.size]? = some (.cells ((gat (encL xs ws) ws pre).map u64v).toArray 24 (0, 0)) ∧ Below w.heap.size w W)
    (fun _ _ _ => False)
    (OwnFrom.and (Go.Own.from (boxed_own w.heap.size 9 (fun (pre : List Nat) => .string (leftT xs ws pre.length))) _) (OwnFrom.and (Go.Own.from (boxed_own W2.heap.size 22 (fun (_ : List Nat) => .slice (some ⟨w1.heap.size, 0, none⟩) ws.length ws.length)) _) (OwnFrom.and (Go.Own.from (rowed_own w1.heap.size 24 (fun (pre : List Nat) => ((gat (encL xs ws) ws pre).map u64v).toArray)) _) (ownFrom_below (Nat.le_refl _) (by simp; omega)))))
    (fun _ _ _ _ _ hs _ _ => hs)
    ⟨(bS.alloc _).alloc _, bL.alloc _, alloc_old _ (alloc_old _ bR), hB0⟩
    (fun j => { tmps := #[.string T0, .slice Aw ws.length cw, ptr w.heap.size, undef, .slice none 0 0, num 0, natv z, num 0, ptr W2.heap.size, natv (plc ws j).1, natv (plc ws j).2, .tuple #[natv z, num 0], .slice Aw ws.length cw, .tuple #[natv z, num 0], natv z, num 0, .bool false, num 0, .bool false, undef, .bool false, .string T0, .int .i64 z, natv z, .bool false, .slice Aw ws.length cw, .int .i64 ws.length, .slice (some ⟨w1.heap.size, 0, none⟩) ws.length ws.length, .slice Aw ws.length cw, .func (.func 67) #[] #[ptr (W2.heap.size + 1)], natv (plc ws j).1, natv (plc ws j).2, undef, undef, undef, undef, undef, undef, undef, undef, undef, undef, undef, undef, undef, undef], defers := [] }) ?assign ?body ?done ?stop
  case assign =>
    intro l x W K hK
    gi_wp2
    exact hK
  case body =>
    rintro l pre x W ⟨hbs, hbl, hrow, hBl⟩ hlt
    obtain ⟨hp1, hp2⟩ := plc_in hW8 (by omega) x
    have hpre : pre.length < z := by have := HSZ.out.1; omega
    have hgl := gat_len (encL xs ws) ws pre
    have hglt := gat_lt (encL_lt xs ws) (fun x => (plc_in hW8 (by omega) x).2) pre
    have hsn := gat_snoc (encL xs ws) ws pre x
    unfold gatS at hsn
    have HSN := Lib.hid hsn
    have hcs := hbs.cell
    have hfs := hbs.frozen
    have hcl := hbl.cell
    clear hsn hcells bN bS bL bR hB0 e12
    generalize (plc ws x).2 = p2 at hp2 HSN ⊢
    generalize (plc ws x).1 = p1 at hp1 HSN ⊢
    obtain ⟨G, hG⟩ : ∃ G, gat (encL xs ws) ws pre = G := ⟨_, rfl⟩
    rw [hG] at hrow hgl hglt HSN
    obtain ⟨lo, hlo⟩ : ∃ lo, G.getD p1 0 = lo := ⟨_, rfl⟩
    obtain ⟨q, hq⟩ : ∃ q, (encL xs ws).getD pre.length 0 = q := ⟨_, rfl⟩
    rw [hlo, hq] at HSN
    have hp1g : p1 < G.length := by omega
    have hlo2 : G[p1] = lo := by rw [← hlo]; simp [hp1g]
    have hloL : lo < 2 ^ 64 := by rw [← hlo2]; exact hglt _ (List.getElem_mem hp1g)
    have hcc : W.cell? ⟨w1.heap.size, p1, none⟩ = some (u64v lo) := by rw [cell_blk hrow]; simp [hp1g, hlo2]
    have hfc := free_blk hrow p1
    have hpl2 : pre.length < (encL xs ws).length := by have := HSZ.out.2.1; omega
    have hq2 : (encL xs ws)[pre.length] = q := by rw [← hq]; simp [hpl2]
    have hqL : q < 256 := by rw [← hq2]; exact encL_lt xs ws _ (List.getElem_mem hpl2)
    have hdr : (encL xs ws).drop pre.length = q :: (encL xs ws).drop (pre.length + 1) := by rw [List.drop_eq_getElem_cons hpl2, hq2]
    obtain ⟨S, hS⟩ : ∃ S, leftT xs ws pre.length = S := ⟨_, rfl⟩
    have hSl : S = textOf (q :: (encL xs ws).drop (pre.length + 1)) := by rw [← hS, leftT, hdr]
    have hSp : 0 < S.size := by rw [hSl, textOf_size]; simp
    have hSpi : (0 : Int) < S.size := by omega
    have hSm : S.size ≤ 512 := by rw [hSl, textOf_size, List.length_cons, List.length_drop, HSZ.out.2.1]; omega
    have hSmi : (S.size : Int) ≤ 512 := by omega
    have hS0 : S[0].toNat = q := by
      subst hSl
      simp [textOf, ByteArray.getElem_eq_getElem_data]
      omega
    rw [hS] at hcs
    have HS1 := Lib.hid (show S.extract 1 S.size = leftT xs ws (pre.length + 1) by
      refine secOf_inj ?_
      rw [secOf_extract', hSl, secOf_textOf (fun b hb => by
        rcases List.mem_cons.1 hb with rfl | hb
        · exact hqL
        · exact encL_lt xs ws b (List.mem_of_mem_drop hb)), leftT, secOf_textOf (fun b hb => encL_lt xs ws b (List.mem_of_mem_drop hb)), textOf_size, List.take_of_length_le (Nat.le_refl _)]
      rfl)
    have hmo : Tryz.prog.follows .mixedOrders = true := by kernel_rfl
    have hp1i : (p1 : Int) < (ws.length : Int) := by omega
    have hp2i : (p2 : Int) ≤ 56 := by omega
    obtain ⟨m, hm⟩ : ∃ m, q * 2 ^ p2 = m := ⟨_, rfl⟩
    have hmL : m < 2 ^ 64 := by
      rw [← hm]
      calc q * 2 ^ p2 ≤ 255 * 2 ^ 56 := Nat.mul_le_mul (by omega) (Nat.pow_le_pow_right (by decide) hp2)
        _ < 2 ^ 64 := by decide
    have hmI : (q : Int) * 2 ^ p2 = (m : Int) := by rw [← hm]; simp
    obtain ⟨r, hr⟩ : ∃ r, lo ||| m = r := ⟨_, rfl⟩
    rw [hm, hr] at HSN
    have hv1 : IntKind.u64.wrap (q : Int) = (q : Int) := by rw [IntKind.wrap_u64]; omega
    have hv2 : IntKind.u64.wrap ((q : Int) * 2 ^ p2) = (m : Int) := by rw [hmI, IntKind.wrap_u64]; omega
    have hv3 : bits BinOp.or IntKind.u64 (lo : Int) (m : Int) = (r : Int) := by rw [u64_or_nat lo m hloL hmL, hr]
    have hne1 : w1.heap.size ≠ w.heap.size := by omega
    have hne2 : W2.heap.size ≠ w.heap.size := by omega
    have hne3 : W2.heap.size ≠ w1.heap.size := by omega
    have hlast : Boxed ((W.drew.setCell ⟨w1.heap.size, p1, none⟩ (u64v r)).setCell ⟨w.heap.size, 0, none⟩ (.string (S.extract 1 S.size))) w.heap.size 9 (.string (leftT xs ws (pre ++ [x]).length)) := by
      rw [List.length_append, List.length_singleton, ← HS1.out]
      exact Boxed.set _ (show Boxed (W.drew.setCell ⟨w1.heap.size, p1, none⟩ (u64v r)) w.heap.size 9 _ from (set_far (w := W.drew) (a := ⟨w1.heap.size, p1, none⟩) (fun e => hne1 e.symm) _).trans hbs)
    have hbl3 : Boxed ((W.drew.setCell ⟨w1.heap.size, p1, none⟩ (u64v r)).setCell ⟨w.heap.size, 0, none⟩ (.string (S.extract 1 S.size))) W2.heap.size 22 (.slice (some ⟨w1.heap.size, 0, none⟩) ws.length ws.length) :=
      (set_far (a := ⟨w.heap.size, 0, none⟩) hne2 _).trans ((set_far (w := W.drew) (a := ⟨w1.heap.size, p1, none⟩) hne3 _).trans hbl)
    have hrow3 : ((W.drew.setCell ⟨w1.heap.size, p1, none⟩ (u64v r)).setCell ⟨w.heap.size, 0, none⟩ (.string (S.extract 1 S.size))).heap[w1.heap.size]? = some (.cells ((gat (encL xs ws) ws (pre ++ [x])).map u64v).toArray 24 (0, 0)) := by
      rw [HSN.out]
      refine (set_far (a := ⟨w.heap.size, 0, none⟩) hne1 _).trans ?_
      rw [set_blk (w := W.drew) hrow p1 (u64v r)]
      simp [List.map_set]
    have K3 : KeepsOthers W ((W.drew.setCell ⟨w1.heap.size, p1, none⟩ (u64v r)).setCell ⟨w.heap.size, 0, none⟩ (.string (S.extract 1 S.size))) := ((KeepsOthers.drew W).trans (KeepsOthers.setCell _ _ _)).trans (KeepsOthers.setCell _ _ _)
    have B3 : Below w.heap.size W ((W.drew.setCell ⟨w1.heap.size, p1, none⟩ (u64v r)).setCell ⟨w.heap.size, 0, none⟩ (.string (S.extract 1 S.size))) := Below.setCell (Below.setCell ((Below.refl w.heap.size W).drew) (p := ⟨w1.heap.size, p1, none⟩) (Nat.le_of_lt hsz.2.1) _) (p := ⟨w.heap.size, 0, none⟩) (Nat.le_refl _) _
    have R := Lib.hid (And.intro K3 (And.intro B3 (And.intro hlast (And.intro hbl3 (And.intro hrow3 (hBl.trans B3))))))
    clear hbs hbl hrow hBl hglt hdr hSl hG hlo hlo2 hq hq2 hS hm hmI hr hlast hbl3 hrow3 K3 B3 hne2 hne3
    gi_wp2
    refine wpIn_still_tail 11 hmo (by kernel_rfl) (by kernel_rfl) ?_
    simp only [List.take_succ_cons, List.take_zero, List.drop_succ_cons, List.drop_zero]
    repeat still_step
    try refine wpStill_nil ?_
    change wpList _ _ _ _ _ W.drew
    have hcsd : W.drew.cell? ⟨w.heap.size, 0, none⟩ = some (.string S) := hcs
    have hccd : W.drew.cell? ⟨w1.heap.size, p1, none⟩ = some (u64v lo) := hcc
    have hfcd : W.drew.frozen? ⟨w1.heap.size, p1, none⟩ = false := hfc
    have hfsd : W.drew.frozen? ⟨w.heap.size, 0, none⟩ = false := hfs
    go_wp2_with fail
    have hcs9 : (W.setCell ⟨w1.heap.size, p1, none⟩ (.int .u64 (r : Int))).drew.cell? ⟨w.heap.size, 0, none⟩ = some (.string S) := (World.cell?_setCell_other (w := W.drew) ⟨w1.heap.size, p1, none⟩ ⟨w.heap.size, 0, none⟩ _ (fun e => hne1 (by injection e))).trans hcs
    have hcs8 : (W.setCell ⟨w1.heap.size, p1, none⟩ (.int .u64 (r : Int))).cell? ⟨w.heap.size, 0, none⟩ = some (.string S) := hcs9
    clear hcsd hccd hfcd hcs hcc hcl
    refine ⟨rfl, ?_⟩
    gi_wp2
    exact ⟨R.out.1.from _, R.out.2⟩
  case done =>
    rintro D ys W hD rfl ⟨hbs, hbl, hrow, hBl⟩ hK
    have hc := hbl.cell
    rw [gat_range xs ws _ (by rw [placesTo_len ws _ (Nat.le_refl _)]; exact Nat.le_refl _), placesTo_len ws _ (Nat.le_refl _), decL_all xs ws HF.out HM.out.2.2.2.2.2.2.2.2.1] at hrow
    have HK := Lib.hid (And.intro hK (And.intro hD (And.intro hBl hrow)))
    clear hK hrow hD hBl hbs hbl hcells bN bS bL bR hB0 e12
    gi_wp2
    obtain ⟨hK, hD, hBl, hrow⟩ := HK.out
    refine ⟨by simp, .inl ⟨_, _, rfl, run_takeDeferred hK, ?_⟩⟩
    have hB2 := belowK_b (n₀ := W2.heap.size) (w := W2) (Nat.le_refl _) W D _ (.deferred none) (by simp at hD; omega) hK rfl rfl
    have hrow2 := (hB2.block w1.heap.size hsz.2.2).trans hrow
    refine ⟨.tuple #[.slice (some ⟨w1.heap.size, 0, none⟩) ws.length ws.length, num 0], by simp [results, Tryz.results11, go_sem], _, rfl, ?_, hBl.trans (belowK_b (w := w) (Nat.le_refl _) W D _ _ (by simp at hD; omega) hK rfl rfl)⟩
    have hxl := HM.out.2.2.2.2.2.2.2.2.1
    refine ⟨by simp, .inr ⟨w1.heap.size, ws.length, _, by rw [hxl], Nat.le_of_lt hsz.2.1, hrow2, by omega, by unfold maxLen; omega, by simp; omega, List.take_of_length_le (by simp)⟩⟩
  case stop =>
    rintro D c pre W _ _ h _
    exact h.elim

end Go.Proofs.YtdilchcnfnfdiaaGreatDoor
