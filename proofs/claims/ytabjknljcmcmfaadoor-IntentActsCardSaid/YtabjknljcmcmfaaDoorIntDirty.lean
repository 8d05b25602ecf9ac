/- Layer 10: Dirty: what a range over stained collects. -/
import Derived.Test.YtabjknljcmcmfaaDoorIntIter
namespace Go.Proofs.YtabjknljcmcmfaaDoor
open Go.RowKit Go.Shelf

attribute [local go_sem] Oper.semAt_some

theorem bitsI_len (x : Nat) : (bitsI x).length ≤ 64 := by
  rw [bitsI, List.length_map]
  have := List.length_filter_le (fun i => x.testBit i) (List.range 64)
  simp at this
  exact this
theorem stained_walk (m : Nat) (w : World) : Calls Tryd.prog 31 #[ptr m] w fun e w' => e = .returned (.func (.func 43) #[] #[ptr w.heap.size]) ∧ w' = w.alloc (.cells #[ptr m] 22) := by
  go_enter Tryd.func31, Tryd.ntmps31
  go_wp2
  go_ret
  exact ⟨rfl, rfl⟩
theorem stained_stops (n : Nat) (hn : 1 ≤ n) (Bn m n₀ stain : Nat) (w : World) (hs : stain < two64) (hg : 0 < n₀) (hn₀ : n₀ ≤ w.heap.size)
    (hBn : w.cell? ⟨Bn, 0, none⟩ = some (.pointer (some ⟨m, 0, none⟩))) (hm : w.cell? ⟨m, 1, none⟩ = some (.int .u64 stain)) (ht : Tab 0 w) :
    SeqStopsK Fence.wide n Tryd.prog 43 #[.pointer (some ⟨Bn, 0, none⟩)] (fun x : Int => #[Value.int .i64 x]) (Below n₀) (fun ys => ys = bitsI stain) (fun pre => pre <+: bitsI stain) (bitsI stain).length w := fun l J Jx W hW _ _ hY h0 =>
  stained1_in n hn l Bn m n₀ stain hs hg J Jx hY W ((hW.cell (p := ⟨Bn, 0, none⟩) (World.block_lt_of_cell? w _ hBn)).trans hBn) ((hW.cell (p := ⟨m, 1, none⟩) (World.block_lt_of_cell? w _ hm)).trans hm) (ht.below (by omega) hW) h0

set_option maxRecDepth 100000 in
set_option maxHeartbeats 2000000 in
theorem dirty_walk {w : World} {m bz rows stain : Nat} {busy : List Int} (h : MapV w m bz rows stain busy) (ht : Tab 0 w) (hg : 0 < w.heap.size) :
    Calls Tryd.prog 16 #[ptr m] w fun e W' => ∃ v, e = .returned v ∧ Own W' w.heap.size v (bitsI stain) ∧ Ext w W' := by
  refine (callsIn_wide (n := 3)).1 ?_
  obtain ⟨i0, hi, hz0, hz1, hz2⟩ := info_parts Tryd.iInt
  refine callsIn_of_wp_marks Tryd.func16 rfl trivial ?_ rfl
  simp only [Tryd.ntmps16, List.size_toArray, List.length_cons, List.length_nil, Nat.reduceAdd, Nat.reduceSub, Array.replicate_succ, Array.replicate_zero, List.push_toArray, List.append_toArray, List.nil_append, List.cons_append]
  gi_wp2
  refine ⟨trivial, (callsIn_wide.2 (stained_walk m _)).mono ?_⟩
  rintro e w' ⟨rfl, rfl⟩
  gi_wp2
  have bO := Boxed.new w 35 (.slice none 0 0)
  have bN := Boxed.new (w.alloc (.cells #[.slice none 0 0] 35)) 22 (ptr m)
  rw [World.size_alloc] at bN
  have hB0 : Below w.heap.size w ((w.alloc (.cells #[.slice none 0 0] 35)).alloc (.cells #[ptr m] 22)) := ((Below.refl _ w).alloc (Nat.le_refl _) _).alloc (by simp) _
  have hm0 := h.ext hB0
  refine wpIn_rangeFunc_ownG rfl (by decide) (gf := 43) (lb := #[.pointer (some ⟨w.heap.size + 1, 0, none⟩)]) rfl trivial (enters_of Tryd.func43 (by kernel_rfl) rfl)
    (stained_stops 2 (by decide) (w.heap.size + 1) m w.heap.size stain _ h.small hg (by simp; omega) bN.cell (by rw [cell_blk hm0.blk]; rfl) (ht.below hg hB0)) belowK_t (belowK_b (by simp; omega)) (Below.refl _ _) (fun _ => rfl)
    (fun pre W => (∃ v, Boxed W w.heap.size 35 v ∧ W.ownsRow w.heap.size 3 1 v pre.length (pre.map (Value.int .i64)) ∧ True) ∧ Below w.heap.size w W)
    (fun _ _ _ => False)
    (OwnFrom.and (Go.Own.from (holdsRow_own w.heap.size w.heap.size 35 3 1 (fun (pre : List Int) => pre.length) (fun pre => pre.map (Value.int .i64)) (fun _ _ => True)) _) (ownFrom_below (Nat.le_refl _) (by simp; omega)))
    (fun _ _ _ _ _ hs _ _ => hs)
    ⟨⟨_, bO.alloc _, World.ownsRow_nil _ _ _ _, trivial⟩, hB0⟩
    (fun x => { tmps := #[ptr m, undef, .slice none 0 0, .pointer (some ⟨w.heap.size, 0, none⟩), .int .i64 x, ptr m, .func (.func 43) #[] #[.pointer (some ⟨w.heap.size + 1, 0, none⟩)], .int .i64 x, undef, undef, undef, undef, undef], defers := [] }) ?assign ?body ?done ?stop
  case assign =>
    intro l x W K hK
    gi_wp2
    exact hK
  case body =>
    rintro l pre x W ⟨⟨v, hv, hrow, -⟩, hB⟩ hlt
    have hc := hv.cell
    have hpl := bitsI_len stain
    gi_wp2_with (gi_at_builtin; refine wpListIn_append_own _ rfl _ _ 35 rfl w.heap.size 3 i0 (.int .i64 0) 1 8 Tryd.uInts hi hz0 hz1 hz2 rfl (by decide) _ _ _ rfl (hrow.alloc _) ⟨W.heap.size, 0, none⟩ 1 1 [.int .i64 x] rfl rfl (cell_one_new _ _ _) (by simp [Value.oneCell']) (by unfold maxLen; omega) (by omega) (by have := hB.size; simp; omega) ?_; intro v' w1 hown' hgrow _; obtain ⟨g', cap', rfl⟩ := ownsRow_succ hown'; obtain ⟨hv1, hv2, hr2, hk2, hb2⟩ := hv.appended (by decide) hrow hB.size (Nat.le_refl _) hown' hgrow; have hc1 := hv1.cell; have hf1 := hv1.frozen)
    exact ⟨hk2.from _, hb2, ⟨_, hv2, by simpa using hr2, trivial⟩, hB.trans hb2⟩
  case done =>
    rintro D ys W hD rfl ⟨⟨v, hv, hrow, -⟩, hB⟩ hK
    have hc := hv.cell
    gi_wp2
    refine ⟨by simp, .inl ⟨_, _, rfl, run_takeDeferred hK, ?_⟩⟩
    exact ⟨_, results_tmp rfl _ _ _, v, rfl, ownsRow_putObj hrow _ hK rfl, hB.trans (belowK_b (w := w) (Nat.le_refl _) W D _ _ (by simp at hD; omega) hK rfl rfl)⟩
  case stop =>
    rintro D c pre W _ _ h _
    exact h.elim

end Go.Proofs.YtabjknljcmcmfaaDoor
