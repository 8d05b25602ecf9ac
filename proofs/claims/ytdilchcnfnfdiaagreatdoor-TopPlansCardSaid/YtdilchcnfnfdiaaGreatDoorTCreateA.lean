/- array: Create. array: Create, walked. -/
import Derived.Test.YtdilchcnfnfdiaaGreatDoorTArrA
namespace Go.Proofs.YtdilchcnfnfdiaaGreatDoor
open Go.RowKit

theorem rows61_walk (w : World) : Calls Tryz.prog 71 #[num 6, num 1] w fun e w' => e = .returned (num 2) ∧ w' = w := rows_walk w 6 1 (by decide) (by decide) (by decide) (by decide)
theorem DB.Calm.at_ {x : DB} {w : World} {n L : Nat} (h : x.Calm w n L) : ∃ ca ta, w.heap[x.d]? = some (.cells ca ta (0, 0)) := by
  obtain ⟨lim, safe, bad, hl, hc⟩ := h
  obtain ⟨left, hb⟩ := hc.blk
  exact ⟨_, _, hb⟩
/-- None of the drives ahead is this one. -/
theorem twice_walk {w : World} {ds : List DB} {L : Nat} (hf : Fleet w ds 6 L) (hl : ds.length ≤ 1000) (g cap k : Nat) (hk : k < ds.length) (hc : ∀ i, i < ds.length → w.cell? ⟨g, i, none⟩ = some (ds.getD i DB.zero).val) :
    Calls Tryz.prog 70 #[.slice (some ⟨g, 0, none⟩) k cap, (ds.getD k DB.zero).val] w fun e w' => e = .returned (.bool false) ∧ w' = w := by
  have hlen : ((ds.take k).map (·.d)).length = k := by simp; omega
  have hg : ∀ i, i < k → ((ds.take k).map (·.d)).getD i 0 = (ds.getD i DB.zero).d := fun i hi => by
    have h1 : i < ds.length := by omega
    simp [List.getD_eq_getElem?_getD, hi, h1]
  have H := contains_walk w (some ⟨g, 0, none⟩) cap ((ds.take k).map (·.d)) (ds.getD k DB.zero).d (by omega) (fun i hi => ⟨_, rfl, by rw [zero_add, hg i (by omega)]; exact hc i (by omega)⟩)
    (fun b hb => by
      obtain ⟨y, hy, rfl⟩ := List.mem_map.1 hb
      obtain ⟨i, hi, rfl⟩ := List.getElem_of_mem hy
      have hik : i < k := by simp at hi; omega
      have hi2 : i < ds.length := by omega
      have hyd : (ds.take k)[i] = ds[i] := by simp
      have hxd : ds.getD k DB.zero = ds[k] := by simp [List.getD_eq_getElem?_getD, hk]
      have hap := (List.pairwise_iff_getElem.1 hf.apart) i k hi2 hk hik
      rw [hyd, hxd]
      exact ⟨fun e => hap ds[i].d (.inl rfl) (.inl e), (hf.calm _ (List.getElem_mem hi2)).at_⟩)
    (hf.calm _ (getD_mem hk)).at_
  rw [hlen] at H
  exact H

section
variable {w : World} {a ev m bz st : Nat} {dv bv : Value} {ds : List DB} {bl : List Nat} {L : Nat}
/-- One column more is built. -/
theorem ArrV.grow {w' w2 : World} {g cap y : Nat} (h : ArrV w a ev m bz st dv bv ds bl) (hf : Fleet w ds 6 L) (e : Ext w w') (ho : OwnM 3 natv w2 0 (.slice (some ⟨g, 0, none⟩) (bl.length + 1) cap) (bl ++ [y])) (K : Keeps (fun b => bv.ownBlock = some b) w' w2) (hg : bv.ownBlock = some g ∨ g = w'.heap.size) :
    ArrV (w2.setCell ⟨a, 8, none⟩ (.slice (some ⟨g, 0, none⟩) (bl.length + 1) cap)) a ev m bz st dv (.slice (some ⟨g, 0, none⟩) (bl.length + 1) cap) ds (bl ++ [y]) ∧ Fleet (w2.setCell ⟨a, 8, none⟩ (.slice (some ⟨g, 0, none⟩) (bl.length + 1) cap)) ds 6 L ∧ Keeps (fun b => b = a ∨ bv.ownBlock = some b) w (w2.setCell ⟨a, 8, none⟩ (.slice (some ⟨g, 0, none⟩) (bl.length + 1) cap)) := by
  have h1 := h.ext e
  have hal := block_lt h1.blk
  have hml := block_lt h1.imap.blk
  have hbl := block_lt h1.imap.cnt
  have K1 : Keeps (fun b => b = a ∨ bv.ownBlock = some b) w w2 := (Keeps.of_below e).trans K (fun i hi => .inl (.inr hi))
  have K2 : Keeps (fun b => b = a ∨ bv.ownBlock = some b) w (w2.setCell ⟨a, 8, none⟩ (.slice (some ⟨g, 0, none⟩) (bl.length + 1) cap)) := K1.set (p := ⟨a, 8, none⟩) (.inl (.inl rfl)) _
  have KA : Keeps (fun b => b = a) w2 (w2.setCell ⟨a, 8, none⟩ (.slice (some ⟨g, 0, none⟩) (bl.length + 1) cap)) := (Keeps.refl (fun b => b = a) w2).set (p := ⟨a, 8, none⟩) (.inl rfl) _
  have ga : g ≠ a ∧ g ≠ m ∧ g ≠ bz ∧ dv.ownBlock ≠ some g := by
    rcases hg with hg | hg
    · exact h.la g hg
    · exact ⟨by omega, by omega, by omega, fun e => by have := (h1.drv.lt e).2; omega⟩
  refine ⟨⟨?_, ?_, ?_, ?_, h.ma, h.ba, h.da, ?_, ?_⟩, ⟨fun x hx => (hf.calm x hx).keep K2 (fun b hb => ?_), hf.apart⟩, K2⟩
  · have h2 := K.blk h1.blk (fun hb => (h.la _ hb).1 rfl)
    exact set_blk h2 8 _
  · exact h.drv.keep K2 (fun q hq => by
      rintro (hb | hb)
      · exact h.da q hq hb
      · exact (h.la q hb).2.2.2 hq)
  · have ho' := ho.keep KA (fun q hq => by have hq : g = q := by simpa [Value.ownBlock] using hq
                                           subst hq
                                           exact ga.1)
    exact ho'
  · exact h.imap.keep K2 (by
      rintro (hb | hb)
      · exact h.ma hb
      · exact (h.la _ hb).2.1 rfl) (by
      rintro (hb | hb)
      · exact h.ba hb
      · exact (h.la _ hb).2.2.1 rfl)
  · intro q hq
    have hq : g = q := by simpa [Value.ownBlock] using hq
    subst hq
    exact ga
  · intro b hb
    obtain ⟨o1, o2, o3, o4, o5⟩ := h.out b hb
    refine ⟨o1, o2, o3, o4, fun hq => ?_⟩
    have hq : g = b := by simpa [Value.ownBlock] using hq
    subst hq
    rcases hg with hg | hg
    · exact o5 hg
    · obtain ⟨x, hx, hb⟩ := hb
      have := hf.lt hx hb
      have := e.size
      omega
  · have hb' : FF ds b := ⟨x, hx, hb⟩
    rintro (h' | h')
    · exact (h.out b hb').1 h'
    · exact (h.out b hb').2.2.2.2 h'
end

/-- An array that has just been made. -/
theorem ArrV.make {w w1 w2 w3 : World} {g2 cap2 m bz : Nat} {ds : List DB} (hf : Fleet w ds 6 0) (hd : OwnM 36 DB.val w1 w.heap.size (.slice (some ⟨g2, 0, none⟩) 4 cap2) ds) (e1 : Ext w w1)
    (hm : MapV w2 m bz 2 0 (List.replicate (regs 2) 0)) (hm1 : w1.heap.size ≤ m) (hm2 : w1.heap.size ≤ bz) (e2 : Ext w1 w2)
    (e3 : Ext ((w2.alloc (.map #[] 0)).alloc (.cells (arrC 0 (.slice (some ⟨g2, 0, none⟩) 4 cap2) (.slice none 0 0) m w2.heap.size) 152)) w3) :
    ArrV w3 (w2.heap.size + 1) 0 m bz w2.heap.size (.slice (some ⟨g2, 0, none⟩) 4 cap2) (.slice none 0 0) ds [] ∧ Ext w w3 := by
  have hb := e3.blk (alloc_new (w2.alloc (.map #[] 0)) (.cells (arrC 0 (.slice (some ⟨g2, 0, none⟩) 4 cap2) (.slice none 0 0) m w2.heap.size) 152))
  rw [size_alloc] at hb
  have e23 : Ext w2 w3 := (((Ext.refl w2).alloc _).alloc _).trans e3
  have q1 := e1.size
  have q2 := e2.size
  have q3 := block_lt hm.blk
  have q4 := block_lt hm.cnt
  have hg := hd.lt (g := g2) rfl
  refine ⟨⟨hb, ((hd.mono (Nat.zero_le _)).ext e2).ext e23, OwnM.nil _ _ _ _, hm.ext e23, by omega, by omega, fun q hq => ?_, (fun q hq => by cases hq), fun b hb => ?_⟩, (e1.trans e2).trans e23⟩
  · have hq : g2 = q := by simpa [Value.ownBlock] using hq
    omega
  · obtain ⟨x, hx, hb⟩ := hb
    have := hf.lt hx hb
    refine ⟨by omega, by omega, by omega, fun hq => ?_, fun hq => by cases hq⟩
    have hq : g2 = b := by simpa [Value.ownBlock] using hq
    omega

end Go.Proofs.YtdilchcnfnfdiaaGreatDoor
namespace Go.Proofs.YtdilchcnfnfdiaaGreatDoor
open Go.RowKit

def CreateEnd (w : World) (ds : List DB) (r : Ending) (w' : World) : Prop :=
  ∃ a m bz st dv bv, r = .returned (.tuple #[ptr a, num 0]) ∧ ArrV w' a 1 m bz st dv bv ds (List.replicate 4 2) ∧ Fleet w' ds 6 32 ∧ Keeps (FF ds) w w'
def LookRel (w : World) (i rows : Value) (wr : World) : Prop := ∃ k : Nat, k ≤ 4 ∧ i = num k ∧ w = wr ∧ (k = 0 ∧ rows = num 256 ∨ rows = num 2)
/-- Ahead of a drive that is filled. -/
def FillRel (w : World) (a m bz st : Nat) (dv : Value) (ds : List DB) (i : Value) (wr : World) : Prop :=
  ∃ (k : Nat) (bv : Value), k ≤ 4 ∧ i = num k ∧ ArrV wr a 0 m bz st dv bv ds (List.replicate k 2) ∧ Fleet wr ds 6 (6 * k) ∧ (∀ g, bv.ownBlock = some g → w.heap.size ≤ g) ∧ Keeps (FF ds) w wr
/-- Ahead of a sector that is filled. -/
def ZeroRel (x : DB) (w : World) (L : Nat) (i : Value) (wr : World) : Prop := ∃ t : Nat, t ≤ 2 ∧ i = num t ∧ x.Pnd w wr 6 (L + t)

set_option maxRecDepth 100000 in
set_option maxHeartbeats 4000000 in
theorem create_walk (w : World) (g cap : Nat) (ds : List DB) (hcap : 4 ≤ cap) (hl : ds.length = 4) (hf : Fleet w ds 6 0) (hc : ∀ i, i < 4 → w.cell? ⟨g, i, none⟩ = some (ds.getD i DB.zero).val) :
    Calls Tryz.prog 38 #[u64v 5, num 1, .slice (some ⟨g, 0, none⟩) 4 cap, .pointer none] w (CreateEnd w ds) := by
  have HC := Lib.hid hc
  have HF := Lib.hid hf
  have HL := Lib.hid hl
  have HCL := Lib.hid (clone_walk w ⟨g, 0, none⟩ cap ds (by intro e; rw [e] at hl; cases hl) (by omega) (fun i hi => by rw [zero_add]; exact hc i (by omega)))
  rw [hl] at HCL
  have HN := fun W => Lib.hid (new_walk 2 W (by decide) (by decide))
  have hmm := @run_makeMap Tryz.prog
  have HZ := fun W => Lib.hid (repeat_walk W)
  have hzs := Lib.hid zeroT_size
  obtain ⟨Z, hZ⟩ : ∃ Z, zeroT = Z := ⟨_, rfl⟩
  rw [hZ] at HZ hzs
  clear hc hf hl hZ
  go_enter Tryz.func38, Tryz.ntmps38
  go_wp2_with fail
  go_loopw [40, 10] (fun i rows wr => LookRel w i rows wr) (fun i _ _ => 4 - (intOf i).toNat)
  case atStart => exact ⟨0, by omega, rfl, rfl, .inl ⟨rfl, rfl⟩⟩
  case round =>
    obtain ⟨k, hk, rfl, rfl, hrows⟩ := hrel
    by_cases hlt : k < 4
    · have hkl : k < ds.length := by have := HL.out; omega
      have hcj := HC.out k hlt
      have hki : (k : Int) < 4 := by omega
      have hkc : (k : Int) ≤ cap := by omega
      have hm : ds.getD k DB.zero ∈ ds := getD_mem hkl
      have HT := twice_walk HF.out (by have := HL.out; omega) g cap k hkl (fun i hi => HC.out i (by have := HL.out; omega))
      obtain ⟨x, hx⟩ : ∃ x, ds.getD k DB.zero = x := ⟨_, rfl⟩
      rw [hx] at hcj hm HT
      have HT2 := Lib.hid HT
      have HA := Lib.hid (alive_walk (HF.out.calm x hm))
      have HS := Lib.hid (sectors_of (HF.out.calm x hm))
      have HR := Lib.hid (rows61_walk w)
      clear hx hm HT HCL HN HZ hkl
      rcases hrows with ⟨rfl, rfl⟩ | rfl
      all_goals
        go_wp2_with fail
        refine HA.out.mono ?_
        rintro e1 w1 ⟨rfl, rfl⟩
        clear HA
        go_wp2_with fail
        refine HT2.out.mono ?_
        rintro e1 w1 ⟨rfl, rfl⟩
        clear HT2
        go_wp2_with fail
        refine HS.out.mono ?_
        rintro e1 w1 ⟨rfl, rfl⟩
        clear HS
        go_wp2_with fail
        refine HR.out.mono ?_
        rintro e1 w1 ⟨rfl, rfl⟩
        clear HR
        go_wp2_with fail
        go_roundw
        case rel => first | exact ⟨1, by omega, rfl, rfl, .inr rfl⟩ | exact ⟨k + 1, by omega, by go_num, rfl, .inr rfl⟩
        case measure => first | (show 4 - 1 < 4 - 0; decide) | (simp [intOf]; omega)
    · obtain rfl : k = 4 := by omega
      obtain rfl : u10 = num 2 := by
        rcases hrows with ⟨h, _⟩ | h
        · cases h
        · exact h
      clear hlt hk
      go_wp2_with fail
      refine HCL.out.mono ?_
      rintro e1 w1 ⟨dv, rfl, hdv, he1⟩
      obtain ⟨g2, cap2, hdvE, hg2a, hg2b⟩ := hdv.shape (by intro e; have := HL.out; rw [e] at this; cases this)
      rw [HL.out] at hdvE
      subst hdvE
      have E1 := Lib.hid (And.intro hdv he1)
      clear HCL hdv he1
      go_wp2_with fail
      refine (HN _).out.mono ?_
      rintro e2 w2 ⟨m, bz, rfl, hmv, hm1, hm2, he2⟩
      have E2 := Lib.hid (And.intro hmv (And.intro hm1 (And.intro hm2 he2)))
      clear HN hmv hm1 hm2 he2
      go_wp2_with fail
      refine (HZ _).out.mono ?_
      rintro e3 w3 ⟨rfl, he3⟩
      obtain ⟨hmk, hext⟩ := ArrV.make HF.out E1.out.1 E1.out.2 E2.out.1 E2.out.2.1 E2.out.2.2.1 E2.out.2.2.2 he3
      have A0 := Lib.hid (show FillRel w (w2.heap.size + 1) m bz w2.heap.size (.slice (some ⟨g2, 0, none⟩) 4 cap2) ds (num 0) w3 from
        ⟨0, _, by omega, rfl, hmk, HF.out.ext hext, (fun q hq => by cases hq), hext.ff⟩)
      have k7 : w3.cell? ⟨w2.heap.size + 1, 7, none⟩ = some (.slice (some ⟨g2, 0, none⟩) 4 cap2) := hmk.cell 7
      have hw2s : w.heap.size ≤ w2.heap.size := by have := E1.out.2.size; have := E2.out.2.2.2.size; omega
      clear HC E1 E2 he3 HZ hmk hext hrows hmm hg2a hg2b
      go_wp2_with fail
      go_loopw [104] (fun i wx => FillRel w (w2.heap.size + 1) m bz w2.heap.size (.slice (some ⟨g2, 0, none⟩) 4 cap2) ds i wx) (fun i _ => 4 - (intOf i).toNat)
      case atStart => exact A0.out
      case round =>
        obtain ⟨k, bv, hk, rfl, hv, hfl, hbv, hK⟩ := hrel
        clear A0 k7
        by_cases hlt : k < 4
        · have hkl : k < ds.length := by have := HL.out; omega
          have hcj : wr.cell? ⟨g2, k, none⟩ = some (ds.getD k DB.zero).val := hv.drv.cell k (ds.getD k DB.zero).val (by simp [hkl])
          have hm : ds.getD k DB.zero ∈ ds := getD_mem hkl
          obtain ⟨x, hx⟩ : ∃ x, ds.getD k DB.zero = x := ⟨_, rfl⟩
          rw [hx] at hcj hm
          have hki : (k : Int) < 4 := by omega
          have k8 : wr.cell? ⟨w2.heap.size + 1, 8, none⟩ = some bv := hv.cell 8
          obtain ⟨T, hT⟩ : ∃ T, List.replicate k 2 = T := ⟨_, rfl⟩
          have hTl : T.length ≤ 1048576 := by rw [← hT]; simp; omega
          rw [hT] at hv
          have e1 := (Ext.refl wr).alloc (.cells #[num 2] 3)
          have HO := Lib.hid (hv.blt.ext e1)
          have HB := Lib.hid (alloc_new wr (.cells #[natv 2] 3))
          have hB : 0 ≤ (wr.alloc (.cells #[num 2] 3)).heap.size := Nat.zero_le _
          have ST := Lib.hid (fun (g cap : Nat) (w5 : World) (h1 : OwnM 3 natv w5 0 (.slice (some ⟨g, 0, none⟩) (T.length + 1) cap) (T ++ [2])) (h2 : Keeps (fun q => bv.ownBlock = some q) (wr.alloc (.cells #[num 2] 3)) w5) (h3 : bv.ownBlock = some g ∨ g = (wr.alloc (.cells #[num 2] 3)).heap.size) =>
            show (w5.cell? ⟨w2.heap.size + 1, 8, none⟩ = some bv ∧ w5.frozen? ⟨w2.heap.size + 1, 8, none⟩ = false) ∧ ∃ W6, w5.setCell ⟨w2.heap.size + 1, 8, none⟩ (.slice (some ⟨g, 0, none⟩) (T.length + 1) cap) = W6 ∧ ∃ bv', ArrV W6 (w2.heap.size + 1) 0 m bz w2.heap.size (.slice (some ⟨g2, 0, none⟩) 4 cap2) bv' ds (List.replicate (k + 1) 2) ∧ Fleet W6 ds 6 (6 * k) ∧ (∀ q, bv'.ownBlock = some q → w.heap.size ≤ q) ∧ Keeps (FF ds) w W6 from by
              obtain ⟨r1, r2, r3⟩ := hv.grow hfl e1 h1 h2 h3
              have hbk := h2.blk (e1.blk hv.blk) (fun hb => (hv.la _ hb).1 rfl)
              have hw2 : w.heap.size ≤ w2.heap.size + 1 := by omega
              refine ⟨⟨by rw [cell_blk hbk]; rfl, free_blk hbk 8⟩, _, rfl, .slice (some ⟨g, 0, none⟩) (T.length + 1) cap, ?_, r2, fun q hq => ?_, hK.trans r3 (fun q hq => ?_)⟩
              · rw [List.replicate_succ', hT]
                exact r1
              · have hq : g = q := by simpa [Value.ownBlock] using hq
                subst hq
                rcases h3 with h3 | h3
                · exact hbv _ h3
                · rw [size_alloc] at h3; have := hK.size; omega
              · rcases hq with rfl | hq
                · exact .inr hw2
                · exact .inr (hbv _ hq))
          have HM := Lib.hid hm
          clear hx hT hm hv hfl hbv hK e1
          go_wp2_with (at_builtin; refine wpList_append_one Tryz.uInts Tryz.iInt rfl (by decide) rfl _ _ rfl 0 bv T rfl HO.out wr.heap.size 2 rfl HB.out rfl hTl hB ?_; intro g5 cap5 w5 h1 h2 h3; obtain ⟨⟨c8, f8⟩, W6, hW6, bv', r1⟩ := ST.out g5 cap5 w5 h1 h2 h3; have R := Lib.hid r1; clear h1 h2 h3 ST HO HB hB k8 r1)
          have HWP := Lib.hid (wipe_walk (R.out.2.1.calm x HM.out) (by omega) (by decide))
          clear hW6 c8 f8 hcj hTl
          refine HWP.out.mono ?_
          rintro e6 w6 ⟨rfl, hc6, hk6⟩
          have HC6 := Lib.hid hc6
          have HK6 := Lib.hid hk6
          clear HWP hc6 hk6
          go_wp2_with fail
          go_loopw [126] (fun i wx => ZeroRel x w6 (6 * k + 4) i wx) (fun i _ => 2 - (intOf i).toNat)
          case atStart => exact ⟨0, by omega, rfl, HC6.out.pnd⟩
          case round =>
            obtain ⟨t, ht, rfl, hp⟩ := hrel
            by_cases htl : t < 2
            · have hti : (t : Int) < 2 := by omega
              have HW := Lib.hid (pwrite_walk hp (by omega) (4 + t) Z hzs.out (by omega))
              rw [show ((4 + t : Nat) : Int) = 4 + (t : Int) by omega] at HW
              clear hp
              go_wp2_with fail
              refine HW.out.mono ?_
              rintro e7 w7 ⟨rfl, hp7⟩
              have R7 := Lib.hid hp7
              clear HW hp7
              go_wp2_with fail
              go_roundw
              case rel => exact ⟨t + 1, by omega, by go_num, R7.out⟩
              case measure => simp [intOf]; omega
            · obtain rfl : t = 2 := by omega
              have HW := Lib.hid (pflush_walk hp)
              clear hp
              go_wp2_with fail
              refine HW.out.mono ?_
              rintro e7 w7 ⟨rfl, hc7, hk7⟩
              have R7 := Lib.hid (show FillRel w (w2.heap.size + 1) m bz w2.heap.size (.slice (some ⟨g2, 0, none⟩) 4 cap2) ds (num ((k : Int) + 1)) w7 from by
                obtain ⟨r1, r2, r3, r4⟩ := R.out
                have K67 : Keeps x.F W6 w7 := HK6.out.trans hk7 (fun _ h => .inl h)
                exact ⟨k + 1, bv', by omega, by go_num, r1.keep (K67.ff HM.out), r2.op HM.out hc7 (by omega) K67, r3, r4.ff_trans (K67.ff HM.out)⟩)
              clear HW hc7 hk7 R HC6 HK6
              go_wp2_with fail
              go_roundw
              case rel => exact R7.out
              case measure => simp [intOf]; omega
        · obtain rfl : k = 4 := by omega
          have hl4 := HL.out
          have hne : ds ≠ [] := by intro e; rw [e] at hl4; cases hl4
          have HMK := Lib.hid (mark_walk hv hfl hne (by omega) (by omega) (by decide))
          rw [hl4] at HMK
          have R := Lib.hid (And.intro hv hK)
          have HNE := Lib.hid hne
          have hw3 : w.heap.size ≤ w2.heap.size + 1 := by omega
          clear hv hfl hK hbv hl4 hne hlt hk
          go_wp2_with fail
          refine HMK.out.mono ?_
          rintro e6 w6 ⟨rfl, hf6, hk6⟩
          have HSV := Lib.hid (asave_walk (R.out.1.keep hk6) hf6 HNE.out (by have := HL.out; omega) (by rw [HL.out]) (by have := HL.out; omega) (by decide))
          have R6 := Lib.hid (R.out.2.ff_trans hk6)
          clear HMK hf6 hk6 R
          go_wp2_with fail
          refine HSV.out.mono ?_
          rintro e7 w7 ⟨rfl, hv7, hf7, hk7⟩
          rw [HL.out] at hf7
          have R7 := Lib.hid (And.intro hv7 (And.intro hf7 (R6.out.trans hk7 (fun i hi => hi.elim (fun e => .inr (by rw [e]; exact hw3)) .inl))))
          clear HSV hv7 hf7 hk7 R6
          go_wp2_with fail
          go_ret2
          exact ⟨_, _, _, _, _, _, rfl, R7.out.1, R7.out.2.1, R7.out.2.2⟩

end Go.Proofs.YtdilchcnfnfdiaaGreatDoor
