/- The sum: More, Sum, bytes. -/
import Derived.Test.YtdilchcnfnfdiaaGreatDoorTCrcA
namespace Go.Proofs.YtdilchcnfnfdiaaGreatDoor
open Go.RowKit

/-- The sum's state in memory. -/
structure CrcS (w : World) (xb tb x : Nat) : Prop where
  hx : w.heap[xb]? = some (.cells #[.int .u32 (x : Int)] 80)
  ht : w.heap[tb]? = some (.cells (tabCells 16) 173)
  ne : xb ≠ tb
  lt : x < two32
theorem CrcS.set {w : World} {xb tb x : Nat} (h : CrcS w xb tb x) (y : Nat) (hy : y < two32) : CrcS (w.setCell ⟨xb, 0, none⟩ (.int .u32 (y : Int))) xb tb y :=
  ⟨set_blk h.hx 0 _, (set_far (a := ⟨xb, 0, none⟩) (fun e => h.ne e.symm) (.int .u32 (y : Int))).trans h.ht, h.ne, hy⟩
theorem CrcS.ext_drew {w : World} {xb tb x : Nat} (h : CrcS w xb tb x) : CrcS w.drew xb tb x := ⟨h.hx, h.ht, h.ne, h.lt⟩
theorem and15 (x : Nat) (hx : x < two32) : bits BinOp.and IntKind.u32 (x : Int) 15 = ((x % 16 : Nat) : Int) := by
  have h := u32_and_nat x 15 hx (by decide)
  rw [show (15 : Nat) = 2 ^ 4 - 1 from rfl, Nat.and_two_pow_sub_one_eq_mod] at h
  exact h
theorem half_val (x : Nat) (hx : x < two32) : bits BinOp.xor IntKind.u32 ((x : Int) / 16) (crcT (x % 16) : Int) = (crcHalf x : Int) := by
  have hx' : x < 4294967296 := hx
  have h3 : (x : Int) / 16 = ((x / 16 : Nat) : Int) := by omega
  rw [h3, u32_xor_nat _ _ (by omega) (crcT_lt (Nat.mod_lt _ (by decide)))]
  rfl

set_option maxRecDepth 100000 in
theorem half_walk {w : World} {xb tb x : Nat} (h : CrcS w xb tb x) : Calls Tryz.prog 106 #[ptr xb, ptr tb] w fun e w' => e = .returned (.tuple #[]) ∧ CrcS w' xb tb (crcHalf x) ∧ Keeps (fun b => b = xb) w w' := by
  have c0 : w.cell? ⟨xb, 0, none⟩ = some (.int .u32 (x : Int)) := by rw [cell_blk h.hx]; rfl
  have f0 := free_blk h.hx 0
  have hm : x % 16 < 16 := Nat.mod_lt _ (by decide)
  have c1 : w.cell? ⟨tb, x % 16, none⟩ = some (.int .u32 (crcT (x % 16) : Int)) := by rw [cell_blk h.ht, tabCells_at 16 _ hm, if_pos hm]
  have ha := and15 x h.lt
  have hv := half_val x h.lt
  have hs := (h.ext_drew).set (crcHalf x) (crcHalf_lt h.lt)
  have R := Lib.hid (And.intro hs ((Keeps.refl (fun b => b = xb) w).drew.set (p := ⟨xb, 0, none⟩) (.inl rfl) (.int .u32 (crcHalf x : Int))))
  have hs1 : (w.drew.setCell ⟨xb, 0, none⟩ (.int .u32 (crcHalf x : Int))).cell? ⟨xb, 0, none⟩ = some (.int .u32 (crcHalf x : Int)) := by rw [cell_blk hs.hx]; rfl
  clear h hs
  generalize x % 16 = r at hm c1 ha hv
  generalize crcT r = y at c1 hv
  generalize crcHalf x = z at hv R hs1
  have hri : (0 : Int) ≤ (r : Int) := by omega
  have hri2 : (r : Int) < 16 := by omega
  go_enter Tryz.func106, Tryz.ntmps106
  go_still_tail 7, (by kernel_rfl)
  go_wp2_with fail
  go_end0
  exact ⟨rfl, R.out⟩

theorem secOf_at (s : ByteArray) (k : Nat) (h : k < s.size) : (secOf s)[k]? = some s[k].toNat := by
  have h' : k < s.data.size := h
  unfold secOf
  rw [List.getElem?_map, Array.getElem?_toList, Array.getElem?_eq_getElem h']
  rfl
theorem secOf_lt (s : ByteArray) : ∀ b ∈ secOf s, b < 256 := by
  intro b hb
  obtain ⟨x, _, rfl⟩ := List.mem_map.1 hb
  exact UInt8.toNat_lt x

def MoreRel (w : World) (xb tb x0 : Nat) (s : ByteArray) (i : Value) (wr : World) : Prop := ∃ k : Nat, k ≤ s.size ∧ i = num k ∧ CrcS wr xb tb (crcRun x0 ((secOf s).take k)) ∧ Ext w wr

theorem not_val (n : Nat) (hn : n < two32) : bits BinOp.xor IntKind.u32 IntKind.u32.max (n : Int) = ((4294967295 - n : Nat) : Int) := by
  have hn' : n < 4294967296 := hn
  have h := u32_xor_nat 4294967295 n (by decide) hn'
  have e : 4294967295 ^^^ n = 4294967295 - n := by
    have h2 : 2 ^ 32 - (n + 1) = 4294967295 - n := by omega
    rw [← h2]
    apply Nat.eq_of_testBit_eq
    intro i
    rw [Nat.testBit_two_pow_sub_succ (by omega), Nat.testBit_xor, show (4294967295 : Nat) = 2 ^ 32 - 1 from rfl, Nat.testBit_two_pow_sub_one]
    by_cases hi : i < 32
    · simp [hi]
    · have : n.testBit i = false := Nat.testBit_lt_two_pow (Nat.lt_of_lt_of_le hn' (Nat.pow_le_pow_right (n := 2) (i := 32) (by decide) (by omega)))
      simp [hi, this]
  rw [e] at h
  exact h
theorem tab_fill (b : Nat) (w : World) (Z : Array Value) (hZ : Z.size = 16) (hb : w.heap[b]? = some (.cells Z 173)) :
    w.there b 0 (tabCells 16).size ∧ (w.setCells b 0 (tabL 16)).heap[b]? = some (.cells (tabCells 16) 173) := by
  have hl : (tabL 16).length = 16 := by simp [tabL]
  refine ⟨fun j hj => ⟨?_, free_blk hb _⟩, ?_⟩
  · have hj : j < 16 := by simpa [tabCells, tabL] using hj
    rw [cell_blk hb, Nat.zero_add, Array.getElem?_eq_getElem (by omega)]
    rfl
  · obtain ⟨cs', h1, h2, h3⟩ := setCells_blk b 173 (tabL 16) 0 w Z hb (by omega)
    have hcs : cs' = tabCells 16 := by
      apply Array.ext_getElem?
      intro i
      rw [h3 i, hl]
      by_cases hi : i < 16
      · rw [if_pos (by omega), Nat.sub_zero, tabCells, List.getElem?_toArray]
      · rw [if_neg (by omega), Array.getElem?_eq_none (by omega), Array.getElem?_eq_none (by rw [tabCells, List.size_toArray]; omega)]
    rw [h1, hcs]
theorem tab_made {w w1 : World} (e : Ext w w1) : (w1.alloc (.cells #[Value.int IntKind.u32 0, Value.int IntKind.u32 0, Value.int IntKind.u32 0, Value.int IntKind.u32 0, Value.int IntKind.u32 0, Value.int IntKind.u32 0, Value.int IntKind.u32 0, Value.int IntKind.u32 0, Value.int IntKind.u32 0, Value.int IntKind.u32 0, Value.int IntKind.u32 0, Value.int IntKind.u32 0, Value.int IntKind.u32 0, Value.int IntKind.u32 0, Value.int IntKind.u32 0, Value.int IntKind.u32 0] 173)).there w1.heap.size 0 (tabCells 16).size ∧
    ((w1.alloc (.cells #[Value.int IntKind.u32 0, Value.int IntKind.u32 0, Value.int IntKind.u32 0, Value.int IntKind.u32 0, Value.int IntKind.u32 0, Value.int IntKind.u32 0, Value.int IntKind.u32 0, Value.int IntKind.u32 0, Value.int IntKind.u32 0, Value.int IntKind.u32 0, Value.int IntKind.u32 0, Value.int IntKind.u32 0, Value.int IntKind.u32 0, Value.int IntKind.u32 0, Value.int IntKind.u32 0, Value.int IntKind.u32 0] 173)).setCells w1.heap.size 0 (tabCells 16).toList).heap[w1.heap.size]? = some (.cells (tabCells 16) 173) ∧
    Ext w ((w1.alloc (.cells #[Value.int IntKind.u32 0, Value.int IntKind.u32 0, Value.int IntKind.u32 0, Value.int IntKind.u32 0, Value.int IntKind.u32 0, Value.int IntKind.u32 0, Value.int IntKind.u32 0, Value.int IntKind.u32 0, Value.int IntKind.u32 0, Value.int IntKind.u32 0, Value.int IntKind.u32 0, Value.int IntKind.u32 0, Value.int IntKind.u32 0, Value.int IntKind.u32 0, Value.int IntKind.u32 0, Value.int IntKind.u32 0] 173)).setCells w1.heap.size 0 (tabCells 16).toList) := by
  rw [show (tabCells 16).toList = tabL 16 from rfl]
  obtain ⟨h1, h2⟩ := tab_fill w1.heap.size (w1.alloc (.cells #[Value.int IntKind.u32 0, Value.int IntKind.u32 0, Value.int IntKind.u32 0, Value.int IntKind.u32 0, Value.int IntKind.u32 0, Value.int IntKind.u32 0, Value.int IntKind.u32 0, Value.int IntKind.u32 0, Value.int IntKind.u32 0, Value.int IntKind.u32 0, Value.int IntKind.u32 0, Value.int IntKind.u32 0, Value.int IntKind.u32 0, Value.int IntKind.u32 0, Value.int IntKind.u32 0, Value.int IntKind.u32 0] 173)) _ rfl (alloc_new w1 _)
  exact ⟨h1, h2, Ext.setCells_new _ e.size _ _ (e.alloc _)⟩

set_option maxRecDepth 100000 in
theorem more_walk (n : Nat) (s : ByteArray) (w : World) (hn : n < two32) (hs : s.size ≤ 1048576) : Calls Tryz.prog 68 #[.int .u32 n, .string s] w fun e w' => e = .returned (.int .u32 ((4294967295 - crcRun (4294967295 - n) (secOf s) : Nat) : Int)) ∧ Ext w w' := by
  have hsi : (s.size : Int) ≤ 1048576 := by omega
  have hsg : IntKind.u32.signed = false := rfl
  have hmx := not_val n hn
  have HT := Lib.hid (table_walk w)
  have hinf2 : (Tryz.prog.info? 173).map (·.size) = some (tabCells 16).size := by kernel_rfl
  have hone : (tabCells 16).all (·.oneCell') = true := by kernel_rfl
  have HH := Lib.hid (And.intro hinf2 hone)
  clear hinf2 hone
  go_enter Tryz.func68, Tryz.ntmps68
  go_wp2_with fail
  refine HT.out.mono ?_
  rintro e w1 ⟨rfl, e1⟩
  clear HT
  obtain ⟨hth, hf2, hf3⟩ := tab_made e1
  have HT := Lib.hid hth
  have HF := Lib.hid (And.intro hf2 hf3)
  clear hth hf2 hf3 e1
  go_wp2_with (refine wpList_store_mid rfl 173 (.tmp 5) (.tmp 9) rfl w1.heap.size 0 (tabCells 16) rfl rfl HT.out HH.out.1 HH.out.2 ?_; generalize World.setCells (w1.alloc (.cells #[Value.int IntKind.u32 0, Value.int IntKind.u32 0, Value.int IntKind.u32 0, Value.int IntKind.u32 0, Value.int IntKind.u32 0, Value.int IntKind.u32 0, Value.int IntKind.u32 0, Value.int IntKind.u32 0, Value.int IntKind.u32 0, Value.int IntKind.u32 0, Value.int IntKind.u32 0, Value.int IntKind.u32 0, Value.int IntKind.u32 0, Value.int IntKind.u32 0, Value.int IntKind.u32 0, Value.int IntKind.u32 0] 173)) w1.heap.size 0 (tabCells 16).toList = w2 at HF ⊢; clear HT HH)
  have hf := HF.out
  have B0 := Lib.hid (show CrcS (w2.alloc (.cells #[.int .u32 ((4294967295 - n : Nat) : Int)] 80)) w2.heap.size w1.heap.size (4294967295 - n) from
    ⟨alloc_new w2 _, alloc_old _ hf.1, by have := block_lt hf.1; omega, by unfold two32; omega⟩)
  have E0 := Lib.hid (hf.2.alloc (.cells #[.int .u32 ((4294967295 - n : Nat) : Int)] 80))
  have HG := Lib.hid (show w.heap.size ≤ w2.heap.size from hf.2.size)
  have hx0 : 4294967295 - n < two32 := by unfold two32; omega
  clear hf HF hmx hsg
  obtain ⟨x0, hx0e⟩ : ∃ x0, 4294967295 - n = x0 := ⟨_, rfl⟩
  rw [hx0e] at B0 E0 hx0 ⊢
  go_loopw [15] (fun i wr => MoreRel w w2.heap.size w1.heap.size x0 s i wr) (fun i _ => s.size - (intOf i).toNat)
  case atStart => exact ⟨0, Nat.zero_le _, rfl, B0.out, E0.out⟩
  case round =>
    obtain ⟨k, hk, rfl, hs, he⟩ := hrel
    clear B0 E0
    by_cases hlt : k < s.size
    · have hb := secOf_at s k hlt
      have hbl := UInt8.toNat_lt s[k]
      have hst := crcRun_take (x := x0) hb
      obtain ⟨x, hx⟩ : ∃ x, crcRun x0 ((secOf s).take k) = x := ⟨_, rfl⟩
      rw [hx] at hs hst
      clear hb hx
      obtain ⟨b, hb⟩ : ∃ b, s[k].toNat = b := ⟨_, rfl⟩
      rw [hb] at hst hbl
      have HST := Lib.hid (show crcRun x0 ((secOf s).take (k + 1)) = crcHalf (crcHalf (x ^^^ b)) from hst)
      have hbw : IntKind.u32.wrap (b : Int) = b := by rw [IntKind.wrap_u32]; omega
      have c0 : wr.cell? ⟨w2.heap.size, 0, none⟩ = some (.int .u32 (x : Int)) := by rw [cell_blk hs.hx]; rfl
      have f0 := free_blk hs.hx 0
      have hxv : bits BinOp.xor IntKind.u32 (x : Int) (b : Int) = ((x ^^^ b : Nat) : Int) := u32_xor_nat x b hs.lt (by omega)
      have HS := Lib.hid (hs.ext_drew.set (x ^^^ b) (xor_byte_lt hs.lt hbl))
      have HE := Lib.hid (he.drew.set (p := ⟨w2.heap.size, 0, none⟩) HG.out (.int .u32 ((x ^^^ b : Nat) : Int)))
      clear hs he hst hbl
      generalize x ^^^ b = y at hxv HS HE HST
      go_wp2_with fail
      go_still_tail 6, (by kernel_rfl)
      go_wp2_with fail
      have H1 := Lib.hid (half_walk (w := (wr.setCell ⟨w2.heap.size, 0, none⟩ (.int .u32 (y : Int))).drew) HS.out)
      have HE1 := Lib.hid (show Ext w (wr.setCell ⟨w2.heap.size, 0, none⟩ (.int .u32 (y : Int))).drew from HE.out)
      clear HS HE c0 f0
      refine H1.out.mono ?_
      rintro e w3 ⟨rfl, hs3, hk3⟩
      have he3 := HE1.out.keeps hk3 (fun i e => by rw [e]; exact HG.out)
      have H3 := Lib.hid (half_walk hs3)
      have HE3 := Lib.hid he3
      clear hs3 hk3 he3 H1 HE1
      go_wp2_with fail
      refine H3.out.mono ?_
      rintro e w4 ⟨rfl, hs4, hk4⟩
      have he4 := HE3.out.keeps hk4 (fun i e => by rw [e]; exact HG.out)
      have HS4 := Lib.hid hs4
      have HE4 := Lib.hid he4
      clear hs4 hk4 he4 H3 HE3
      go_wp2_with fail
      go_roundw
      case rel => exact ⟨k + 1, by omega, by go_num, by rw [HST.out]; exact HS4.out, HE4.out⟩
      case measure => simp [intOf]; omega
    · obtain rfl : k = s.size := by omega
      rw [List.take_of_length_le (by rw [secOf_len]; exact Nat.le_refl _)] at hs
      obtain ⟨x, hx⟩ : ∃ x, crcRun x0 (secOf s) = x := ⟨_, rfl⟩
      rw [hx] at hs
      have c0 : wr.cell? ⟨w2.heap.size, 0, none⟩ = some (.int .u32 (x : Int)) := by rw [cell_blk hs.hx]; rfl
      have hmx := not_val x hs.lt
      have hsg : IntKind.u32.signed = false := rfl
      have HE := Lib.hid he
      have HX := Lib.hid hx
      clear hs he hx
      go_wp2_with fail
      go_ret
      exact ⟨by rw [hx0e, HX.out]; rfl, HE.out⟩

theorem sum_walk (s : ByteArray) (w : World) (hs : s.size ≤ 1048576) : Calls Tryz.prog 36 #[.string s] w fun e w' => e = .returned (.int .u32 (crcSum (secOf s) : Int)) ∧ Ext w w' := by
  have HM := Lib.hid (more_walk 0 s w (by decide) hs)
  go_enter Tryz.func36, Tryz.ntmps36
  go_wp2_with fail
  refine HM.out.mono ?_
  rintro e w' ⟨rfl, he⟩
  have HE := Lib.hid he
  clear HM he
  rw [show 4294967295 - crcRun (4294967295 - 0) (secOf s) = crcSum (secOf s) from rfl]
  obtain ⟨c, hc⟩ : ∃ c, crcSum (secOf s) = c := ⟨_, rfl⟩
  rw [hc]
  have HC := Lib.hid hc
  clear hc
  go_wp2_with fail
  go_ret
  exact ⟨by rw [HC.out]; rfl, HE.out⟩

theorem bytes_walk4 (n : Nat) (w : World) : Calls Tryz.prog 35 #[.int .u32 n] w fun e w' => e = .returned (.slice (some ⟨w.heap.size, 0, none⟩) 4 4) ∧ w' = w.alloc (.cells (cellsS (bytes4 n)).toArray 5) := by
  go_enter Tryz.func35, Tryz.ntmps35
  go_wp2_with fail
  go_ret
  exact ⟨rfl, by simp [cellsS, bytes4]⟩

end Go.Proofs.YtdilchcnfnfdiaaGreatDoor
