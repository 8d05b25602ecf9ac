/- A drive in memory: what is safe, what is pending, what is spoilt. -/
import Derived.Test.YtdilchcnfnfdiaaGreatDoorTBase
namespace Go.Proofs.YtdilchcnfnfdiaaGreatDoor
open Go.RowKit Go.Maps
open Go.ChangeMaps (setBlock)

theorem keyI_mk (i : Int) (h1 : -9223372036854775808 ≤ i) (h2 : i ≤ 9223372036854775807) : keyOf Tryz.prog 3 (num i) = some (keyI i) := keyOf_int_mk Tryz.underlying3 (WalkArith.wf_i64 ⟨h1, h2⟩)
theorem keyI_ne {i j : Int} (h : j ≠ i) : keyI j ≠ keyI i := fun e => h (by injection e)

theorem Keeps.of_grown {w w' : World} {b : Nat} (h : w.grownBy w' (some b)) : Keeps (fun i => i = b) w w' := ⟨h.os, h.tape, h.output, h.size, fun k hk hne => h.block k hk (fun e => hne (by injection e))⟩
theorem Keeps.of_grownV {w w' : World} {v : Value} (h : w.grownBy w' v.ownBlock) : Keeps (fun i => v.ownBlock = some i) w w' := ⟨h.os, h.tape, h.output, h.size, fun k hk hne => h.block k hk (fun e => hne e.symm)⟩
theorem ownsMap_keep {w w' : World} {R : Value → Option (DataW Unit × List MemPlace)} {b n : Nat} {D : DataW Unit} (h : w.ownsMap Tryz.prog 3 R b n D) {F : Nat → Prop} (k : Keeps F w w') (hb : ¬ F b) : w'.ownsMap Tryz.prog 3 R b n D := by
  obtain ⟨es, clock, h1, rest⟩ := h
  exact ⟨es, clock, k.blk h1 hb, rest⟩

/-- The look-up of a number's pending sectors. -/
theorem rows_look {w : World} {m k B : Nat} {D : DataW Unit} {wr : Int → List Sec} {V : Int → Value} (h : w.ownsMap Tryz.prog 3 rowRef m k D) (r : Rows w B D wr V) (i : Int) (h1 : -9223372036854775808 ≤ i) (h2 : i ≤ 9223372036854775807) :
    (Instr.lookup 92 (.map (some m)) (num i) false).run Tryz.prog w = .ok (V i) w := by
  obtain ⟨v, ps, hrun, hv⟩ := h.lookup Tryz.intKey Tryz.uWrites (Tryz.zSecs w) rowRef_nil (keyI_mk i h1 h2)
  rw [rowRef_inj (r.at_ i) hv]
  exact hrun
theorem Rows.put {w w' : World} {B : Nat} {D : DataW Unit} {wr : Int → List Sec} {V : Int → Value} (r : Rows w B D wr V) (hm : IsMap D) (i : Int) (g n cap H : Nat) (ss : List Sec) (hss : ss ≠ [])
    (ho : OwnS w' B (.slice (some ⟨g, 0, none⟩) n cap) ss) (hk : ∀ j, j ≠ i → OwnS w' B (V j) (wr j)) (hg : (V i).ownBlock = some g ∨ g = H) (hH : ∀ j b, (V j).ownBlock = some b → b ≠ H) :
    Rows w' B (D.put (keyI i) (.agg [.lit (.int .i64 g), .lit (.int .i64 n), .lit (.int .i64 cap)])) (fun j => if j = i then ss else wr j) (fun j => if j = i then .slice (some ⟨g, 0, none⟩) n cap else V j) := by
  refine ⟨fun j => ?_, fun j => ?_, fun a b q hab hq hq' => ?_, fun j => ?_⟩
  · by_cases e : j = i
    · subst e
      rw [if_pos rfl, rowRef_some, atKey_put_same hm (show WideAt.IsKeyLit (keyI j) from trivial)]
    · rw [if_neg e, atKey_put_other (keyI_ne e)]
      exact r.at_ j
  · by_cases e : j = i
    · subst e; rw [if_pos rfl, if_pos rfl]; exact ho
    · rw [if_neg e, if_neg e]; exact hk j e
  · by_cases ea : a = i
    · subst ea
      rw [if_pos rfl] at hq
      rw [if_neg (fun e => hab e.symm)] at hq'
      have hq : g = q := by simpa [Value.ownBlock] using hq
      subst hq
      rcases hg with hg | hg
      · exact r.apart a b g hab hg hq'
      · exact hH b g hq' hg
    · rw [if_neg ea] at hq
      by_cases eb : b = i
      · subst eb
        rw [if_pos rfl] at hq'
        have hq' : g = q := by simpa [Value.ownBlock] using hq'
        subst hq'
        rcases hg with hg | hg
        · exact r.apart a b g hab hq hg
        · exact hH a g hq hg
      · rw [if_neg eb] at hq'
        exact r.apart a b q hab hq hq'
  · by_cases e : j = i
    · subst e
      rw [if_pos rfl, has_put_same hm (show WideAt.IsKeyLit (keyI j) from trivial)]
      cases ss with
      | nil => exact absurd rfl hss
      | cons _ _ => rfl
    · rw [if_neg e, has_put_other (keyI_ne e)]
      exact r.has j

abbrev drvF (d sf m sp : Nat) : Nat → Prop := fun i => i = d ∨ i = sf ∨ i = m ∨ i = sp
/-- A drive: its block d, its sectors' block sf, its two maps m, sp; W0: the world in which it was last flushed. -/
structure Pend (W0 : World) (d sf m sp n lim : Nat) (safe : Nat → Sec) (wr : Int → List Sec) (bad : Int → Bool) (w : World) : Prop where
  blk : ∃ left : Int, w.heap[d]? = some (.cells #[.slice (some ⟨sf, 0, none⟩) n n, .map (some m), .map (some sp), .bool false, num left, .bool false] 95)
  sec : ∃ cs, w.heap[sf]? = some (.cells cs 100) ∧ cs.size = n * 64 ∧ ∀ i, i < n → ∀ j v, (cellsS (safe i))[j]? = some v → cs[i * 64 + j]? = some v
  s64 : ∀ i, i < n → (safe i).length = 64
  wm : ∃ k D V, w.ownsMap Tryz.prog 3 rowRef m k D ∧ k ≤ lim ∧ IsMap D ∧ Rows w W0.heap.size D wr V
  w64 : ∀ i, ∀ s ∈ wr i, s.length = 64
  wlen : ∀ i, (wr i).length ≤ lim
  wn : ∀ i, wr i ≠ [] → 0 ≤ i ∧ i < (n : Int)
  sm : ∃ (k : Nat) (D : DataW Unit), w.ownsMap Tryz.prog 3 (plainElem Tryz.prog 4) sp k D ∧ k ≤ lim ∧ IsMap D ∧ ∀ i, D.atKey (keyI i) (.lit (.bool false)) = .lit (.bool (bad i))
  ne1 : d ≠ sf
  ne2 : d ≠ m
  ne3 : d ≠ sp
  ne4 : sf ≠ m
  ne5 : sf ≠ sp
  ne6 : m ≠ sp
  l1 : d < W0.heap.size
  l2 : sf < W0.heap.size
  l3 : m < W0.heap.size
  l4 : sp < W0.heap.size
  keeps : Keeps (drvF d sf m sp) W0 w
  nn : 1 ≤ n ∧ n ≤ 4096
  ll : lim ≤ 100000

section
variable {W0 w : World} {d sf m sp n lim : Nat} {safe : Nat → Sec} {wr : Int → List Sec} {bad : Int → Bool} (h : Pend W0 d sf m sp n lim safe wr bad w)
include h
theorem Pend.ext {w' : World} (e : Ext w w') : Pend W0 d sf m sp n lim safe wr bad w' := by
  obtain ⟨⟨left, b⟩, ⟨cs, b1, hc1⟩, s64, ⟨k, D, V, hm, hk, hD, hr⟩, w64, wlen, wn, ⟨k2, D2, hs, hk2, hD2, hb2⟩, n1, n2, n3, n4, n5, n6, l1, l2, l3, l4, kp, nn, ll⟩ := h
  exact ⟨⟨left, e.blk b⟩, ⟨cs, e.blk b1, hc1⟩, s64, ⟨k, D, V, ownsMap_keep hm e.to_keeps (fun h => h), hk, hD, hr.keep e.to_keeps (fun _ _ h => h)⟩, w64, wlen, wn,
    ⟨k2, D2, ownsMap_keep hs e.to_keeps (fun h => h), hk2, hD2, hb2⟩, n1, n2, n3, n4, n5, n6, l1, l2, l3, l4, kp.trans e.to_keeps (fun _ h => h.elim), nn, ll⟩
end

end Go.Proofs.YtdilchcnfnfdiaaGreatDoor
