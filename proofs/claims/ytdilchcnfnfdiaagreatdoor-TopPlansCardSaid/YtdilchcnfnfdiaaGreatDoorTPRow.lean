/- Layer 15: a row in memory; the small functions that look at it. -/
import Derived.Test.YtdilchcnfnfdiaaGreatDoorTPBools
namespace Go.Proofs.YtdilchcnfnfdiaaGreatDoor
open Go.RowKit

/-- A row: so many data columns, which are written, which roles are lost. -/
structure RowV (w : World) (n : Nat) (wv lv : Value) (ws ls : List Bool) : Prop where
  wr : RdB w wv ws
  lo : RdB w lv ls
  wl : ws.length = n
  ll : ls.length = n + 2
  n8 : n ≤ 8
theorem RowV.ext {w w' : World} {n : Nat} {wv lv : Value} {ws ls : List Bool} (r : RowV w n wv lv ws ls) (e : Ext w w') : RowV w' n wv lv ws ls := ⟨r.wr.ext e, r.lo.ext e, r.wl, r.ll, r.n8⟩
def rowObj (n : Nat) (wv lv : Value) : Obj := .cells #[num n, wv, lv] 122

/-- A bool of a list in memory, at an address that the walk spells. -/
theorem RdB.get {w : World} {v : Value} {xs : List Bool} (h : RdB w v xs) {i : Nat} (hi : i < xs.length) : ∃ x cap b, v = .slice (some x) xs.length cap ∧ xs.length ≤ cap ∧ b = xs.getD i false ∧ w.cell? (x.add i) = some (.bool b) := by
  obtain ⟨A, cap, hv, hc, hA⟩ := h
  obtain ⟨x, rfl, hcell⟩ := hA i hi
  exact ⟨x, cap, _, hv, hc, rfl, hcell⟩

section
variable {w : World} {c n : Nat} {wv lv : Value} {ws ls : List Bool} (hb : w.heap[c]? = some (rowObj n wv lv)) (r : RowV w n wv lv ws ls)
include hb r

theorem lost_walk (i : Nat) (hi : i < n + 2) :
    Calls Tryz.prog 136 #[num i, ptr c] w fun e w' => e = .returned (.bool (ls.getD i false)) ∧ w' = w := by
  obtain ⟨x, cap, b, rfl, hcap, hbe, hc⟩ := r.lo.get (i := i) (by rw [r.ll]; exact hi)
  have c2 : w.cell? ⟨c, 2, none⟩ = some (.slice (some x) ls.length cap) := by rw [cell_blk hb]; rfl
  have hl : i < ls.length := by rw [r.ll]; exact hi
  have hn := r.n8
  have hll : ls.length ≤ 10 := by rw [r.ll]; omega
  rw [← hbe]
  clear hb r hbe
  go_enter Tryz.func136, Tryz.ntmps136
  go_wp2
  go_ret
  exact ⟨rfl, rfl⟩

theorem whole1_walk (i : Nat) (d : Bool) (hi : i < n + 2) :
    Calls Tryz.prog 137 #[num i, .bool d, ptr c] w fun e w' => e = .returned (.bool (!ls.getD i false)) ∧ w' = w := by
  obtain ⟨x, cap, b, rfl, hcap, hbe, hc⟩ := r.lo.get (i := i) (by rw [r.ll]; exact hi)
  have c2 : w.cell? ⟨c, 2, none⟩ = some (.slice (some x) ls.length cap) := by rw [cell_blk hb]; rfl
  have hl : i < ls.length := by rw [r.ll]; exact hi
  have hn := r.n8
  have hll : ls.length ≤ 10 := by rw [r.ll]; omega
  rw [← hbe]
  clear hb r hbe
  cases b <;> (
    go_enter Tryz.func137, Tryz.ntmps137
    go_wp2
    go_ret
    exact ⟨rfl, rfl⟩)

/-- Choose's, and modify's second. -/
def keepP (ws ls : List Bool) (d : Bool) (i : Nat) : Bool := !ls.getD i false && (!d || ws.getD i false)
theorem choose1_walk (i : Nat) (d : Bool) (hi : i < n + 2) (hd : d = true → i < n) :
    Calls Tryz.prog 61 #[num i, .bool d, ptr c] w fun e w' => e = .returned (.bool (keepP ws ls d i)) ∧ w' = w := by
  obtain ⟨x, cap, b, rfl, hcap, hbe, hc⟩ := r.lo.get (i := i) (by rw [r.ll]; exact hi)
  have c2 : w.cell? ⟨c, 2, none⟩ = some (.slice (some x) ls.length cap) := by rw [cell_blk hb]; rfl
  have c1 : w.cell? ⟨c, 1, none⟩ = some wv := by rw [cell_blk hb]; rfl
  have hl : i < ls.length := by rw [r.ll]; exact hi
  have hn := r.n8
  have hll : ls.length ≤ 10 := by rw [r.ll]; omega
  have hwl : ws.length ≤ 8 := by rw [r.wl]; omega
  unfold keepP
  rw [← hbe]
  cases d with
  | false =>
    clear hb r hbe hd
    cases b <;> (
      go_enter Tryz.func61, Tryz.ntmps61
      go_wp2
      go_ret
      exact ⟨rfl, rfl⟩)
  | true =>
    obtain ⟨x', cap', b', rfl, hcap', hbe', hc'⟩ := r.wr.get (i := i) (by rw [r.wl]; exact hd rfl)
    have hl' : i < ws.length := by rw [r.wl]; exact hd rfl
    rw [← hbe']
    clear hb r hbe hbe' hd
    cases b <;> cases b' <;> (
      go_enter Tryz.func61, Tryz.ntmps61
      go_wp2
      go_ret
      exact ⟨rfl, rfl⟩)
theorem modify2_walk (i : Nat) (d : Bool) (hi : i < n + 2) (hd : d = true → i < n) :
    Calls Tryz.prog 133 #[num i, .bool d, ptr c] w fun e w' => e = .returned (.bool (keepP ws ls d i)) ∧ w' = w := by
  obtain ⟨x, cap, b, rfl, hcap, hbe, hc⟩ := r.lo.get (i := i) (by rw [r.ll]; exact hi)
  have c2 : w.cell? ⟨c, 2, none⟩ = some (.slice (some x) ls.length cap) := by rw [cell_blk hb]; rfl
  have c1 : w.cell? ⟨c, 1, none⟩ = some wv := by rw [cell_blk hb]; rfl
  have hl : i < ls.length := by rw [r.ll]; exact hi
  have hn := r.n8
  have hll : ls.length ≤ 10 := by rw [r.ll]; omega
  have hwl : ws.length ≤ 8 := by rw [r.wl]; omega
  unfold keepP
  rw [← hbe]
  cases d with
  | false =>
    clear hb r hbe hd
    cases b <;> (
      go_enter Tryz.func133, Tryz.ntmps133
      go_wp2
      go_ret
      exact ⟨rfl, rfl⟩)
  | true =>
    obtain ⟨x', cap', b', rfl, hcap', hbe', hc'⟩ := r.wr.get (i := i) (by rw [r.wl]; exact hd rfl)
    have hl' : i < ws.length := by rw [r.wl]; exact hd rfl
    rw [← hbe']
    clear hb r hbe hbe' hd
    cases b <;> cases b' <;> (
      go_enter Tryz.func133, Tryz.ntmps133
      go_wp2
      go_ret
      exact ⟨rfl, rfl⟩)

def goneP (ws ls : List Bool) (d : Bool) (i : Nat) : Bool := d && ws.getD i false && ls.getD i false
theorem modify1_walk (i : Nat) (d : Bool) (hi : i < n + 2) (hd : d = true → i < n) :
    Calls Tryz.prog 132 #[num i, .bool d, ptr c] w fun e w' => e = .returned (.bool (goneP ws ls d i)) ∧ w' = w := by
  obtain ⟨x, cap, b, rfl, hcap, hbe, hc⟩ := r.lo.get (i := i) (by rw [r.ll]; exact hi)
  have c2 : w.cell? ⟨c, 2, none⟩ = some (.slice (some x) ls.length cap) := by rw [cell_blk hb]; rfl
  have c1 : w.cell? ⟨c, 1, none⟩ = some wv := by rw [cell_blk hb]; rfl
  have hl : i < ls.length := by rw [r.ll]; exact hi
  have hn := r.n8
  have hll : ls.length ≤ 10 := by rw [r.ll]; omega
  have hwl : ws.length ≤ 8 := by rw [r.wl]; omega
  unfold goneP
  rw [← hbe]
  cases d with
  | false =>
    clear hb r hbe hd
    go_enter Tryz.func132, Tryz.ntmps132
    go_wp2
    go_ret
    exact ⟨rfl, rfl⟩
  | true =>
    obtain ⟨x', cap', b', rfl, hcap', hbe', hc'⟩ := r.wr.get (i := i) (by rw [r.wl]; exact hd rfl)
    have hl' : i < ws.length := by rw [r.wl]; exact hd rfl
    rw [← hbe']
    clear hb r hbe hbe' hd
    cases b <;> cases b' <;> (
      go_enter Tryz.func132, Tryz.ntmps132
      go_wp2
      go_ret
      exact ⟨rfl, rfl⟩)

def restP (ws : List Bool) (d : Bool) (i : Nat) : Bool := d && !ws.getD i false
theorem rebuild1_walk (i : Nat) (d : Bool) (hd : d = true → i < n) :
    Calls Tryz.prog 134 #[num i, .bool d, ptr c] w fun e w' => e = .returned (.bool (restP ws d i)) ∧ w' = w := by
  have c1 : w.cell? ⟨c, 1, none⟩ = some wv := by rw [cell_blk hb]; rfl
  have hn := r.n8
  have hwl : ws.length ≤ 8 := by rw [r.wl]; omega
  unfold restP
  cases d with
  | false =>
    clear hb r hd
    go_enter Tryz.func134, Tryz.ntmps134
    go_wp2
    go_ret
    exact ⟨rfl, rfl⟩
  | true =>
    obtain ⟨x', cap', b', rfl, hcap', hbe', hc'⟩ := r.wr.get (i := i) (by rw [r.wl]; exact hd rfl)
    have hl' : i < ws.length := by rw [r.wl]; exact hd rfl
    rw [← hbe']
    clear hb r hbe' hd
    cases b' <;> (
      go_enter Tryz.func134, Tryz.ntmps134
      go_wp2
      go_ret
      exact ⟨rfl, rfl⟩)
end

end Go.Proofs.YtdilchcnfnfdiaaGreatDoor
