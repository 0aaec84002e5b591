/-
  What (*fair.row).add leans on: a row in memory, and how it is carried.
-/
import Derived.Test.YtciiihiklobkaaaMeasE
import Derived.Deep.AppendLies
import Derived.Deep.RegionHeld3
namespace Go.Proofs.Ytciiihiklobkaaa.Meas
open Go.RowKit
set_option linter.unusedVariables false
set_option linter.unusedSimpArgs false

def smpCells (s : Smp) (A : Option Addr) (c : Nat) : List Value := [.int .i64 s.kind, .int .i64 s.a, .int .i64 s.ns, .slice A s.act.length c, .int .i64 s.g, .bool s.safe]
def flat (ss : List Smp) (As : Nat → Option Addr) (Cs : Nat → Nat) : Nat → List Value
  | 0 => []
  | k + 1 => flat ss As Cs k ++ smpCells (sm ss k) (As k) (Cs k)
theorem flat_length (ss : List Smp) (As : Nat → Option Addr) (Cs : Nat → Nat) : ∀ k, (flat ss As Cs k).length = k * 6
  | 0 => rfl
  | k + 1 => by
    have := flat_length ss As Cs k
    simp only [flat, List.length_append, this, smpCells, List.length_cons, List.length_nil]
    omega
theorem flat_get (ss : List Smp) (As : Nat → Option Addr) (Cs : Nat → Nat) : ∀ k j f, j < k → f < 6 → (flat ss As Cs k)[j * 6 + f]? = (smpCells (sm ss j) (As j) (Cs j))[f]?
  | 0, j, f, h, _ => absurd h (by omega)
  | k + 1, j, f, h, hf => by
    have hl := flat_length ss As Cs k
    unfold flat
    rcases Nat.lt_or_ge j k with h1 | h1
    · rw [List.getElem?_append_left (by omega)]
      exact flat_get ss As Cs k j f h1 hf
    · obtain rfl : j = k := by omega
      rw [List.getElem?_append_right (by omega), hl, show j * 6 + f - j * 6 = f from by omega]
theorem smp_one (s : Smp) (A : Option Addr) (c : Nat) : ∀ u ∈ smpCells s A c, u.oneCell' = true := by
  intro u hu
  simp only [smpCells, List.mem_cons, List.not_mem_nil, or_false] at hu
  rcases hu with rfl | rfl | rfl | rfl | rfl | rfl <;> rfl

/-- Block b holds no cells (a map, or one's iterator). -/
def NC (w : World) (b : Nat) : Prop := ∀ c e f, w.heap[b]? ≠ some (.cells c e f)
theorem nc_map {w : World} {b n : Nat} {f : Int → Option Int} (h : MapI w b n f) : NC w b := by
  intro c e g hc
  obtain ⟨D, ⟨es, l, h1, h2⟩, hv⟩ := h
  rw [h1] at hc
  cases hc
theorem nc_iter {w : World} {b r n cnt : Nat} {f : Int → Option Int} {left : Int → Bool} (h : RangeI w b r n f left cnt) : NC w r := by
  intro c e g hc
  obtain ⟨D, lf, ⟨es, clock, since, seen, c0, h1, h2, h3, h4, h5, _⟩, hv⟩ := h
  rw [h5] at hc
  cases hc
theorem nc_cell {w w' : World} {b : Nat} (h : NC w b) (hg : w.grownBy w' (some b)) {a : Addr} {v : Value} (hc : w.cell? a = some v) : w'.cell? a = some v := by
  have hne : b ≠ a.block := by
    intro e
    unfold World.cell? at hc
    split at hc
    · rename_i hb; exact h _ _ _ (by rw [e]; exact hb)
    · cases hc
  have hb := hg.block a.block (World.block_lt_of_cell? w a hc) (by intro e; injection e with e; exact hne e.symm)
  simpa [World.cell?, hb] using hc
theorem nc_frozen {w w' : World} {b : Nat} (h : NC w b) (hg : w.grownBy w' (some b)) {r f f2 : Nat} {v : Value} (hc : w.cell? ⟨r, f2, none⟩ = some v) (hz : w.frozen? ⟨r, f, none⟩ = false) : w'.frozen? ⟨r, f, none⟩ = false := by
  have hne : b ≠ r := by
    intro e
    unfold World.cell? at hc
    split at hc
    · rename_i hb; exact h _ _ _ (by rw [e]; exact hb)
    · cases hc
  have hb := hg.block r (World.block_lt_of_cell? w _ hc) (by intro e; injection e with e; exact hne e.symm)
  exact (World.frozen?_of_block hb).trans hz
theorem far_frozen {w w' : World} {row : Option Nat} (hg : w.grownBy w' row) {r f f2 : Nat} {v : Value} (hne : some r ≠ row) (hc : w.cell? ⟨r, f2, none⟩ = some v) (hz : w.frozen? ⟨r, f, none⟩ = false) : w'.frozen? ⟨r, f, none⟩ = false :=
  (World.frozen?_of_block (hg.block r (World.block_lt_of_cell? w _ hc) hne)).trans hz
theorem same_frozen {w w' : World} (hg : w.grownBy w' none) {r f f2 : Nat} {v : Value} (hc : w.cell? ⟨r, f2, none⟩ = some v) (hz : w.frozen? ⟨r, f, none⟩ = false) : w'.frozen? ⟨r, f, none⟩ = false := far_frozen hg (by simp) hc hz
theorem nc_own {w w' : World} {b base n size : Nat} {e : TypeId} {v : Value} {xs : List Value} (h : NC w b) (hg : w.grownBy w' (some b)) (ho : w.ownsRow base e size v n xs) : w'.ownsRow base e size v n xs := by
  refine ho.kept hg ?_
  rcases ho.2 with ⟨rfl, _⟩ | ⟨g, cap, cur, rfl, hb, hgg, rest⟩
  · exact .inl rfl
  · refine .inr ?_
    intro e2
    have : g = b := by simpa [Value.ownBlock] using e2
    subst this
    exact h _ _ _ hgg
theorem grown_nc {w w' : World} {b b2 : Nat} (h : NC w b) (hb : b < w.heap.size) (hg : w.grownBy w' (some b2)) (hne : b ≠ b2) : NC w' b := by
  intro c e f hc
  rw [hg.block b hb (by intro e; injection e with e; exact hne e)] at hc
  exact h _ _ _ hc

/-- A row in memory, its maps and its last number aside; and a sample's box. -/
structure Frm (w00 w : World) (rb sz b1 b2 b3 l wd k : Nat) (v : Value) (s : Smp) (A : Option Addr) (c : Nat) (xs : List Value) : Prop where
  below : Below w00.heap.size w00 w
  e0 : w.cell? ⟨rb, 0, none⟩ = some (.int .i64 wd)
  e1 : w.cell? ⟨rb, 1, none⟩ = some (.int .i64 l)
  e2 : w.cell? ⟨rb, 2, none⟩ = some v
  e3 : w.cell? ⟨rb, 3, none⟩ = some (.map (some b1))
  e4 : w.cell? ⟨rb, 4, none⟩ = some (.map (some b2))
  e5 : w.cell? ⟨rb, 5, none⟩ = some (.map (some b3))
  d0 : w.cell? ⟨sz, 0, none⟩ = some (.int .i64 s.kind)
  d1 : w.cell? ⟨sz, 1, none⟩ = some (.int .i64 s.a)
  d2 : w.cell? ⟨sz, 2, none⟩ = some (.int .i64 s.ns)
  d3 : w.cell? ⟨sz, 3, none⟩ = some (.slice A s.act.length c)
  d4 : w.cell? ⟨sz, 4, none⟩ = some (.int .i64 s.g)
  d5 : w.cell? ⟨sz, 5, none⟩ = some (.bool s.safe)
  own : w.ownsRow w00.heap.size 28 6 v k xs
  zf : ∀ f, w.frozen? ⟨rb, f, none⟩ = false
section
variable {w00 w w' : World} {rb sz b1 b2 b3 l wd k : Nat} {v : Value} {s : Smp} {A : Option Addr} {c : Nat} {xs : List Value}
theorem Frm.turn (h : Frm w00 w rb sz b1 b2 b3 l wd k v s A c xs) {b : Nat} (hn : NC w b) (hb : w00.heap.size ≤ b) (hg : w.grownBy w' (some b)) : Frm w00 w' rb sz b1 b2 b3 l wd k v s A c xs :=
  ⟨h.below.grown hg h.below.size (fun j e => by injection e with e; omega), nc_cell hn hg h.e0, nc_cell hn hg h.e1, nc_cell hn hg h.e2, nc_cell hn hg h.e3, nc_cell hn hg h.e4, nc_cell hn hg h.e5,
    nc_cell hn hg h.d0, nc_cell hn hg h.d1, nc_cell hn hg h.d2, nc_cell hn hg h.d3, nc_cell hn hg h.d4, nc_cell hn hg h.d5, nc_own hn hg h.own, fun f => nc_frozen hn hg h.e2 (h.zf f)⟩
theorem cell_same {a : Addr} {u : Value} (hg : w.grownBy w' none) (hc : w.cell? a = some u) : w'.cell? a = some u := by
  have hb := hg.block a.block (World.block_lt_of_cell? w a hc) (by simp)
  simpa [World.cell?, hb] using hc
theorem Frm.same (h : Frm w00 w rb sz b1 b2 b3 l wd k v s A c xs) (hg : w.grownBy w' none) : Frm w00 w' rb sz b1 b2 b3 l wd k v s A c xs :=
  ⟨h.below.grown hg h.below.size (fun j e => by cases e), cell_same hg h.e0, cell_same hg h.e1, cell_same hg h.e2, cell_same hg h.e3, cell_same hg h.e4, cell_same hg h.e5,
    cell_same hg h.d0, cell_same hg h.d1, cell_same hg h.d2, cell_same hg h.d3, cell_same hg h.d4, cell_same hg h.d5, h.own.kept hg (by cases v.ownBlock <;> simp), fun f => same_frozen hg h.e2 (h.zf f)⟩
end
end Go.Proofs.Ytciiihiklobkaaa.Meas
