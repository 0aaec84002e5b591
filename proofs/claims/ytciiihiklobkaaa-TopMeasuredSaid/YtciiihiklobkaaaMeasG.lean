/-
  (*fair.row).add by a walk.
-/
import Derived.Test.YtciiihiklobkaaaMeasL
import Derived.Deep.RegionLaw
namespace Go.Proofs.Ytciiihiklobkaaa.Meas
open Go.RowKit
set_option linter.unusedVariables false
set_option linter.unusedSimpArgs false

theorem info28 : (Try.prog.info? 28).map (fun i => (i.zero, i.size, i.bytes)) = some (some (.agg #[.int .i64 0, .int .i64 0, .int .i64 0, .slice none 0 0, .int .i64 0, .bool false]), 6, 64) := by kernel_rfl
theorem far {w w' : World} {row : Option Nat} {a : Addr} {u : Value} (hg : w.grownBy w' row) (hne : some a.block ≠ row) (hc : w.cell? a = some u) : w'.cell? a = some u := by
  have hb := hg.block a.block (World.block_lt_of_cell? w a hc) hne
  simpa [World.cell?, hb] using hc

/-- A row in memory. -/
structure Row (w00 w : World) (rb b1 b2 b3 l wd k : Nat) (v : Value) (ss : List Smp) (As : Nat → Option Addr) (Cs : Nat → Nat) : Prop where
  below : Below w00.heap.size w00 w
  e0 : w.cell? ⟨rb, 0, none⟩ = some (.int .i64 wd)
  e1 : w.cell? ⟨rb, 1, none⟩ = some (.int .i64 l)
  e2 : w.cell? ⟨rb, 2, none⟩ = some v
  e3 : w.cell? ⟨rb, 3, none⟩ = some (.map (some b1))
  e4 : w.cell? ⟨rb, 4, none⟩ = some (.map (some b2))
  e5 : w.cell? ⟨rb, 5, none⟩ = some (.map (some b3))
  e6 : w.cell? ⟨rb, 6, none⟩ = some (.int .i64 (monTo ss k))
  own : w.ownsRow w00.heap.size 28 6 v k (flat ss As Cs k)
  vr : v.ownBlock ≠ some rb
  m1 : MapI w b1 (2 * k) (runsTo ss k)
  m2 : MapI w b2 (4 * k) (sinceTo ss k)
  m3 : MapI w b3 k (lastTo ss k)
  r0 : w00.heap.size ≤ rb
  r1 : w00.heap.size ≤ b1
  r2 : w00.heap.size ≤ b2
  r3 : w00.heap.size ≤ b3
  n12 : b1 ≠ b2
  n13 : b1 ≠ b3
  n23 : b2 ≠ b3
  zf : ∀ f, w.frozen? ⟨rb, f, none⟩ = false

theorem own_lt {w : World} {base : Nat} {e : TypeId} {size n : Nat} {v : Value} {xs : List Value} (h : w.ownsRow base e size v n xs) : v.ownBlock ≠ some w.heap.size := by
  intro e2
  have := (h.lt _ e2).2
  omega
theorem own_slice {w : World} {base : Nat} {e : TypeId} {size n : Nat} {v : Value} {xs : List Value} (h : w.ownsRow base e size v n xs) : ∃ A c, v = .slice A n c := by
  rcases h.2 with ⟨rfl, rfl⟩ | ⟨g, cap, cur, rfl, _⟩
  · exact ⟨_, _, rfl⟩
  · exact ⟨_, _, rfl⟩

theorem set_grown (w : World) (b i : Nat) (u : Value) : w.grownBy (w.setCell ⟨b, i, none⟩ u) (some b) :=
  ⟨rfl, rfl, rfl, by simp [World.setCell], fun k hk hne => by
    simp only [World.setCell]
    rw [Array.getElem?_modify]
    rw [if_neg (fun e => hne (by rw [e]))]⟩
theorem cell_set {w : World} {b i : Nat} {u v : Value} {a : Addr} (hne : (⟨b, i, none⟩ : Addr) ≠ a) (hc : w.cell? a = some v) : (w.setCell ⟨b, i, none⟩ u).cell? a = some v := (World.cell?_setCell_other _ _ _ _ hne).trans hc
theorem app_done {w00 w1 w2 : World} {rb sz b1 b2 b3 l wd k gg cap : Nat} {v : Value} {s : Smp} {A : Option Addr} {c : Nat} {xs ys : List Value} (h : Frm w00 w1 rb sz b1 b2 b3 l wd k v s A c xs)
    (hg : w1.grownBy w2 v.ownBlock) (ho : w2.ownsRow w00.heap.size 28 6 (.slice (some ⟨gg, 0, none⟩) (k + 1) cap) (k + 1) ys) (hat : v.ownBlock = some gg ∨ gg = w1.heap.size + 1) (hr : v.ownBlock ≠ some rb) (hz : v.ownBlock ≠ some sz) (hrz : rb ≠ sz) (hb : w00.heap.size ≤ rb)
    (hlt : ∀ k, v.ownBlock = some k → w00.heap.size ≤ k) :
    Frm w00 (w2.setCell ⟨rb, 2, none⟩ (.slice (some ⟨gg, 0, none⟩) (k + 1) cap)) rb sz b1 b2 b3 l wd (k + 1) (.slice (some ⟨gg, 0, none⟩) (k + 1) cap) s A c ys ∧ (Value.slice (some ⟨gg, 0, none⟩) (k + 1) cap).ownBlock ≠ some rb := by
  have hr' : some rb ≠ v.ownBlock := fun e => hr e.symm
  have hz' : some sz ≠ v.ownBlock := fun e => hz e.symm
  have hgr : gg ≠ rb := by
    intro e
    rcases hat with e2 | e2
    · exact hr (by rw [e2, e])
    · have : rb < w1.heap.size := World.block_lt_of_cell? _ _ h.e2
      omega
  have hown : (Value.slice (some ⟨gg, 0, none⟩) (k + 1) cap).ownBlock ≠ some rb := by
    intro e
    have : gg = rb := by simpa [Value.ownBlock] using e
    exact hgr this
  refine ⟨⟨?_, ?_, ?_, ?_, ?_, ?_, ?_, ?_, ?_, ?_, ?_, ?_, ?_, ?_, ?_⟩, hown⟩
  · exact (h.below.grown hg h.below.size hlt).setCell hb _
  · exact cell_set (by intro e; injection e; omega) (far hg hr' h.e0)
  · exact cell_set (by intro e; injection e; omega) (far hg hr' h.e1)
  · exact World.cell?_setCell_same _ _ _ (far hg hr' h.e2)
  · exact cell_set (by intro e; injection e; omega) (far hg hr' h.e3)
  · exact cell_set (by intro e; injection e; omega) (far hg hr' h.e4)
  · exact cell_set (by intro e; injection e; omega) (far hg hr' h.e5)
  · exact cell_set (by intro e; injection e; omega) (far hg hz' h.d0)
  · exact cell_set (by intro e; injection e; omega) (far hg hz' h.d1)
  · exact cell_set (by intro e; injection e; omega) (far hg hz' h.d2)
  · exact cell_set (by intro e; injection e; omega) (far hg hz' h.d3)
  · exact cell_set (by intro e; injection e; omega) (far hg hz' h.d4)
  · exact cell_set (by intro e; injection e; omega) (far hg hz' h.d5)
  · exact ho.kept (set_grown _ _ _ _) (.inr hown)
  · intro f
    rw [World.frozen?_setCell]
    exact far_frozen hg hr' h.e2 (h.zf f)
theorem map_done {w1 w2 : World} {rb n b i : Nat} {f : Int → Option Int} {row : Option Nat} {u : Value} (h : MapI w1 b n f) (hg : w1.grownBy w2 row) (hne : some b ≠ row) (hb : b ≠ rb) : MapI (w2.setCell ⟨rb, i, none⟩ u) b n f := (h.kept hg hne).setCell hb u
theorem own_nc {w : World} {b base n size : Nat} {e : TypeId} {v : Value} {xs : List Value} (h : NC w b) (ho : w.ownsRow base e size v n xs) : some b ≠ v.ownBlock := by
  rcases ho.2 with ⟨rfl, _⟩ | ⟨g, cap, cur, rfl, hb, hgg, rest⟩
  · simp [Value.ownBlock]
  · intro e2
    have : b = g := by simpa [Value.ownBlock] using e2
    subst this
    exact h _ _ _ hgg
theorem drew_alloc_grown {w w' : World} {o : Obj} {row : Option Nat} (h : (w.drew.alloc o).grownBy w' row) : w.grownBy w' row := drew_grown (grown_alloc h)

theorem Frm.drewN {w00 w : World} {rb sz b1 b2 b3 l wd k : Nat} {v : Value} {s : Smp} {A : Option Addr} {c : Nat} {xs : List Value} (h : Frm w00 w rb sz b1 b2 b3 l wd k v s A c xs) (q : Nat) : Frm w00 (w.drewN q) rb sz b1 b2 b3 l wd k v s A c xs :=
  ⟨below_drewN h.below q, h.e0, h.e1, h.e2, h.e3, h.e4, h.e5, h.d0, h.d1, h.d2, h.d3, h.d4, h.d5, h.own, h.zf⟩
theorem fc_start (F : Int → Option Int) (act : List Int) : ∀ m, F m = if (F m).isSome = true ∨ m ∈ act then F m else none := by
  intro m
  cases h : F m with
  | none => simp
  | some c => simp
theorem fc_stay {F fc : Int → Option Int} {left : Int → Bool} {act : List Int} {x : Int} (h : ∀ m, fc m = if left m = true ∨ m ∈ act then F m else none) (hx : x ∈ act) :
    ∀ m, fc m = if (left m && !decide (m = x)) = true ∨ m ∈ act then F m else none := by
  intro m
  rw [h m]
  by_cases e : m = x
  · subst e; rw [if_pos (.inr hx), if_pos (.inr hx)]
  · simp [e]
theorem fc_del {F fc : Int → Option Int} {left : Int → Bool} {act : List Int} {x : Int} (h : ∀ m, fc m = if left m = true ∨ m ∈ act then F m else none) (hx : x ∉ act) :
    ∀ m, delF fc x m = if (left m && !decide (m = x) && !decide (m = x)) = true ∨ m ∈ act then F m else none := by
  intro m
  unfold delF
  by_cases e : m = x
  · subst e; rw [if_pos rfl, if_neg (by simp; exact hx)]
  · rw [if_neg e, h m]; simp [e]

theorem fc_end {F fc : Int → Option Int} {left : Int → Bool} {act : List Int} (h : ∀ m, fc m = if left m = true ∨ m ∈ act then F m else none) (hl : ∀ x, left x = false) : ∀ m, fc m = if m ∈ act then F m else none := by
  intro m
  rw [h m, hl m]
  simp
theorem fj_have {F fj : Int → Option Int} {act : List Int} {j k : Nat} {x : Int} (h : ∀ m, fj m = if m ∈ act.take j then some ((F m).getD k) else if m ∈ act then F m else none) (hx : x ∈ act) (ht : act.take (j + 1) = act.take j ++ [x]) (hs : (fj x).isSome = true) :
    ∀ m, fj m = if m ∈ act.take (j + 1) then some ((F m).getD k) else if m ∈ act then F m else none := by
  intro m
  rw [ht]
  by_cases e : m = x
  · subst e
    rw [if_pos (by simp)]
    rw [h m] at hs
    rw [h m]
    by_cases h1 : m ∈ act.take j
    · rw [if_pos h1]
    · rw [if_neg h1, if_pos hx] at hs ⊢
      cases hF : F m with
      | none => rw [hF] at hs; cases hs
      | some c => rfl
  · rw [h m]
    simp [e]
theorem fj_put {F fj : Int → Option Int} {act : List Int} {j k : Nat} {x : Int} (h : ∀ m, fj m = if m ∈ act.take j then some ((F m).getD k) else if m ∈ act then F m else none) (hx : x ∈ act) (ht : act.take (j + 1) = act.take j ++ [x]) (hs : (fj x).isSome = false) :
    ∀ m, putF fj x k m = if m ∈ act.take (j + 1) then some ((F m).getD k) else if m ∈ act then F m else none := by
  intro m
  rw [ht]
  unfold putF
  by_cases e : m = x
  · subst e
    rw [if_pos rfl, if_pos (by simp)]
    rw [h m] at hs
    by_cases h1 : m ∈ act.take j
    · rw [if_pos h1] at hs; cases hs
    · rw [if_neg h1, if_pos hx] at hs
      cases hF : F m with
      | none => rfl
      | some c => rw [hF] at hs; cases hs
  · rw [if_neg e, h m]
    simp [e]
theorem fj_end (ss : List Smp) (k : Nat) {fj : Int → Option Int} (h : ∀ m, fj m = if m ∈ (sm ss k).act.take (sm ss k).act.length then some ((sinceTo ss k m).getD k) else if m ∈ (sm ss k).act then sinceTo ss k m else none) : fj = sinceTo ss (k + 1) := by
  funext m
  rw [h m, List.take_length]
  conv => rhs; unfold sinceTo
  by_cases h1 : m ∈ (sm ss k).act
  · rw [if_pos h1, if_pos h1]
  · rw [if_neg h1, if_neg h1, if_neg h1]

theorem last_put (ss : List Smp) (k : Nat) (h : (sm ss k).kind = 0) : putF (lastTo ss k) (sm ss k).a k = lastTo ss (k + 1) := by
  funext m
  unfold putF
  conv => rhs; unfold lastTo
  by_cases e : m = (sm ss k).a
  · rw [if_pos e, if_pos ⟨h, e.symm⟩]
  · rw [if_neg e, if_neg (fun x => e x.2.symm)]
theorem last_keep (ss : List Smp) (k : Nat) (h : ¬ (sm ss k).kind = 0) : lastTo ss (k + 1) = lastTo ss k := by
  funext m
  conv => lhs; unfold lastTo
  rw [if_neg (fun x => h x.1)]
theorem mon_put (ss : List Smp) (k : Nat) (h : (sm ss k).kind = 1) : monTo ss (k + 1) = k := by unfold monTo; rw [if_pos h]
theorem mon_keep (ss : List Smp) (k : Nat) (h : ¬ (sm ss k).kind = 1) : monTo ss (k + 1) = monTo ss k := by conv => lhs; unfold monTo
                                                                                                            rw [if_neg h]
theorem Frm.set6 {w00 w : World} {rb sz b1 b2 b3 l wd k : Nat} {v : Value} {s : Smp} {A : Option Addr} {c : Nat} {xs : List Value} (h : Frm w00 w rb sz b1 b2 b3 l wd k v s A c xs) (hv : v.ownBlock ≠ some rb) (hb : w00.heap.size ≤ rb) {u : Value} :
    Frm w00 (w.setCell ⟨rb, 6, none⟩ u) rb sz b1 b2 b3 l wd k v s A c xs :=
  ⟨h.below.setCell hb _, cell_set (by simp) h.e0, cell_set (by simp) h.e1, cell_set (by simp) h.e2, cell_set (by simp) h.e3, cell_set (by simp) h.e4, cell_set (by simp) h.e5,
    cell_set (by simp) h.d0, cell_set (by simp) h.d1, cell_set (by simp) h.d2, cell_set (by simp) h.d3, cell_set (by simp) h.d4, cell_set (by simp) h.d5, h.own.kept (set_grown _ _ _ _) (.inr hv), fun f => by rw [World.frozen?_setCell]; exact h.zf f⟩

theorem own_form {w : World} {base : Nat} {e : TypeId} {size n : Nat} {v : Value} {xs : List Value} (h : w.ownsRow base e size v n xs) (hn : 0 < n) : ∃ g cap, v = .slice (some ⟨g, 0, none⟩) n cap ∧ n ≤ cap ∧ cap ≤ maxLen := by
  rcases h.2 with ⟨_, h0⟩ | ⟨g, cap, cur, rfl, hb, hg, hnc, hcm, hcs, htake⟩
  · omega
  · exact ⟨g, cap, rfl, hnc, hcm⟩
theorem own_RS {w : World} {base gg k cap : Nat} {ss : List Smp} {As : Nat → Option Addr} {Cs : Nat → Nat} (h : w.ownsRow base 28 6 (.slice (some ⟨gg, 0, none⟩) (k + 1) cap) (k + 1) (flat ss As Cs (k + 1))) (hk : k < ss.length)
    (hri : ∀ j, j < k + 1 → RI w (As j) (sm ss j).act.length (sm ss j).act) : RS w gg 0 (k + 1) (ss.take (k + 1)) := by
  refine ⟨by simp; omega, fun j hj => ⟨As j, Cs j, ?_⟩⟩
  rw [sm_take hk hj]
  have hc : ∀ f u, f < 6 → (smpCells (sm ss j) (As j) (Cs j))[f]? = some u → w.cell? ⟨gg, 0 + j * 6 + f, none⟩ = some u := by
    intro f u hf hu
    have := h.cells (g := gg) rfl (j * 6 + f) u ((flat_get ss As Cs (k + 1) j f hj hf).trans hu)
    have hadd : (⟨gg, 0, none⟩ : Addr).add (j * 6 + f) = ⟨gg, 0 + j * 6 + f, none⟩ := by unfold Addr.add; split <;> simp_all <;> omega
    rwa [hadd] at this
  exact ⟨hc 0 _ (by omega) rfl, hc 1 _ (by omega) rfl, hc 2 _ (by omega) rfl, hc 3 _ (by omega) rfl, hc 4 _ (by omega) rfl, hc 5 _ (by omega) rfl, hri j hj⟩

theorem win_add {w00 w w' : World} {rb sz b1 b2 b3 l wd k po : Nat} {v : Value} {ss : List Smp} {As : Nat → Option Addr} {Cs : Nat → Nat} {Q : Ending → World → Prop}
    (hF : Frm w00 w rb sz b1 b2 b3 l wd (k + 1) v (sm ss k) (As k) (Cs k) (flat ss As Cs (k + 1))) (e6 : w.cell? ⟨rb, 6, none⟩ = some (.int .i64 (monTo ss (k + 1)))) (m2 : MapI w b2 (4 * (k + 1)) (sinceTo ss (k + 1))) (m3 : MapI w b3 (k + 1) (lastTo ss (k + 1)))
    (hn1 : NC w b1) (hg : w.grownBy w' (some b1)) (hri : ∀ j, j < ss.length → RI w00 (As j) (sm ss j).act.length (sm ss j).act) (hok : ∀ j, j < ss.length → (sm ss j).ok) (hk : k < ss.length) (hn : ss.length ≤ 40) (hpo : po + wd = k + 1) (r1 : w00.heap.size ≤ b1) (n12 : b1 ≠ b2) (n13 : b1 ≠ b3)
    (h : ∀ e w'', e = .returned (.bool (fine (sinceTo ss (k + 1)) (lastTo ss (k + 1)) (monTo ss (k + 1)) po (partOf ss k wd))) ∧ Below w'.heap.size w' w'' → Q e w'') :
    Calls Try.prog 49 #[.pointer (some ⟨rb, 0, none⟩), .int .i64 po] w' Q := by
  have HFF := hF.turn hn1 r1 hg
  obtain ⟨gg, cap, rfl, hc1, hc2⟩ := own_form HFF.own (by omega)
  have hRS := own_RS HFF.own hk (fun j hj => (hri j (by omega)).below HFF.below)
  have := window_calls rb b2 b3 (4 * (k + 1)) (k + 1) gg k cap po wd (sinceTo ss (k + 1)) (lastTo ss (k + 1)) (monTo ss (k + 1)) (ss.take (k + 1)) w' HFF.e2 HFF.e4 HFF.e5 (nc_cell hn1 hg e6) hRS
    (m2.kept hg (by intro e; injection e with e; exact n12 e.symm)) (m3.kept hg (by intro e; injection e with e; exact n13 e.symm)) (fun j hj => by rw [sm_take hk hj]; exact hok j (by omega)) (fun x c hx => late_range hok (by omega) hx) (by omega) hpo hc1 hc2
  rw [part_take] at this
  exact this.mono h

set_option maxHeartbeats 4000000 in
set_option maxRecDepth 1000000 in
theorem add_calls (w00 w : World) (rb b1 b2 b3 l wd k : Nat) (v : Value) (ss : List Smp) (As : Nat → Option Addr) (Cs : Nat → Nat) (hR : Row w00 w rb b1 b2 b3 l wd k v ss As Cs)
    (hk : k < ss.length) (hn : ss.length ≤ 40) (hok : ∀ j, j < ss.length → (sm ss j).ok) (hri : ∀ j, j < ss.length → RI w00 (As j) (sm ss j).act.length (sm ss j).act) (hl : l ≤ 4) (hw1 : 1 ≤ wd) (hw8 : wd ≤ 8) :
    Calls Try.prog 13 #[.pointer (some ⟨rb, 0, none⟩), smpAgg (sm ss k) (.slice (As k) (sm ss k).act.length (Cs k))] w fun e w' => e = .returned (.bool (!bad ss l wd k)) ∧ ∃ v', Row w00 w' rb b1 b2 b3 l wd (k + 1) v' ss As Cs := by
  obtain ⟨i0, hi0, hz0, hz1, hz2⟩ := info_parts info28
  have HR := Lib.hid hR
  have HOK := Lib.hid hok
  have HRI := Lib.hid hri
  have hk40 : k < 40 := by omega
  obtain ⟨A0, c0, hv⟩ := own_slice hR.own
  have e2 := hR.e2
  have hvr := hR.vr
  have hvz := own_lt hR.own
  have hlr := World.block_lt_of_cell? _ _ hR.e2
  have hlr' : rb < w.heap.size := hlr
  have e2' : ∀ o, (w.alloc o).cell? ⟨rb, 2, none⟩ = some v := fun o => cell_below ((Below.refl _ _).alloc (Nat.le_refl _) _) e2
  clear hR hok hri hlr
  unfold smpAgg
  have hsz : w00.heap.size ≤ w.heap.size := HR.out.below.size
  subst hv
  go_enter Try.func13, Try.ntmps13
  go_upto_region 2 with fail
  have hg1 := World.grownBy_alloc w (.cells #[.int .i64 (sm ss k).kind, .int .i64 (sm ss k).a, .int .i64 (sm ss k).ns, .slice (As k) (sm ss k).act.length (Cs k), .int .i64 (sm ss k).g, .bool (sm ss k).safe] 28) none
  have hF : Frm w00 (w.alloc (.cells #[.int .i64 (sm ss k).kind, .int .i64 (sm ss k).a, .int .i64 (sm ss k).ns, .slice (As k) (sm ss k).act.length (Cs k), .int .i64 (sm ss k).g, .bool (sm ss k).safe] 28)) rb w.heap.size b1 b2 b3 l wd k (.slice A0 k c0) (sm ss k) (As k) (Cs k) (flat ss As Cs k) :=
    ⟨HR.out.below.alloc HR.out.below.size _, cell_same hg1 HR.out.e0, cell_same hg1 HR.out.e1, cell_same hg1 HR.out.e2, cell_same hg1 HR.out.e3, cell_same hg1 HR.out.e4, cell_same hg1 HR.out.e5, by simp, by simp, by simp, by simp, by simp, by simp, HR.out.own.alloc _, fun f => same_frozen hg1 HR.out.e2 (HR.out.zf f)⟩
  have e6 := cell_same hg1 HR.out.e6
  have m1 := Lib.hid (HR.out.m1.kept hg1 (by simp))
  have m2 := Lib.hid (HR.out.m2.kept hg1 (by simp))
  have m3 := Lib.hid (HR.out.m3.kept hg1 (by simp))
  have hszlt : w.heap.size < (w.alloc (.cells #[.int .i64 (sm ss k).kind, .int .i64 (sm ss k).a, .int .i64 (sm ss k).ns, .slice (As k) (sm ss k).act.length (Cs k), .int .i64 (sm ss k).g, .bool (sm ss k).safe] 28)).heap.size := by simp
  have HRr := Lib.hid (And.intro HR.out.r0 (And.intro HR.out.r1 (And.intro HR.out.r2 (And.intro HR.out.r3 (And.intro HR.out.n12 (And.intro HR.out.n13 HR.out.n23))))))
  have hrz : rb ≠ w.heap.size := by omega
  clear hg1 e2' e2 HR hlr'
  generalize w.alloc (.cells #[.int .i64 (sm ss k).kind, .int .i64 (sm ss k).a, .int .i64 (sm ss k).ns, .slice (As k) (sm ss k).act.length (Cs k), .int .i64 (sm ss k).g, .bool (sm ss k).safe] 28) = w1 at *
  generalize w.heap.size = sz at *
  have HF := Lib.hid hF
  have E6 := Lib.hid e6
  obtain ⟨_, _, _, e2, _, _, _, d0, d1, d2, d3, d4, d5, own, zf⟩ := hF
  have HOW := Lib.hid own
  have hbase : w00.heap.size ≤ w1.heap.size := by omega
  clear own e6
  have hnew : ∀ j u, (smpCells (sm ss k) (As k) (Cs k))[j]? = some u → ((w1.drew.alloc (.cells #[.int .i64 (sm ss k).kind, .int .i64 (sm ss k).a, .int .i64 (sm ss k).ns, .slice (As k) (sm ss k).act.length (Cs k), .int .i64 (sm ss k).g, .bool (sm ss k).safe] 28))).cell? ((⟨w1.heap.size, 0, none⟩ : Addr).add j) = some u := World.news_of_block (cs := #[.int .i64 (sm ss k).kind, .int .i64 (sm ss k).a, .int .i64 (sm ss k).ns, .slice (As k) (sm ss k).act.length (Cs k), .int .i64 (sm ss k).g, .bool (sm ss k).safe]) (t := 28) (fr := (0, 0)) (heap_alloc_new w1.drew _)
  have HNEW := Lib.hid hnew
  clear hnew
  have hne1 : some rb ≠ (Value.slice A0 k c0).ownBlock := fun e => hvr e.symm
  have hne2 : some sz ≠ (Value.slice A0 k c0).ownBlock := fun e => hvz e.symm
  have e2a := Lib.hid (cell_below (((Below.refl w1.heap.size w1).drew).alloc (Nat.le_refl _) (.cells #[.int .i64 (sm ss k).kind, .int .i64 (sm ss k).a, .int .i64 (sm ss k).ns, .slice (As k) (sm ss k).act.length (Cs k), .int .i64 (sm ss k).g, .bool (sm ss k).safe] 28)) e2)
  have e2b : ∀ o, (w1.drew.alloc o).cell? ⟨rb, 2, none⟩ = some (.slice A0 k c0) := fun o => cell_below (((Below.refl w1.heap.size w1).drew).alloc (Nat.le_refl _) o) e2
  have z2a := Lib.hid (same_frozen (World.grownBy_alloc w1.drew (.cells #[.int .i64 (sm ss k).kind, .int .i64 (sm ss k).a, .int .i64 (sm ss k).ns, .slice (As k) (sm ss k).act.length (Cs k), .int .i64 (sm ss k).g, .bool (sm ss k).safe] 28) none) (f := 2) (show w1.drew.cell? _ = _ from e2) (zf 2))
  have e2d : ∀ o, (w1.alloc o).cell? ⟨rb, 2, none⟩ = some (.slice A0 k c0) := fun o => cell_below ((Below.refl w1.heap.size w1).alloc (Nat.le_refl _) o) e2
  have HB00 := Lib.hid (And.intro (HOW.out.lt) HRr.out.1)
  go_cut [] (fun wx => ∃ v', Frm w00 wx rb sz b1 b2 b3 l wd (k + 1) v' (sm ss k) (As k) (Cs k) (flat ss As Cs (k + 1)) ∧ v'.ownBlock ≠ some rb ∧ wx.cell? ⟨rb, 6, none⟩ = some (.int .i64 (monTo ss k)) ∧
    MapI wx b1 (2 * k) (runsTo ss k) ∧ MapI wx b2 (4 * k) (sinceTo ss k) ∧ MapI wx b3 k (lastTo ss k))
  case first =>
    go_region_law
     ((refine step_append_lies _ (by rfl) _ _ _ (by rfl) w00.heap.size 28 i0 _ 6 64 Try.underlying23 hi0 hz0 hz1 hz2 rfl (by omega) (.slice A0 k c0) k _ (by rfl) ((HOW.out.alloc _).drew)
        ⟨w1.heap.size, 0, none⟩ 1 1 (smpCells (sm ss k) (As k) (Cs k)) (by rfl) (by rfl) HNEW.out (smp_one _ _ _)
        (by omega) (by unfold maxLen; omega) (by omega) (by simp; omega) (w1.heap.size + 1) (by simp) ?_; intro gg cap w2 hown1 hgrow hat hlt; have e2c := far hgrow hne1 e2a.out; have z2c := far_frozen hgrow hne1 e2a.out (show _ = false from z2a.out)))
    all_goals (
      have hgd := drew_alloc_grown hgrow
      have hdone := app_done HF.out hgd hown1 hat hvr hvz hrz HRr.out.1 (fun k hk => (HOW.out.lt k hk).1)
      go_wp2_with fail
      go_meet
      refine ⟨_, hdone.1, hdone.2, cell_set (by intro e; injection e; omega) (far hgd hne1 E6.out), map_done m1.out hgd (own_nc (nc_map m1.out) HOW.out) ?_, map_done m2.out hgd (own_nc (nc_map m2.out) HOW.out) ?_, map_done m3.out hgd (own_nc (nc_map m3.out) HOW.out) ?_⟩
      · exact m1.out.ne_cell e2
      · exact m2.out.ne_cell e2
      · exact m3.out.ne_cell e2)
  case rest =>
    obtain ⟨v, hF, hvr, e6, m1, m2, m3⟩ := hcut
    clear HF E6 HB00 e2d z2a e2b e2a hne1 hne2 HNEW hbase HOW d0 d1 d2 d3 d4 d5 zf e2 hszlt
    rename_i hvr0 hvz0 _ _ _ _ _ _ _ _ _
    have HF := Lib.hid hF
    have M1 := Lib.hid m1
    have M2 := Lib.hid m2
    have M3 := Lib.hid m3
    have HV := Lib.hid hvr
    have E6 := Lib.hid e6
    have e4 := hF.e4
    clear hF m1 m2 m3 hvr e6
    obtain ⟨r0, r1, r2, r3, n12, n13, n23⟩ := HRr.out
    go_wp2_with (first
      | (at_range; refine wpList_rangeI rfl _ rfl _ b2 (4 * k) (sinceTo ss k) M2.out rfl ?_; intro w0 cnt hrg0 hg0 hs0)
      | go_in)
    go_frame
    have HF0 := Lib.hid (HF.out.same hg0)
    have M10 := Lib.hid (M1.out.kept hg0 (by simp))
    have M30 := Lib.hid (M3.out.kept hg0 (by simp))
    have E60 := Lib.hid (cell_same hg0 E6.out)
    have HRG := Lib.hid hrg0
    have hr1 : b1 ≠ wc.heap.size := Nat.ne_of_lt M1.out.lt
    have hr2 : b2 ≠ wc.heap.size := Nat.ne_of_lt M2.out.lt
    have hr3 : b3 ≠ wc.heap.size := Nat.ne_of_lt M3.out.lt
    have hrr : w00.heap.size ≤ wc.heap.size := HF.out.below.size
    have hrz : sz ≠ wc.heap.size := Nat.ne_of_lt (World.block_lt_of_cell? _ _ HF.out.d0)
    clear hrg0 hg0 hs0 HF M1 M2 M3 E6 e4
    generalize wc.heap.size = rr at *
    clear wc
    go_loopg [6] cnt (fun gh v6 wr => ∃ (left : Int → Bool) (fc : Int → Option Int), RangeI wr b2 rr (4 * k) fc left gh ∧ Aside (∀ m, fc m = if left m = true ∨ m ∈ (sm ss k).act then sinceTo ss k m else none) ∧
      Frm w00 wr rb sz b1 b2 b3 l wd (k + 1) v (sm ss k) (As k) (Cs k) (flat ss As Cs (k + 1)) ∧ Aside (wr.cell? ⟨rb, 6, none⟩ = some (.int .i64 (monTo ss k))) ∧ MapI wr b1 (2 * k) (runsTo ss k) ∧ MapI wr b3 k (lastTo ss k))
    case atStart => exact ⟨_, _, HRG.out, fc_start _ _, HF0.out, E60.out, M10.out, M30.out⟩
    case round =>
      obtain ⟨left, fc, hrg, HFC, hF, HE6, m1, m3⟩ := hrel
      have HRG1 := Lib.hid hrg
      have HF1 := Lib.hid hF
      have M11 := Lib.hid m1
      have M31 := Lib.hid m3
      clear hrg hF m1 m3
      go_wp2_with (first
        | (at_next; refine wpList_nextI rfl _ rfl _ b2 rr (4 * k) fc left _ HRG1.out rfl ?_ ?_)
        | go_in)
      · intro hl0
        have HFC2 := Lib.hid (fc_end HFC.out hl0)
        have M21 := Lib.hid HRG1.out.owns
        clear HFC hl0 HRG1
        have d3 := HF1.out.d3
        have hal : (sm ss k).act.length ≤ 4 := (HOK.out k hk).act0
        go_wp2
        go_loopg [48] (sm ss k).act.length (fun gh v48 wy => ∃ (j : Nat) (fj : Int → Option Int), j + gh = (sm ss k).act.length ∧ v48 = .int .i64 j ∧ MapI wy b2 (4 * k + j) fj ∧
          Aside (∀ m, fj m = if m ∈ (sm ss k).act.take j then some ((sinceTo ss k m).getD k) else if m ∈ (sm ss k).act then sinceTo ss k m else none) ∧
          Frm w00 wy rb sz b1 b2 b3 l wd (k + 1) v (sm ss k) (As k) (Cs k) (flat ss As Cs (k + 1)) ∧ Aside (wy.cell? ⟨rb, 6, none⟩ = some (.int .i64 (monTo ss k))) ∧ MapI wy b1 (2 * k) (runsTo ss k) ∧ MapI wy b3 k (lastTo ss k))
        case atStart => exact ⟨0, fc, by omega, rfl, M21.out, fun m => by rw [HFC2.out m]; simp, HF1.out, HE6.out, M11.out, M31.out⟩
        case round =>
          rename_i wy
          obtain ⟨j, fj, hj, rfl, m2, HFJ, hF, HE6, m1, m3⟩ := hrel
          have HF2 := Lib.hid hF
          have M12 := Lib.hid m1
          have M22 := Lib.hid m2
          have M32 := Lib.hid m3
          clear m1 m2 m3 hF d3
          cases gk with
          | zero =>
            have hge : ¬ ((j : Int) < ((sm ss k).act.length : Int)) := by omega
            have hjl : j = (sm ss k).act.length := by omega
            subst hjl
            have hfe := fj_end ss k HFJ.out
            have M23 := Lib.hid (hfe ▸ M22.out)
            clear hfe HFJ M22
            have d0 := HF2.out.d0
            have hk0 := (HOK.out k hk).k0
            have hk2 := (HOK.out k hk).k1
            have hal2 : 4 * k + (sm ss k).act.length ≤ 4 * (k + 1) := by omega
            go_upto_block 4 with fail
            go_cut [] (fun wx => Frm w00 wx rb sz b1 b2 b3 l wd (k + 1) v (sm ss k) (As k) (Cs k) (flat ss As Cs (k + 1)) ∧ wx.cell? ⟨rb, 6, none⟩ = some (.int .i64 (monTo ss (k + 1))) ∧
              MapI wx b1 (2 * k) (runsTo ss k) ∧ MapI wx b2 (4 * (k + 1)) (sinceTo ss (k + 1)) ∧ MapI wx b3 (k + 1) (lastTo ss (k + 1)))
            case first =>
              have e2 := HF2.out.e2
              have hb1r := M12.out.ne_cell e2
              have hb2r := M23.out.ne_cell e2
              have hb3r := M32.out.ne_cell e2
              clear e2
              by_cases hk0' : (sm ss k).kind = 0
              · have e5 := HF2.out.e5
                have d1 := HF2.out.d1
                have ha0 := (HOK.out k hk).a0
                have ha1 := (HOK.out k hk).a1
                have HLP := Lib.hid (last_put ss k hk0')
                have HMK := Lib.hid (mon_keep ss k (by rw [hk0']; omega))
                have hkb : ((sm ss k).kind == 0) = true := by simpa using hk0'
                clear hk0'
                go_wp2_with fail
                refine wp_region_still_tail 7 (by kernel_rfl) (by kernel_rfl) ?_
                simp only [List.take_succ_cons, List.take_zero, List.drop_succ_cons, List.drop_zero]
                change wpStill _ _ wr.drew _ _ _
                repeat still_step
                all_goals (try refine wpStill_nil ?_)
                refine wpList_putI (o := { dst := none, op := Op.mapUpdate 47 (Operand.tmp 77) (Operand.tmp 79) (Operand.tmp 80), type := 0, pos := _, after := _, guard := none }) rfl _ _ _ rfl wr.drew b3 k (lastTo ss k) M32.out.drew (sm ss k).a k rfl rfl rfl (by omega) (by omega) (by omega) (by omega) (by omega) ?_
                intro w6 m36 hg6
                have hg6' := drew_grown hg6
                rw [HLP.out] at m36
                go_wp2_with fail
                go_meet
                exact ⟨HF2.out.turn (nc_map M32.out) r3 hg6', by rw [HMK.out]; exact nc_cell (nc_map M32.out) hg6' HE6.out, M12.out.kept hg6' (by intro e; injection e with e; exact n13 e), (M23.out.kept hg6' (by intro e; injection e with e; exact n23 e)).mono hal2, m36⟩
              · have HLK := Lib.hid (last_keep ss k hk0')
                have hkb : ((sm ss k).kind == 0) = false := by simpa using hk0'
                clear hk0'
                by_cases hk1 : (sm ss k).kind = 1
                · have HMP := Lib.hid (mon_put ss k hk1)
                  have hkb1 : ((sm ss k).kind == 1) = true := by simpa using hk1
                  clear hk1
                  have e6 := HE6.out
                  have z6 := HF2.out.zf 6
                  go_wp2_with fail
                  go_meet
                  exact ⟨HF2.out.set6 HV.out r0, by rw [HMP.out]; exact World.cell?_setCell_same _ _ _ HE6.out, M12.out.setCell hb1r _, (M23.out.setCell hb2r _).mono hal2, by rw [HLK.out]; exact (M32.out.setCell hb3r _).mono (by omega)⟩
                · have HMK := Lib.hid (mon_keep ss k hk1)
                  have hkb1 : ((sm ss k).kind == 1) = false := by simpa using hk1
                  clear hk1
                  go_wp2_with fail
                  go_meet
                  exact ⟨HF2.out, by rw [HMK.out]; exact HE6.out, M12.out, M23.out.mono hal2, by rw [HLK.out]; exact M32.out.mono (by omega)⟩
            case rest =>
              obtain ⟨hF, e6, m1, m2, m3⟩ := hcut
              have HF3 := Lib.hid hF
              have E63 := Lib.hid e6
              have M23' := Lib.hid m2
              have M33 := Lib.hid m3
              have hsc := short_calls rb b1 l (2 * k) (runsTo ss k) (sm ss k) (HOK.out k hk) (As k) (sm ss k).act.length (Cs k) _ hF.e1 hF.e3 m1 (runs_bd ss _ k (by omega)).1 (by have := (runs_bd ss (sm ss k).g k (by omega)).2; omega) (by omega) hl
              have HSL := Lib.hid (short_law (l := l) hk)
              have d0 := hF.d0
              have d1 := hF.d1
              have d2 := hF.d2
              have d3 := hF.d3
              have d4 := hF.d4
              have d5 := hF.d5
              have HM1 := Lib.hid m1
              generalize ((sm ss k).g == -1 || decide ((runsF (runsTo ss k) (sm ss k) (sm ss k).g).getD 0 ≤ (l : Int))) = S at *
              rw [runsF_to] at hsc
              have HSC := Lib.hid hsc
              clear hsc hF e6 m1 m2 m3
              have hnm : NC _ b1 := nc_map HM1.out
              have HNM := Lib.hid hnm
              clear hnm
              cases S with
              | false =>
                have HRES := Lib.hid (bad_few (wd := wd) HSL.out rfl)
                go_wp2_with (first
                  | (go_at_call 48; refine HSC.out.mono ?_; rintro e w' ⟨rfl, m1', hg'⟩)
                  | go_in)
                go_ret
                refine ⟨ret_bool HRES.out.symm, v, ?_⟩
                have HFF := HF3.out.turn HNM.out r1 hg'
                exact ⟨HFF.below, HFF.e0, HFF.e1, HFF.e2, HFF.e3, HFF.e4, HFF.e5, nc_cell HNM.out hg' E63.out, HFF.own, HV.out, m1', M23'.out.kept hg' (by intro e; injection e with e; exact n12 e.symm), M33.out.kept hg' (by intro e; injection e with e; exact n13 e.symm), r0, r1, r2, r3, n12, n13, n23, HFF.zf⟩
              | true =>
                have HBW := Lib.hid (bad_win (wd := wd) HSL.out rfl)
                by_cases hkw : (k : Int) + 1 < (wd : Int)
                · have HRES := Lib.hid (HBW.out.trans (by rw [decide_eq_false (show ¬ wd ≤ k + 1 by omega)] <;> rfl))
                  go_wp2_with (first
                    | (go_at_call 48; refine HSC.out.mono ?_; rintro e w' ⟨rfl, m1', hg'⟩; have f0 := (HF3.out.turn HNM.out r1 hg').e0)
                    | go_in)
                  go_ret
                  refine ⟨ret_bool HRES.out.symm, v, ?_⟩
                  have HFF := HF3.out.turn HNM.out r1 hg'
                  exact ⟨HFF.below, HFF.e0, HFF.e1, HFF.e2, HFF.e3, HFF.e4, HFF.e5, nc_cell HNM.out hg' E63.out, HFF.own, HV.out, m1', M23'.out.kept hg' (by intro e; injection e with e; exact n12 e.symm), M33.out.kept hg' (by intro e; injection e with e; exact n13 e.symm), r0, r1, r2, r3, n12, n13, n23, HFF.zf⟩
                · obtain ⟨po, hpo⟩ : ∃ po, po + wd = k + 1 := ⟨k + 1 - wd, by omega⟩
                  have hpi : (k : Int) + 1 - (wd : Int) = (po : Int) := by omega
                  have hfine := fine_law (ss := ss) hk hpo hw1
                  have HRES := Lib.hid (HBW.out.trans ((by rw [decide_eq_true (show wd ≤ k + 1 by omega)] <;> rfl : (!(decide (wd ≤ k + 1) && windowBad (partOf ss k wd))) = !windowBad (partOf ss k wd)).trans hfine.symm))
                  have HPO := Lib.hid hpo
                  clear hfine hpo
                  go_wp2_with (first
                    | (go_at_call 48; refine HSC.out.mono ?_; rintro e w' ⟨rfl, m1', hg'⟩; have f0 := (HF3.out.turn HNM.out r1 hg').e0)
                    | (go_at_call 49; refine win_add HF3.out E63.out M23'.out M33.out HNM.out hg' HRI.out HOK.out hk hn HPO.out r1 n12 n13 ?_; rintro e w'' ⟨rfl, hbw⟩)
                    | go_in)
                  go_ret
                  refine ⟨ret_bool (by rw [HRES.out, decide_eq_false (show ¬ ((k : Int) + 1 < (wd : Int)) by omega), Bool.false_or]), v, ?_⟩
                  have hgb := grown_of_below hbw none
                  have HFF := (HF3.out.turn HNM.out r1 hg').same hgb
                  exact ⟨HFF.below, HFF.e0, HFF.e1, HFF.e2, HFF.e3, HFF.e4, HFF.e5, cell_same hgb (nc_cell HNM.out hg' E63.out), HFF.own, HV.out, m1'.below hbw, (M23'.out.kept hg' (by intro e; injection e with e; exact n12 e.symm)).below hbw, (M33.out.kept hg' (by intro e; injection e with e; exact n13 e.symm)).below hbw, r0, r1, r2, r3, n12, n13, n23, HFF.zf⟩
          | succ gh =>
            have hlt : (j : Int) < ((sm ss k).act.length : Int) := by omega
            have hltn : j < (sm ss k).act.length := by omega
            obtain ⟨ad, hA, hcell⟩ := ((HRI.out k hk).below HF2.out.below).at_ j hltn
            have e4 := HF2.out.e4
            have hx0 : 0 ≤ rd (sm ss k).act j := ((HOK.out k hk).act1 _ (rd_mem hltn)).1
            have hx3 : rd (sm ss k).act j ≤ 3 := ((HOK.out k hk).act1 _ (rd_mem hltn)).2
            have HXM := Lib.hid (rd_mem hltn)
            have HTK := Lib.hid (take_rd hltn)
            have hlk := M22.out.lookok (x := rd (sm ss k).act j) (by omega) (by omega)
            generalize rd (sm ss k).act j = x at *
            have HS := Lib.hid (show (fj x).isSome = (fj x).isSome from rfl)
            cases hS : (fj x).isSome with
            | true =>
              have HSS := Lib.hid hS
              rw [hS] at hlk
              clear hS HS
              generalize (fj x).getD 0 = G at *
              go_wp2
              go_roundg gh
              case measure => omega
              case rel => exact ⟨j + 1, fj, by omega, by go_num, M22.out.mono (by omega), fj_have HFJ.out HXM.out HTK.out HSS.out, HF2.out, HE6.out, M12.out, M32.out⟩
            | false =>
              have HSS := Lib.hid hS
              rw [hS] at hlk
              clear hS HS
              generalize (fj x).getD 0 = G at *
              go_wp2_with (first
                | (at_mapUpdate; refine wpList_putI rfl _ _ _ rfl _ b2 (4 * k + j) fj M22.out x k rfl rfl rfl (by omega) (by omega) (by omega) (by omega) (by omega) ?_; intro w5 m25 hg5; go_frame)
                | go_in)
              go_roundg gh
              case measure => omega
              case rel => exact ⟨j + 1, _, by omega, by go_num, m25, fj_put HFJ.out HXM.out HTK.out HSS.out, HF2.out.turn (nc_map M22.out) r2 hg5, nc_cell (nc_map M22.out) hg5 HE6.out, M12.out.kept hg5 (by intro e; injection e with e; exact n12 e), M32.out.kept hg5 (by intro e; injection e with e; exact n23 e.symm)⟩
      · intro x c w3 cnt1 hx0 hx1 hlx hfx hrg1 hlt hg1 hs1 hen
        have HF2 := Lib.hid (HF1.out.turn (nc_iter HRG1.out) hrr hg1)
        have M12 := Lib.hid (M11.out.kept hg1 (by intro e; injection e with e; exact hr1 e))
        have M32 := Lib.hid (M31.out.kept hg1 (by intro e; injection e with e; exact hr3 e))
        have E62 := Lib.hid (nc_cell (nc_iter HRG1.out) hg1 HE6.out)
        have HRG2 := Lib.hid hrg1
        have HLT := Lib.hid hlt
        have d3 := HF2.out.d3
        have e4 := HF2.out.e4
        have e4' : ∀ m, (w3.drewN m).cell? ⟨rb, 4, none⟩ = some (.map (some b2)) := fun m => e4
        have hri := Lib.hid ((HRI.out k hk).below HF2.out.below)
        clear hg1 hs1 hrg1 hlt hlx hfx
        by_cases hxa : x ∈ (sm ss k).act
        · have HXA := Lib.hid hxa
          have hda : decide (x ∈ (sm ss k).act) = true := decide_eq_true hxa
          clear hxa
          go_wp2_with (first
            | (go_at_call 12; refine (Contains_calls _ _ _ _ _ _ hri.out).mono ?_; rintro e w' ⟨rfl, q, rfl⟩; rw [decide_mem (sm ss k).act x, hda])
            | go_in)
          go_roundg cnt1
          case measure => exact HLT.out
          case rel => exact ⟨_, fc, HRG2.out.drewN q, fc_stay HFC.out HXA.out, HF2.out.drewN q, E62.out, M12.out.drewN q, M32.out.drewN q⟩
        · have HXA := Lib.hid hxa
          have hda : decide (x ∈ (sm ss k).act) = false := decide_eq_false hxa
          clear hxa
          go_wp2_with (first
            | (go_at_call 12; refine (Contains_calls _ _ _ _ _ _ hri.out).mono ?_; rintro e w' ⟨rfl, q, rfl⟩; rw [decide_mem (sm ss k).act x, hda])
            | (at_delete; refine wpList_delI rfl _ _ rfl _ b2 rr (4 * k) fc _ cnt1 (HRG2.out.drewN _) x rfl rfl hx0 hx1 ?_; intro w4 cnt2 hrg3 hle hg3; go_frame)
            | go_in)
          go_roundg cnt2
          case measure => exact Nat.lt_of_le_of_lt hle HLT.out
          case rel => exact ⟨_, _, hrg3, fc_del HFC.out HXA.out, (HF2.out.drewN _).turn (nc_map (HRG2.out.drewN _).owns) r2 hg3, nc_cell (nc_map (HRG2.out.drewN _).owns) hg3 E62.out, (M12.out.drewN _).kept hg3 (by intro e; injection e with e; exact n12 e), (M32.out.drewN _).kept hg3 (by intro e; injection e with e; exact n23 e.symm)⟩
end Go.Proofs.Ytciiihiklobkaaa.Meas
