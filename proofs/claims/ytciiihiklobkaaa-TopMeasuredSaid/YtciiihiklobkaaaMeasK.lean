/-
  TopMeasured by a walk.
-/
import Derived.Test.YtciiihiklobkaaaMeasJ
import Derived.Laws.BitsAllLaws
namespace Go.Proofs.Ytciiihiklobkaaa.Meas
open Go.RowKit
set_option linter.unusedVariables false
set_option linter.unusedSimpArgs false

/-- Raw samples in memory. -/
def RW (w : World) (b o n : Nat) (rs : List Raw) : Prop :=
  rs.length = n ∧ (∀ r ∈ rs, r.ok) ∧ ∀ j (h : j < rs.length), w.cell? ⟨b, o + j * 6, none⟩ = some (.int .u8 (rs[j].kind : Nat)) ∧ w.cell? ⟨b, o + j * 6 + 1, none⟩ = some (.int .u8 (rs[j].a : Nat)) ∧
    w.cell? ⟨b, o + j * 6 + 2, none⟩ = some (.int .u8 (rs[j].long : Nat)) ∧ w.cell? ⟨b, o + j * 6 + 3, none⟩ = some (.int .u8 (rs[j].act : Nat)) ∧ w.cell? ⟨b, o + j * 6 + 4, none⟩ = some (.int .u8 (rs[j].g : Nat)) ∧ w.cell? ⟨b, o + j * 6 + 5, none⟩ = some (.bool rs[j].safe)

/-- What is built so far. -/
structure Bld (w00 w : World) (k : Nat) (v : Value) (ss : List Smp) (As : Nat → Option Addr) (Cs : Nat → Nat) : Prop where
  below : Below w00.heap.size w00 w
  own : w.ownsRow w00.heap.size 28 6 v k (flat ss As Cs k)
  ri : ∀ j, j < k → RI w (As j) (sm ss j).act.length (sm ss j).act
  apart : ∀ j, j < k → ∀ ad, As j = some ad → some ad.block ≠ v.ownBlock ∧ ad.block < w.heap.size
theorem flat_succ (ss : List Smp) (As : Nat → Option Addr) (Cs : Nat → Nat) (k : Nat) : flat ss As Cs (k + 1) = flat ss As Cs k ++ smpCells (sm ss k) (As k) (Cs k) := rfl
theorem flat_congr (ss : List Smp) (As Bs : Nat → Option Addr) (Cs Ds : Nat → Nat) : ∀ k, (∀ j, j < k → As j = Bs j ∧ Cs j = Ds j) → flat ss As Cs k = flat ss Bs Ds k
  | 0, _ => rfl
  | k + 1, h => by
    unfold flat
    rw [flat_congr ss As Bs Cs Ds k (fun j hj => h j (by omega)), (h k (by omega)).1, (h k (by omega)).2]
theorem RI_grown {w w1 : World} {A : Option Addr} {n : Nat} {xs : List Int} {row : Option Nat} (h : RI w A n xs) (hg : w.grownBy w1 row) (hne : ∀ ad, A = some ad → some ad.block ≠ row) : RI w1 A n xs :=
  ⟨h.1, h.2.1, fun hn => by
    obtain ⟨ad, e, hc⟩ := h.2.2 hn
    exact ⟨ad, e, fun j hj => far hg (by rw [show (ad.add j).block = ad.block from by unfold Addr.add; split <;> rfl]; exact hne ad e) (hc j hj)⟩⟩
theorem Bld.step {w00 wS wc w2 : World} {k g cap : Nat} {v : Value} {ss : List Smp} {As : Nat → Option Addr} {Cs : Nat → Nat} {A : Option Addr} {c : Nat} {o : Obj} (h : Bld w00 wS k v ss As Cs) (hb : Below wS.heap.size wS wc)
    (hri : RI wc A (sm ss k).act.length (sm ss k).act) (hA : ∀ ad, A = some ad → wS.heap.size ≤ ad.block ∧ ad.block < wc.heap.size) (hg0 : (wc.alloc o).grownBy w2 v.ownBlock)
    (ho : w2.ownsRow w00.heap.size 28 6 (.slice (some ⟨g, 0, none⟩) (k + 1) cap) (k + 1) (flat ss As Cs k ++ smpCells (sm ss k) A c)) (hat : v.ownBlock = some g ∨ g = wc.heap.size + 1) :
    Bld w00 w2 (k + 1) (.slice (some ⟨g, 0, none⟩) (k + 1) cap) ss (fun j => if j = k then A else As j) (fun j => if j = k then c else Cs j) := by
  have hg := grown_alloc hg0
  have hlt := hb.size
  have hgs := hg.size
  have hvb : ∀ b, v.ownBlock = some b → b < wS.heap.size := fun b e => (h.own.lt b e).2
  have hgo : (Value.slice (some ⟨g, 0, none⟩) (k + 1) cap).ownBlock = some g := rfl
  refine ⟨?_, ?_, ?_, ?_⟩
  · exact (below_then h.below h.below.size hb).grown hg (Nat.le_trans h.below.size hlt) (fun b e => (h.own.lt b e).1)
  · rw [show flat ss (fun j => if j = k then A else As j) (fun j => if j = k then c else Cs j) (k + 1) = flat ss As Cs k ++ smpCells (sm ss k) A c by
      rw [flat_succ, flat_congr ss (fun j => if j = k then A else As j) As (fun j => if j = k then c else Cs j) Cs k (fun j hj => ⟨if_neg (by omega), if_neg (by omega)⟩), if_pos rfl, if_pos rfl]]
    exact ho
  · intro j hj
    by_cases e : j = k
    · subst e
      simp only [if_pos]
      refine RI_grown hri hg (fun ad e2 e3 => ?_)
      have := (hA ad e2).1
      have := hvb _ e3.symm
      omega
    · simp only [if_neg e]
      exact RI_grown ((h.ri j (by omega)).below hb) hg (fun ad e2 => (h.apart j (by omega) ad e2).1)
  · intro j hj ad e2
    rw [hgo]
    by_cases e : j = k
    · subst e
      simp only [if_pos] at e2
      have h1 := hA ad e2
      refine ⟨fun e3 => ?_, by omega⟩
      injection e3 with e3
      rcases hat with h2 | h2
      · have := hvb _ h2; omega
      · omega
    · simp only [if_neg e] at e2
      have h1 := h.apart j (by omega) ad e2
      refine ⟨fun e3 => ?_, by omega⟩
      rcases hat with h2 | h2
      · rw [h2] at h1; exact h1.1 e3
      · injection e3 with e3; omega
theorem sm_raw {rs : List Raw} {k : Nat} (h : k < rs.length) : sm (rs.map toSmp) k = toSmp rs[k] := by rw [sm_at (by simpa using h), List.getElem_map]

theorem bit_at (x m : Nat) (hx : x < 256) : bits BinOp.and IntKind.u8 ((x : Int) / 2 ^ m) 1 = ((x / 2 ^ m % 2 : Nat) : Int) := by
  have h : x / 2 ^ m < 256 := Nat.lt_of_le_of_lt (Nat.div_le_self _ _) hx
  have := u8_and_nat (x / 2 ^ m) 1 h (by omega)
  rw [Nat.and_one_is_mod] at this
  rw [← this]
  congr 1
theorem bit_yes {x m : Nat} (hx : x < 256) (h : x / 2 ^ m % 2 = 1) : (bits BinOp.and IntKind.u8 ((x : Int) / 2 ^ m) 1 == 1) = true := by rw [bit_at x m hx, h]; rfl
theorem bit_no {x m : Nat} (hx : x < 256) (h : ¬ x / 2 ^ m % 2 = 1) : (bits BinOp.and IntKind.u8 ((x : Int) / 2 ^ m) 1 == 1) = false := by rw [bit_at x m hx, beq_eq_false_iff_ne]; omega
theorem act_yes {x m : Nat} (h : x / 2 ^ m % 2 = 1) : actTo x (m + 1) = actTo x m ++ [(m : Int)] := if_pos h
theorem act_no {x m : Nat} (h : ¬ x / 2 ^ m % 2 = 1) : actTo x (m + 1) = actTo x m := if_neg h

/-- The two boxes of a round. -/
structure Box (wS w : World) (r : Raw) (va : Value) : Prop where
  below : Below wS.heap.size wS w
  size : wS.heap.size + 2 ≤ w.heap.size
  c3 : w.cell? ⟨wS.heap.size, 3, none⟩ = some (.int .u8 (r.act : Nat))
  s0 : w.cell? ⟨wS.heap.size + 1, 0, none⟩ = some (.int .i64 (toSmp r).kind)
  s1 : w.cell? ⟨wS.heap.size + 1, 1, none⟩ = some (.int .i64 (toSmp r).a)
  s2 : w.cell? ⟨wS.heap.size + 1, 2, none⟩ = some (.int .i64 (toSmp r).ns)
  s3 : w.cell? ⟨wS.heap.size + 1, 3, none⟩ = some va
  s4 : w.cell? ⟨wS.heap.size + 1, 4, none⟩ = some (.int .i64 (toSmp r).g)
  s5 : w.cell? ⟨wS.heap.size + 1, 5, none⟩ = some (.bool (toSmp r).safe)
  zf : ∀ f, w.frozen? ⟨wS.heap.size + 1, f, none⟩ = false
theorem Box.same {wS w w' : World} {r : Raw} {va : Value} (h : Box wS w r va) (hg : w.grownBy w' none) : Box wS w' r va :=
  ⟨h.below.grown hg h.below.size (fun j e => by cases e), by have := h.size; have := hg.size; omega, cell_same hg h.c3, cell_same hg h.s0, cell_same hg h.s1, cell_same hg h.s2, cell_same hg h.s3, cell_same hg h.s4, cell_same hg h.s5, fun f => same_frozen hg h.s3 (h.zf f)⟩
theorem Box.app {wS w w' : World} {r : Raw} {va va' : Value} (h : Box wS w r va) (hg : w.grownBy w' va.ownBlock) (hb : ∀ b, va.ownBlock = some b → wS.heap.size + 2 ≤ b) : Box wS (w'.setCell ⟨wS.heap.size + 1, 3, none⟩ va') r va' := by
  have n0 : some wS.heap.size ≠ va.ownBlock := fun e => by have := hb _ e.symm; omega
  have n1 : some (wS.heap.size + 1) ≠ va.ownBlock := fun e => by have := hb _ e.symm; omega
  refine ⟨(h.below.grown hg h.below.size (fun j e => by have := hb j e; omega)).setCell (by simp) _, ?_, ?_, ?_, ?_, ?_, ?_, ?_, ?_, ?_⟩
  · have := h.size; have := hg.size; simp [World.setCell]; omega
  · exact cell_set (by intro e; injection e; omega) (far hg n0 h.c3)
  · exact cell_set (by intro e; injection e; omega) (far hg n1 h.s0)
  · exact cell_set (by intro e; injection e; omega) (far hg n1 h.s1)
  · exact cell_set (by intro e; injection e; omega) (far hg n1 h.s2)
  · exact World.cell?_setCell_same _ _ _ (far hg n1 h.s3)
  · exact cell_set (by intro e; injection e; omega) (far hg n1 h.s4)
  · exact cell_set (by intro e; injection e; omega) (far hg n1 h.s5)
  · intro f
    rw [World.frozen?_setCell]
    exact far_frozen hg n1 h.s3 (h.zf f)

theorem Box.start (wS : World) (r : Raw) (x y : Int) (hx : x = (toSmp r).a) (hy : y = (toSmp r).g) :
    Box wS ((wS.alloc (.cells #[.int .u8 (r.kind : Nat), .int .u8 (r.a : Nat), .int .u8 (r.long : Nat), .int .u8 (r.act : Nat), .int .u8 (r.g : Nat), .bool r.safe] 25)).alloc
      (.cells #[.int .i64 ((r.kind : Int) % 3), .int .i64 x, .int .i64 ((r.long : Int) * 200000 - 5000000), .slice none 0 0, .int .i64 y, .bool r.safe] 28)) r (.slice none 0 0) := by
  subst hx hy
  refine ⟨((Below.refl _ _).alloc (Nat.le_refl _) _).alloc (by simp) _, by simp, ?_, ?_, ?_, ?_, ?_, ?_, ?_, fun f => World.frozen?_alloc_at _ _ _ _ (by simp)⟩
  · exact cell_below ((Below.refl _ _).alloc (Nat.le_refl _) _) ((new_at rfl).trans rfl)
  · refine (new_at (by simp)).trans ?_
    show some (Value.int .i64 ((r.kind : Int) % 3)) = some (Value.int .i64 ((r.kind % 3 : Nat) : Int))
    rw [show (r.kind : Int) % 3 = ((r.kind % 3 : Nat) : Int) from by omega]
  · exact (new_at (by simp)).trans rfl
  · exact (new_at (by simp)).trans rfl
  · exact (new_at (by simp)).trans rfl
  · exact (new_at (by simp)).trans rfl
  · exact (new_at (by simp)).trans rfl

theorem sm_takeq {ss : List Smp} {q j : Nat} (hq : q ≤ ss.length) (hj : j < q) : sm (ss.take q) j = sm ss j := by
  rw [sm_at (by rw [List.length_take]; omega), sm_at (by omega), List.getElem_take]
theorem Bld.samples {w00 w : World} {q : Nat} {v : Value} {ss : List Smp} {As : Nat → Option Addr} {Cs : Nat → Nat} (h : Bld w00 w q v ss As Cs) (hq : q ≤ ss.length) :
    (v = .slice none 0 0 ∧ q = 0) ∨ ∃ g cap, v = .slice (some ⟨g, 0, none⟩) q cap ∧ RS w g 0 q (ss.take q) ∧ q ≤ cap ∧ cap ≤ maxLen := by
  rcases h.own.2 with ⟨rfl, e⟩ | ⟨g, cap, cur, rfl, hb, hg, hnc, hcm, hcs, htake⟩
  · exact .inl ⟨rfl, by have := h.own.1; simpa using e⟩
  · refine .inr ⟨g, cap, rfl, ⟨by rw [List.length_take]; omega, fun j hj => ?_⟩, hnc, hcm⟩
    have hc := h.own.cells (g := g) rfl
    have hf := fun f hf => hc (j * 6 + f) ((smpCells (sm ss j) (As j) (Cs j))[f]'hf) (by
      rw [flat_get ss As Cs q j f hj hf]; exact List.getElem?_eq_getElem hf)
    rw [sm_takeq hq hj]
    have had : ∀ x, (⟨g, 0, none⟩ : Addr).add x = ⟨g, x, none⟩ := fun x => by
      unfold Addr.add
      split
      · rename_i h0; rw [h0]
      · simp
    simp only [had] at hf
    rw [show (0 : Nat) + j * 6 = j * 6 from by omega]
    exact ⟨As j, Cs j, hf 0 (by simp [smpCells]), hf 1 (by simp [smpCells]), hf 2 (by simp [smpCells]), hf 3 (by simp [smpCells]), hf 4 (by simp [smpCells]), hf 5 (by simp [smpCells]), h.ri j hj⟩
theorem firstBad_le (b : Nat → Bool) : ∀ d i, firstBad b d i ≤ i + d
  | 0, i => Nat.le_refl _
  | d + 1, i => by
    unfold firstBad
    split
    · omega
    · have := firstBad_le b d (i + 1); omega
/-- What the last lines ask of the row that was built. -/
structure Asks (w00 : World) (v : Value) (l wd q D : Nat) : Prop where
  le : D ≤ q
  six : ∀ w, Below w00.heap.size w00 w → Calls Try.prog 6 #[v, .int .i64 l, .int .i64 wd] w fun e w' => e = .returned (.int .i64 (D : Int)) ∧ Below w.heap.size w w'
  seven : ∀ w, Below w00.heap.size w00 w → Calls Try.prog 7 #[.int .i64 l, .int .i64 wd, v] w fun e w' => e = .returned (.tuple #[.int .i64 (D : Int), .bool (decide (D < q))]) ∧ Below w.heap.size w w'
theorem Bld.asks {w00 w : World} {q l wd : Nat} {v : Value} {ss : List Smp} {As : Nat → Option Addr} {Cs : Nat → Nat} (h : Bld w00 w q v ss As Cs) (hq : q ≤ ss.length) (hok : ∀ j, j < ss.length → (sm ss j).ok) (hq40 : q ≤ 40)
    (hl0 : 1 ≤ l) (hl : l ≤ 4) (hw1 : 1 ≤ wd) (hw8 : wd ≤ 8) : ∃ D, Asks w v l wd q D := by
  rcases h.samples hq with ⟨rfl, rfl⟩ | ⟨g, cap, rfl, hr, hc, hcm⟩
  · exact ⟨0, Nat.le_refl _, fun w1 _ => (unfair_nil l wd w1).mono fun e w' h => h, fun w1 _ => (First_nil l wd w1 hl0 hl hw1 hw8).mono fun e w' h => h⟩
  · refine ⟨firstBad (bad (ss.take q) l wd) q 0, by have := firstBad_le (bad (ss.take q) l wd) q 0; omega, fun w1 hb => ?_, fun w1 hb => ?_⟩
    · exact unfair_calls g q cap l wd _ w1 (hr.below hb) (fun j hj => by rw [sm_takeq hq hj]; exact hok j (by omega)) hq40 hc hcm hl hw1 hw8
    · exact First_calls g q cap l wd _ w1 (hr.below hb) (fun j hj => by rw [sm_takeq hq hj]; exact hok j (by omega)) hq40 hc hcm hl0 hl hw1 hw8

set_option maxHeartbeats 4000000 in
set_option maxRecDepth 1000000 in
theorem Top_calls (n0 n1 b o n cap : Nat) (rs : List Raw) (w : World) (h0 : n0 < 256) (h1 : n1 < 256) (A : Option Addr) (hA : 0 < n → A = some ⟨b, o, none⟩) (hr : RW w b o n rs) (hc : n ≤ cap) (hcm : cap ≤ maxLen) :
    Calls Try.prog 3 #[.int .u8 n0, .int .u8 n1, .slice A n cap] w fun e w' => e = .returned (.bool true) ∧ Below w.heap.size w w' := by
  obtain ⟨i0, hi0, hz0, hz1, hz2⟩ := info_parts info28
  have HR := Lib.hid hr
  have HAD := Lib.hid hA
  clear hr hA
  unfold maxLen at hcm
  obtain ⟨q, hq⟩ : ∃ q, q = min n 40 := ⟨_, rfl⟩
  have hmin : min (n : Int) 40 = (q : Int) := by omega
  have hmax : max (q : Int) 0 = (q : Int) := by omega
  have hq40 : q ≤ 40 := by omega
  have hqn : q ≤ n := by omega
  obtain ⟨l, hl⟩ : ∃ l, l = 1 + n0 % 4 := ⟨_, rfl⟩
  obtain ⟨wd, hwd⟩ : ∃ wd, wd = 1 + n1 % 8 := ⟨_, rfl⟩
  have hli : 1 + (n0 : Int) % 4 = (l : Int) := by omega
  have hwi : 1 + (n1 : Int) % 8 = (wd : Int) := by omega
  have hl0 : 1 ≤ l := by omega
  have hl4 : l ≤ 4 := by omega
  have hw1 : 1 ≤ wd := by omega
  have hw8 : wd ≤ 8 := by omega
  clear hq hl hwd
  go_enter Try.func3, Try.ntmps3
  go_wp2
  go_loopg [9, 32] q (fun gh v9 v32 wr => ∃ (k : Nat) (As : Nat → Option Addr) (Cs : Nat → Nat), k + gh = q ∧ v32 = .int .i64 k ∧ Bld w wr k v9 (rs.map toSmp) As Cs)
  case atStart => exact ⟨0, fun _ => none, fun _ => 0, by omega, rfl, Below.refl _ _, World.ownsRow_nil _ _ _ _, fun j h => absurd h (by omega), fun j h => absurd h (by omega)⟩
  case round =>
    rename_i v9 _
    obtain ⟨k, As, Cs, hk, rfl, hB⟩ := hrel
    have HB := Lib.hid hB
    clear hB
    cases gk with
    | zero =>
      have hge : ¬ ((k : Int) < (q : Int)) := by omega
      have hkq : k = q := by omega
      subst hkq
      obtain ⟨D, hD⟩ := HB.out.asks (l := l) (wd := wd) (by rw [List.length_map, HR.out.1]; exact hqn) (fun j hj => by
        have hj' : j < rs.length := by simpa using hj
        rw [sm_raw hj']
        exact toSmp_ok (HR.out.2.1 _ (List.getElem_mem _))) hq40 hl0 hl4 hw1 hw8
      have HD := Lib.hid hD
      have hDq := hD.le
      have HB0 := Lib.hid HB.out.below
      obtain ⟨A0, c0, rfl⟩ := own_slice HB.out.own
      clear hD HB
      go_wp2_with fail
      refine (HD.out.six _ (Below.refl _ _)).mono ?_
      rintro e w1 ⟨rfl, hb1⟩
      have HB1 := Lib.hid hb1
      clear hb1
      have H8 : ∀ w2, Below wr.heap.size wr w2 → Calls Try.prog 8 #[.int .i64 l, .int .i64 wd, .slice A0 k c0] w2 fun e w' => e = .returned (.bool (!decide (D < k))) ∧ Below w2.heap.size w2 w' := fun w2 h2 => Fair_calls _ _ _ _ _ w2 (HD.out.seven w2 h2)
      have HE := Lib.hid H8
      clear H8
      go_upto_region 21 with ((go_at_call 7; refine (HD.out.seven _ HB1.out).mono ?_; rintro e w2 ⟨rfl, hb2⟩; have HB2 := Lib.hid (below_then HB1.out HB1.out.size hb2); clear hb2))
      have hcf : ∀ j u, (#[Value.int .i64 1, .int .i64 2, .int .i64 2, .int .i64 2, .int .i64 2, .int .i64 0] : Array Value)[j]? = some u → (w2.alloc (.cells #[.int .i64 1, .int .i64 2, .int .i64 2, .int .i64 2, .int .i64 2, .int .i64 0] 34)).cell? ⟨w2.heap.size, j, none⟩ = some u := fun j u h => (new_at rfl).trans h
      have HCF := Lib.hid hcf
      have HB3 := Lib.hid (HB2.out.alloc HB2.out.size (.cells #[.int .i64 1, .int .i64 2, .int .i64 2, .int .i64 2, .int .i64 2, .int .i64 0] 34))
      clear hcf HB1 HB2
      generalize w2.alloc (.cells #[.int .i64 1, .int .i64 2, .int .i64 2, .int .i64 2, .int .i64 2, .int .i64 0] 34) = w3 at *
      by_cases hlt : D < k
      · have hlt' : (D : Int) < (k : Int) := by omega
        have hne : ((D : Int) == (k : Int)) = false := by rw [beq_eq_false_iff_ne]; omega
        have HE2 := HE.out
        rw [decide_eq_true hlt] at HE2 ⊢
        have HE3 := Lib.hid HE2
        clear HE HE2 hlt
        go_wp2_with fail
        refine (HE3.out _ HB3.out).mono ?_
        rintro e w4 ⟨rfl, hb4⟩
        have HB4 := Lib.hid (below_then HB3.out HB3.out.size hb4)
        have HC4 := Lib.hid (fun j u h => cell_below hb4 (HCF.out j u h))
        clear hb4
        go_wp2_with fail
        refine (Fair_calls _ _ _ _ _ _ (First_none wd _ _)).mono ?_
        rintro e w5 ⟨rfl, hb5⟩
        have HB5 := Lib.hid (below_then HB4.out HB4.out.size hb5)
        have HC5 := Lib.hid (fun j u h => cell_below hb5 (HC4.out j u h))
        have p0 := HC5.out 0 _ rfl
        have p1 := HC5.out 1 _ rfl
        have p2 := HC5.out 2 _ rfl
        have p3 := HC5.out 3 _ rfl
        have p4 := HC5.out 4 _ rfl
        have p5 := HC5.out 5 _ rfl
        clear hb5 HB4 HC4
        go_wp2_with fail
        refine (Bound1_calls _).mono ?_
        rintro e w6 ⟨rfl, hb6⟩
        have HB6 := Lib.hid (below_then HB5.out HB5.out.size hb6)
        clear p0 p1 p2 p3 p4 p5
        have HC6 := Lib.hid (fun j u h => cell_below hb6 (HC5.out j u h))
        have p0 := HC6.out 0 _ rfl
        have p1 := HC6.out 1 _ rfl
        have p2 := HC6.out 2 _ rfl
        have p3 := HC6.out 3 _ rfl
        have p4 := HC6.out 4 _ rfl
        have p5 := HC6.out 5 _ rfl
        clear hb6 HB5 HC5
        go_wp2_with fail
        refine (Bound0_calls _).mono ?_
        rintro e w7 ⟨rfl, hb7⟩
        have HB7 := Lib.hid (below_then HB6.out HB6.out.size hb7)
        clear hb7
        go_wp2_with fail
        go_ret
        exact ⟨rfl, below_then HB0.out HB0.out.size HB7.out⟩
      · have hlt' : ¬ (D : Int) < (k : Int) := by omega
        have hne : ((D : Int) == (k : Int)) = true := by rw [beq_iff_eq]; omega
        have HE2 := HE.out
        rw [decide_eq_false hlt] at HE2 ⊢
        have HE3 := Lib.hid HE2
        clear HE HE2 hlt
        go_wp2_with fail
        refine (HE3.out _ HB3.out).mono ?_
        rintro e w4 ⟨rfl, hb4⟩
        have HB4 := Lib.hid (below_then HB3.out HB3.out.size hb4)
        have HC4 := Lib.hid (fun j u h => cell_below hb4 (HCF.out j u h))
        clear hb4
        go_wp2_with fail
        refine (Fair_calls _ _ _ _ _ _ (First_none wd _ _)).mono ?_
        rintro e w5 ⟨rfl, hb5⟩
        have HB5 := Lib.hid (below_then HB4.out HB4.out.size hb5)
        have HC5 := Lib.hid (fun j u h => cell_below hb5 (HC4.out j u h))
        have p0 := HC5.out 0 _ rfl
        have p1 := HC5.out 1 _ rfl
        have p2 := HC5.out 2 _ rfl
        have p3 := HC5.out 3 _ rfl
        have p4 := HC5.out 4 _ rfl
        have p5 := HC5.out 5 _ rfl
        clear hb5 HB4 HC4
        go_wp2_with fail
        refine (Bound1_calls _).mono ?_
        rintro e w6 ⟨rfl, hb6⟩
        have HB6 := Lib.hid (below_then HB5.out HB5.out.size hb6)
        clear p0 p1 p2 p3 p4 p5
        have HC6 := Lib.hid (fun j u h => cell_below hb6 (HC5.out j u h))
        have p0 := HC6.out 0 _ rfl
        have p1 := HC6.out 1 _ rfl
        have p2 := HC6.out 2 _ rfl
        have p3 := HC6.out 3 _ rfl
        have p4 := HC6.out 4 _ rfl
        have p5 := HC6.out 5 _ rfl
        clear hb6 HB5 HC5
        go_wp2_with fail
        refine (Bound0_calls _).mono ?_
        rintro e w7 ⟨rfl, hb7⟩
        have HB7 := Lib.hid (below_then HB6.out HB6.out.size hb7)
        clear hb7
        go_wp2_with fail
        go_ret
        exact ⟨rfl, below_then HB0.out HB0.out.size HB7.out⟩
    | succ gh =>
      have hlt : (k : Int) < (q : Int) := by omega
      have hAe := HAD.out (by omega)
      clear HAD
      subst hAe
      have hkn : k < rs.length := by have := HR.out.1; omega
      obtain ⟨c0, c1, c2, c3, c4, c5⟩ := HR.out.2.2 k hkn
      have d0 := cell_below HB.out.below c0
      have d1 := cell_below HB.out.below c1
      have d2 := cell_below HB.out.below c2
      have d3 := cell_below HB.out.below c3
      have d4 := cell_below HB.out.below c4
      have d5 := cell_below HB.out.below c5
      have hrok := HR.out.2.1 rs[k] (List.getElem_mem _)
      have r0 := hrok.h0
      have r1 := hrok.h1
      have r2 := hrok.h2
      have r3 := hrok.h3
      have r4 := hrok.h4
      have HSM := Lib.hid (sm_raw hkn)
      clear c0 c1 c2 c3 c4 c5 hrok
      go_upto_if 55 with fail
      obtain ⟨wS, hwS⟩ : ∃ wS : World, wS = wr := ⟨_, rfl⟩
      subst hwS
      go_cut [] (fun wx => Box wS wx rs[k] (.slice none 0 0))
      case first =>
        by_cases hk0 : rs[k].kind % 3 = 0
        · have hk0' : ((rs[k].kind : Int) % 3 == 0) = true := by rw [beq_iff_eq]; omega
          rw [hk0']
          have HK := Lib.hid hk0
          clear hk0
          go_wp2
          go_meet
          exact Box.start wS _ _ _ (by simp only [toSmp]; rw [if_pos HK.out]; omega) (by simp only [toSmp]; rw [if_pos HK.out]; omega)
        · have hk0' : ((rs[k].kind : Int) % 3 == 0) = false := by rw [beq_eq_false_iff_ne]; omega
          rw [hk0']
          have HK := Lib.hid hk0
          clear hk0
          go_wp2
          go_meet
          exact Box.start wS _ _ _ (by simp only [toSmp]; rw [if_neg HK.out]) (by simp only [toSmp]; rw [if_neg HK.out])
      case rest =>
        have HX := Lib.hid hcut
        clear hcut
        go_upto_block 2 with fail
        go_cut [] (fun wx => ∃ va, Box wS wx rs[k] va ∧ wx.ownsRow (wS.heap.size + 2) 3 1 va (toSmp rs[k]).act.length (ints (toSmp rs[k]).act))
        case first =>
          go_wp2
          go_loopg [62] 4 (fun g2 v62 wy => ∃ (m : Nat) (va : Value), m + g2 = 4 ∧ v62 = .int .i64 m ∧ Box wS wy rs[k] va ∧ wy.ownsRow (wS.heap.size + 2) 3 1 va (actTo rs[k].act m).length (ints (actTo rs[k].act m)))
          case atStart => exact ⟨0, _, by omega, rfl, HX.out, World.ownsRow_nil _ _ _ _⟩
          case round =>
            obtain ⟨m, va, hm, rfl, hb, ho⟩ := hrel
            have HBX := Lib.hid hb
            have HO := Lib.hid ho
            clear hb ho
            cases gk with
            | zero =>
              have hge : ¬ ((m : Int) < (4 : Int)) := by omega
              have hm4 : m = 4 := by omega
              subst hm4
              go_wp2
              go_meet
              exact ⟨va, HBX.out, HO.out⟩
            | succ g2 =>
              have hlt : (m : Int) < (4 : Int) := by omega
              have e3 := HBX.out.c3
              have e3b := HBX.out.s3
              have zf := HBX.out.zf 3
              go_upto_if 71 with fail
              by_cases hbit : rs[k].act / 2 ^ m % 2 = 1
              · rw [bit_yes r3 hbit]
                have HA := Lib.hid (act_yes hbit)
                have hlen : (actTo rs[k].act m).length ≤ m := (actTo_bd _ m).1
                have hsz := HBX.out.size
                have hltb := fun b h => (HO.out.lt b h).1
                have HLT := Lib.hid hltb
                clear hbit hltb
                go_wp2_with (at_builtin; refine wpList_app1 rfl _ _ rfl _ (wS.heap.size + 2) _ _ _ _ HO.out rfl rfl ?b1 hsz ?_)
                case b1 => omega
                intro v' w' hown hgr
                obtain ⟨A2, c2, rfl⟩ := own_slice hown
                have n1 : some (wS.heap.size + 1) ≠ va.ownBlock := fun e => by have := HLT.out _ e.symm; omega
                have f3 := far hgr n1 HBX.out.s3
                have fz := far_frozen hgr n1 HBX.out.s3 (HBX.out.zf 3)
                have hb2 := HBX.out.app (va' := .slice A2 ((actTo rs[k].act m).length + 1) c2) hgr HLT.out
                have hne : (Value.slice A2 ((actTo rs[k].act m).length + 1) c2).ownBlock ≠ some (wS.heap.size + 1) := fun e => by have := (hown.lt _ e).1; omega
                have hown2 := hown.kept (set_grown w' (wS.heap.size + 1) 3 (.slice A2 ((actTo rs[k].act m).length + 1) c2)) (.inr hne)
                have HO2 := Lib.hid hown2
                have HB2 := Lib.hid hb2
                clear hown hown2 hb2 hgr n1 hne
                go_wp2
                go_roundg g2
                case measure => omega
                case rel => exact ⟨m + 1, _, by omega, by go_num, HB2.out, by rw [HA.out, List.length_append]; exact HO2.out⟩
              · rw [bit_no r3 hbit]
                have HA := Lib.hid (act_no hbit)
                clear hbit
                go_wp2
                go_roundg g2
                case measure => omega
                case rel => exact ⟨m + 1, va, by omega, by go_num, HBX.out, by rw [HA.out]; exact HO.out⟩
        case rest =>
          obtain ⟨va, hb, ho⟩ := hcut
          obtain ⟨A, c, rfl, hnc, hri⟩ := own_RI ho
          have HBX := Lib.hid hb
          have HRI := Lib.hid hri
          have HO := Lib.hid ho
          have g0 := hb.s0
          have g1 := hb.s1
          have g2 := hb.s2
          have g3 := hb.s3
          have g4 := hb.s4
          have g5 := hb.s5
          have hA : ∀ ad, A = some ad → wS.heap.size ≤ ad.block ∧ ad.block < wc.heap.size := fun ad e => by
            have := ho.lt ad.block (by rw [e]; rfl)
            omega
          obtain ⟨A0, c0, rfl⟩ := own_slice HB.out.own
          have HOW := Lib.hid (own_below HB.out.own hb.below)
          have hsz : w.heap.size ≤ wc.heap.size := Nat.le_trans HB.out.below.size hb.below.size
          have HA := Lib.hid hA
          have HNEW := Lib.hid (World.news_of_block (cs := #[.int .i64 (toSmp rs[k]).kind, .int .i64 (toSmp rs[k]).a, .int .i64 (toSmp rs[k]).ns, .slice A (toSmp rs[k]).act.length c, .int .i64 (toSmp rs[k]).g, .bool (toSmp rs[k]).safe]) (t := 28) (fr := (0, 0)) (heap_alloc_new wc _))
          clear hb ho hri hA
          go_upto_region 16 with fail
          go_wp2_with (at_builtin; refine wpList_append_lies _ rfl _ _ _ rfl w.heap.size 28 i0 _ 6 64 Try.underlying23 hi0 hz0 hz1 hz2 rfl (by omega) (.slice A0 k c0) k _ rfl (HOW.out.alloc _) ⟨wc.heap.size, 0, none⟩ 1 1 (smpCells (toSmp rs[k]) A c) rfl rfl HNEW.out (smp_one _ _ _) (by omega) (by unfold maxLen; omega) (by omega) (by simp; omega) (wc.heap.size + 1) (by simp) ?_; intro gg cap w2 hown1 hgrow hat hlt)
          have hstep := HB.out.step HBX.out.below (by rw [HSM.out]; exact HRI.out) HA.out hgrow (by rw [HSM.out]; exact hown1) hat
          clear hown1 hgrow hat
          have HST := Lib.hid hstep
          clear hstep
          go_roundg gh
          case measure => omega
          case rel => exact ⟨k + 1, _, _, by omega, by go_num, HST.out⟩
end Go.Proofs.Ytciiihiklobkaaa.Meas
