/-
  (*fair.row).window by a walk.
-/
import Derived.Test.YtciiihiklobkaaaMeasB
import Derived.Test.YtciiihiklobkaaaMeasA
import Derived.Test.YtciiihiklobkaaaMeasD
namespace Go.Proofs.Ytciiihiklobkaaa.Meas
open Go.RowKit
set_option linter.unusedVariables false
set_option linter.unusedSimpArgs false

theorem left_eqI {w : World} {b r n cnt : Nat} {f : Int → Option Int} {left : Int → Bool} (h : RangeI w b r n f left cnt) : w.rangeLeft b r = cnt := by obtain ⟨D, lf, h, hv, _⟩ := h; exact h.left_eq
theorem below_of_grown {w w' : World} (h : w.grownBy w' none) : Below w.heap.size w w' := ⟨h.os, h.tape, h.output, h.size, fun i hi => h.block i hi (by simp)⟩
theorem below_turn {B r : Nat} {w w1 w2 : World} (h : Below B w w1) (hr : B ≤ r) (hB : B ≤ w1.heap.size) (k : w1.grownBy w2 (some r)) : Below B w w2 :=
  h.trans ⟨k.os, k.tape, k.output, k.size, fun i hi => k.block i (Nat.lt_of_lt_of_le hi hB) (by intro e; injection e with e; omega)⟩
theorem step_late {L : Int → Bool} {left : Int → Bool} {x y : Int} (h : ∀ z, left z = false → L z = false) (hx : L x = false) (hy : (left y && !decide (y = x)) = false) : L y = false := by
  by_cases e : y = x
  · rw [e]; exact hx
  · rw [decide_eq_false e] at hy
    exact h y (by simpa using hy)
/-- What window tells. -/
def fine (f g : Int → Option Int) (mon : Int) (po : Nat) (part : List Smp) : Bool :=
  !(decide (mon < po) || decide (longOf part < 10000000) || (List.range 16).any fun m => lateB f g po m)
theorem fine_mon {f g : Int → Option Int} {mon : Int} {po : Nat} {part : List Smp} (h : mon < po) : fine f g mon po part = false := by unfold fine; rw [decide_eq_true h]; rfl
theorem fine_late {f g : Int → Option Int} {mon : Int} {po : Nat} {part : List Smp} {x : Int} (h0 : 0 ≤ x) (h1 : x ≤ 3) (h : lateB f g po x = true) : fine f g mon po part = false := by
  unfold fine
  have : ((List.range 16).any fun m : Nat => lateB f g po m) = true := by
    rw [List.any_eq_true]
    exact ⟨x.toNat, by simp; omega, by rw [show ((x.toNat : Nat) : Int) = x from by omega]; exact h⟩
  rw [this, Bool.or_true]; rfl
theorem fine_else {f g : Int → Option Int} {mon : Int} {po : Nat} {part : List Smp} (h : ¬ mon < po) (hl : ∀ x, lateB f g po x = false) : fine f g mon po part = decide (10000000 ≤ longOf part) := by
  unfold fine
  have : ((List.range 16).any fun m : Nat => lateB f g po m) = false := by
    rw [List.any_eq_false]
    intro m _
    rw [hl]
    exact Bool.false_ne_true
  rw [this, Bool.or_false, decide_eq_false h, Bool.false_or]
  by_cases hx : longOf part < 10000000
  · rw [decide_eq_true hx, decide_eq_false (by omega)]; rfl
  · rw [decide_eq_false hx, decide_eq_true (by omega)]; rfl
theorem longOf_app (p q : List Smp) : longOf p ≤ longOf (p ++ q) := by
  have key : ∀ (q : List Smp) (c : Int), c ≤ q.foldl (fun c x => c + max 0 x.ns) c := by
    intro q
    induction q with
    | nil => intro c; exact Int.le_refl _
    | cons x q ih => intro c; have := ih (c + max 0 x.ns); simp only [List.foldl_cons]; omega
  unfold longOf
  rw [List.foldl_append]
  exact key q _
theorem longOf_take (p : List Smp) (j : Nat) : longOf (p.take j) ≤ longOf p := by
  have := longOf_app (p.take j) (p.drop j)
  rwa [List.take_append_drop] at this
theorem lateB_none {f g : Int → Option Int} {po x : Int} (h : f x = none) : lateB f g po x = false := by unfold lateB; rw [h]
theorem lateB_some {f g : Int → Option Int} {po x c : Int} (h : f x = some c) : lateB f g po x = (decide (c ≤ po) && (!(g x).isSome || decide ((g x).getD 0 < po))) := by unfold lateB; rw [h]

set_option maxHeartbeats 4000000 in
set_option maxRecDepth 1000000 in
theorem window_calls (rb b2 b3 k2 k3 g n cap po wd : Nat) (f h : Int → Option Int) (mon : Int) (ss : List Smp) (w : World)
    (hc2 : w.cell? ⟨rb, 2, none⟩ = some (.slice (some ⟨g, 0, none⟩) (n + 1) cap)) (hc4 : w.cell? ⟨rb, 4, none⟩ = some (.map (some b2))) (hc5 : w.cell? ⟨rb, 5, none⟩ = some (.map (some b3))) (hc6 : w.cell? ⟨rb, 6, none⟩ = some (.int .i64 mon))
    (hr : RS w g 0 (n + 1) ss) (hm2 : MapI w b2 k2 f) (hm3 : MapI w b3 k3 h) (hok : ∀ j, j < n + 1 → (sm ss j).ok) (hf : ∀ x c, f x = some c → 0 ≤ x ∧ x ≤ 3) (hn : n < 40) (hpo : po + wd = n + 1) (hcap : n + 1 ≤ cap) (hcm : cap ≤ maxLen) :
    Calls Try.prog 49 #[.pointer (some ⟨rb, 0, none⟩), .int .i64 po] w fun e w' => e = .returned (.bool (fine f h mon po (partOf ss n wd))) ∧ Below w.heap.size w w' := by
  have HR := Lib.hid hr
  have HM2 := Lib.hid hm2
  have HM3 := Lib.hid hm3
  have HOK := Lib.hid hok
  have HF := Lib.hid hf
  have HPO := Lib.hid hpo
  have hpl : po ≤ n + 1 := by omega
  have hwd : wd ≤ 40 := by omega
  unfold maxLen at hcm
  clear hr hm2 hm3 hok hf hpo
  go_enter Try.func49, Try.ntmps49
  by_cases hmon : mon < (po : Int)
  · have HRES := Lib.hid (fine_mon (f := f) (g := h) (part := partOf ss n wd) hmon)
    go_wp2
    go_step3
    go_wp2
    try rw [Exit.noGoto_ret]
    go_ret
    exact ⟨ret_bool HRES.out.symm, Below.refl _ _⟩
  · go_wp2
    go_step3
    go_wp2_with (first
      | (at_range; refine wpList_rangeI rfl _ rfl _ b2 k2 f HM2.out rfl ?_; intro w0 cnt hrg0 hg0 hs0)
      | go_in)
    go_frame
    have HB0 := Lib.hid (below_of_grown hg0)
    have HRG := Lib.hid hrg0
    clear hg0 hrg0
    go_loopg [5] cnt (fun gh v5 wr => ∃ left : Int → Bool, RangeI wr b2 w.heap.size k2 f left gh ∧ Below w.heap.size w wr ∧ Aside (∀ x, left x = false → lateB f h po x = false))
    case atStart => exact ⟨_, HRG.out, HB0.out, fun x hx => lateB_none (by simpa using hx)⟩
    case round =>
      obtain ⟨left, hrg, hb, HL⟩ := hrel
      have HRG1 := Lib.hid hrg
      have HB1 := Lib.hid hb
      clear hrg hb
      go_wp2_with (first
        | (at_next; refine wpList_nextI rfl _ rfl _ b2 w.heap.size k2 f left _ HRG1.out rfl ?_ ?_)
        | go_in)
      · intro hl0
        have HFI := Lib.hid (fine_else (f := f) (g := h) (part := partOf ss n wd) (po := po) (mon := mon) (by omega) (fun x => HL.out x (hl0 x)))
        clear hl0 HL HRG1
        have c2 := cell_below HB1.out hc2
        have hsub : (n : Int) + 1 - (po : Int) = (wd : Int) := by have := HPO.out; omega
        go_wp2
        go_step3
        go_wp2
        have hlen := partOf_length (ss := ss) (i := n) (w := wd) (by rw [HR.out.1]; omega) (by omega)
        have HLEN := Lib.hid hlen
        clear hlen
        have hns : ∀ x ∈ partOf ss n wd, x.ns ≤ 46000000 := by
          intro x hx
          obtain ⟨j, hj, rfl⟩ := List.mem_iff_getElem.1 hx
          rw [HLEN.out] at hj
          rw [← sm_at, sm_part (by rw [HR.out.1]; omega) HPO.out hj]
          exact (HOK.out _ (by have := HPO.out; omega)).n1
        have HNS := Lib.hid hns
        clear hns
        go_loopg [9, 55] wd (fun g2 v9 v55 wy => ∃ j : Nat, j + g2 = wd ∧ v55 = .int .i64 j ∧ v9 = .int .u64 (longOf ((partOf ss n wd).take j)) ∧ longOf ((partOf ss n wd).take j) < 10000000 ∧ Below w.heap.size w wy)
        case atStart => exact ⟨0, by omega, rfl, rfl, by show (0 : Int) < 10000000; omega, HB1.out⟩
        case round =>
          obtain ⟨j, hj, rfl, rfl, hlt0, hb⟩ := hrel
          have HB2 := Lib.hid hb
          clear hb
          cases gk with
          | zero =>
            have hge : ¬ ((j : Int) < (wd : Int)) := by omega
            have hjw : j = wd := by omega
            have hfull : (partOf ss n wd).take j = partOf ss n wd := List.take_of_length_le (by rw [HLEN.out]; omega)
            rw [hfull] at hlt0
            rw [hfull]
            have HRES := Lib.hid (HFI.out.trans (decide_eq_false (by omega)))
            clear hjw hfull
            have hnn : ¬ (10000000 ≤ longOf (partOf ss n wd)) := by omega
            go_wp2
            try rw [Exit.noGoto_ret]
            go_ret
            exact ⟨ret_bool HRES.out.symm, HB2.out⟩
          | succ g2 =>
            have hltj : (j : Int) < (wd : Int) := by omega
            have hjw : j < wd := by omega
            obtain ⟨q, hq⟩ : ∃ q, q = po + j := ⟨_, rfl⟩
            have hqn : q < n + 1 := by have := HPO.out; omega
            have hqi : (po : Int) + (j : Int) = (q : Int) := by omega
            obtain ⟨Aj, cj, d0, d1, d2, d3, d4, d5, hra⟩ := (HR.out.below HB2.out).2 q hqn
            simp only [Nat.zero_add] at d0 d1 d2 d3 d4 d5
            clear hra d0 d1 d3 d4 d5
            have c2 := cell_below HB2.out hc2
            have htk := take_sm (ss := partOf ss n wd) (j := j) (by rw [HLEN.out]; exact hjw)
            rw [sm_part (by rw [HR.out.1]; omega) HPO.out hjw, ← hq] at htk
            have hnx := longOf_snoc ((partOf ss n wd).take j) (sm ss q)
            rw [← htk] at hnx
            have HNX := Lib.hid hnx
            have hn1 : (sm ss q).ns ≤ 46000000 := (HOK.out q hqn).n1
            have hbd := (longOf_bd ((partOf ss n wd).take j) (fun x hx => HNS.out x (List.mem_of_mem_take hx))).1
            have HTAKE := Lib.hid (longOf_take (partOf ss n wd) (j + 1))
            clear htk hnx hq
            generalize longOf ((partOf ss n wd).take j) = a at *
            generalize (sm ss q).ns = y at *
            have hmx : ∃ z, max 0 y = z ∧ 0 ≤ z ∧ z ≤ 46000000 ∧ longOf ((partOf ss n wd).take (j + 1)) = a + z := ⟨_, rfl, by omega, by omega, HNX.out⟩
            obtain ⟨z, hz, hz0, hz1, heq⟩ := hmx
            rw [heq] at HTAKE
            have HEQ := Lib.hid heq
            clear heq
            clear HNX
            go_upto_region 14 with (first
              | (go_at_call 16; refine (sum2 _ a z (a + z) _ (by simp) (by simp) (by omega) (by omega) (by omega)).mono ?_; rintro e w' ⟨rfl, rfl⟩))
            have HB3 := Lib.hid (HB2.out.alloc HB2.out.size (Obj.cells #[Value.int IntKind.u64 a, Value.int IntKind.u64 z] 52))
            by_cases hge : (10000000 : Int) ≤ a + z
            · have HRES := Lib.hid (HFI.out.trans (decide_eq_true (Int.le_trans hge HTAKE.out)))
              go_wp2
              try rw [Exit.noGoto_ret]
              go_ret
              exact ⟨ret_bool HRES.out.symm, HB3.out⟩
            · go_wp2
              go_roundg g2
              case measure => omega
              case rel => exact ⟨j + 1, by omega, by go_num, by rw [HEQ.out], by rw [HEQ.out]; omega, HB3.out⟩
      · intro x c w1 cnt1 hx0 hx1 hlx hfx hrg1 hlt hg1 hs1 hen
        have hb1 := below_turn HB1.out (Nat.le_refl _) HB1.out.size hg1
        have c5 := cell_below hb1 hc5
        have hlk := (HM3.out.below hb1).lookok (x := x) (by omega) (by omega)
        have HLS := Lib.hid (lateB_some (f := f) (g := h) (po := po) hfx)
        have HX := Lib.hid (HF.out x c hfx)
        have HB2 := Lib.hid hb1
        have HRG2 := Lib.hid hrg1
        have HLT := Lib.hid hlt
        clear hfx hb1 hrg1 hg1 hs1 hlt HRG1
        generalize (h x).isSome = S at *
        generalize (h x).getD 0 = G at *
        by_cases hcl : c ≤ (po : Int)
        · rw [decide_eq_true hcl, Bool.true_and] at HLS
          cases S with
          | false =>
            have HRES := Lib.hid (fine_late (g := h) (mon := mon) (part := partOf ss n wd) HX.out.1 HX.out.2 HLS.out)
            go_wp2
            try rw [Exit.noGoto_ret]
            go_ret
            exact ⟨ret_bool HRES.out.symm, HB2.out⟩
          | true =>
            by_cases hG : G < (po : Int)
            · rw [decide_eq_true hG] at HLS
              have HRES := Lib.hid (fine_late (g := h) (mon := mon) (part := partOf ss n wd) HX.out.1 HX.out.2 HLS.out)
              go_wp2
              try rw [Exit.noGoto_ret]
              go_ret
              exact ⟨ret_bool HRES.out.symm, HB2.out⟩
            · rw [decide_eq_false hG] at HLS
              go_wp2
              go_roundg cnt1
              case measure => exact HLT.out
              case rel => exact ⟨_, HRG2.out, HB2.out, fun y hy => step_late HL.out HLS.out hy⟩
        · rw [decide_eq_false hcl, Bool.false_and] at HLS
          go_wp2
          go_roundg cnt1
          case measure => exact HLT.out
          case rel => exact ⟨_, HRG2.out, HB2.out, fun y hy => step_late HL.out HLS.out hy⟩
end Go.Proofs.Ytciiihiklobkaaa.Meas
