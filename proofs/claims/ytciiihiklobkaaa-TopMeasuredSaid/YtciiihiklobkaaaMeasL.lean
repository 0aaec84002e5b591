/-
  What add answers, and what is bad at a sample.
-/
import Derived.Test.YtciiihiklobkaaaMeasF
namespace Go.Proofs.Ytciiihiklobkaaa.Meas
open Go.RowKit

theorem fine_law {ss : List Smp} {k wd po : Nat} (h : k < ss.length) (hp : po + wd = k + 1) (hw : 1 ≤ wd) :
    fine (sinceTo ss (k + 1)) (lastTo ss (k + 1)) (monTo ss (k + 1)) po (partOf ss k wd) = !windowBad (partOf ss k wd) := by
  have hm : decide (monTo ss (k + 1) < (po : Int)) = !anyMon (partOf ss k wd) := by
    have h1 := mon_iff ss po (k + 1)
    have h2 : anyMon (partOf ss k wd) = true ↔ ∃ j, po ≤ j ∧ j < k + 1 ∧ (sm ss j).kind = 1 := by
      unfold anyMon
      rw [part_any h hp]
      simp
    cases ha : anyMon (partOf ss k wd) with
    | true =>
      rw [ha] at h2
      have := h1.2 (h2.1 rfl)
      simp; omega
    | false =>
      have : ¬ (po : Int) ≤ monTo ss (k + 1) := fun hc => by rw [h2.2 (h1.1 hc)] at ha; cases ha
      simp; omega
  have hs : ((List.range 16).any fun m : Nat => lateB (sinceTo ss (k + 1)) (lastTo ss (k + 1)) po m) = (List.range 16).any fun m : Nat => stuck (partOf ss k wd) m := by
    congr 1
    funext m
    exact late_stuck h hp hw m
  unfold fine windowBad
  rw [hm, hs]
theorem runs_none (ss : List Smp) : ∀ k, runsTo ss k (-1) = none
  | 0 => rfl
  | k + 1 => by
    have := runs_none ss k
    unfold runsTo
    by_cases h : (sm ss k).g = -1
    · rw [if_pos h]; exact this
    · rw [if_neg h, if_neg (fun e => h e.symm)]; exact this
theorem runs_bd (ss : List Smp) (g : Int) (k : Nat) (hk : k ≤ ss.length) : 0 ≤ (runsTo ss k g).getD 0 ∧ (runsTo ss k g).getD 0 ≤ k := by
  by_cases h : g = -1
  · subst h; rw [runs_none]; simp
  · rw [runs_many ss g h k hk]
    have := manyOf_le g (ss.take k)
    have := List.length_take_le k ss
    omega
theorem short_law {ss : List Smp} {k l : Nat} (h : k < ss.length) :
    ((sm ss k).g == -1 || decide ((runsF (runsTo ss k) (sm ss k) (sm ss k).g).getD 0 ≤ (l : Int))) = !(decide ((sm ss k).g ≠ -1) && decide (l < manyOf (sm ss k).g (ss.take (k + 1)))) := by
  rw [runsF_to]
  by_cases hg : (sm ss k).g = -1
  · simp [hg]
  · rw [runs_many ss _ hg (k + 1) h]
    have e : ((sm ss k).g == -1) = false := by simpa using hg
    rw [e, Bool.false_or, decide_eq_true hg, Bool.true_and]
    by_cases hl : l < manyOf (sm ss k).g (ss.take (k + 1))
    · rw [decide_eq_true hl, decide_eq_false (by omega)]; rfl
    · rw [decide_eq_false hl, decide_eq_true (by omega)]; rfl
theorem bad_few {ss : List Smp} {k l wd : Nat} {S : Bool} (hs : S = !(decide ((sm ss k).g ≠ -1) && decide (l < manyOf (sm ss k).g (ss.take (k + 1))))) (h : S = false) : (!bad ss l wd k) = false := by
  rw [h] at hs
  unfold bad
  have : (decide ((sm ss k).g ≠ -1) && decide (l < manyOf (sm ss k).g (ss.take (k + 1)))) = true := by
    cases hx : (decide ((sm ss k).g ≠ -1) && decide (l < manyOf (sm ss k).g (ss.take (k + 1)))) with
    | true => rfl
    | false => rw [hx] at hs; cases hs
  rw [this, Bool.or_true]; rfl
theorem bad_win {ss : List Smp} {k l wd : Nat} {S : Bool} (hs : S = !(decide ((sm ss k).g ≠ -1) && decide (l < manyOf (sm ss k).g (ss.take (k + 1))))) (h : S = true) : (!bad ss l wd k) = !(decide (wd ≤ k + 1) && windowBad (partOf ss k wd)) := by
  rw [h] at hs
  unfold bad
  have : (decide ((sm ss k).g ≠ -1) && decide (l < manyOf (sm ss k).g (ss.take (k + 1)))) = false := by
    cases hx : (decide ((sm ss k).g ≠ -1) && decide (l < manyOf (sm ss k).g (ss.take (k + 1)))) with
    | false => rfl
    | true => rw [hx] at hs; cases hs
  rw [this, Bool.or_false]
theorem part_take (ss : List Smp) (k wd : Nat) : partOf (ss.take (k + 1)) k wd = partOf ss k wd := by unfold partOf; rw [List.take_take, Nat.min_self]
theorem sm_take {ss : List Smp} {k j : Nat} (hk : k < ss.length) (h : j < k + 1) : sm (ss.take (k + 1)) j = sm ss j := by
  rw [sm_at (by simp; omega), sm_at (by omega), List.getElem_take]
end Go.Proofs.Ytciiihiklobkaaa.Meas
