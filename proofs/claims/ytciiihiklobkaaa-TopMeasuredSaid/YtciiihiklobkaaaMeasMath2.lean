/-
  The plain law of TopMeasured, second part: what is kept of a row so far, and what it tells of the last part.
-/
import Derived.Test.YtciiihiklobkaaaMeasMath
namespace Go.Proofs.Ytciiihiklobkaaa.Meas

/-- Since which sample each M is active. -/
def sinceTo (ss : List Smp) : Nat → Int → Option Int
  | 0 => fun _ => none
  | k + 1 => fun m => if m ∈ (sm ss k).act then some ((sinceTo ss k m).getD k) else none
/-- When each had its last step. -/
def lastTo (ss : List Smp) : Nat → Int → Option Int
  | 0 => fun _ => none
  | k + 1 => fun m => if (sm ss k).kind = 0 ∧ (sm ss k).a = m then some k else lastTo ss k m
def monTo (ss : List Smp) : Nat → Int
  | 0 => -1
  | k + 1 => if (sm ss k).kind = 1 then (k : Int) else monTo ss k
/-- How many actions each did since its last safe point. -/
def runsTo (ss : List Smp) : Nat → Int → Option Int
  | 0 => fun _ => none
  | k + 1 => fun g => if (sm ss k).g = -1 then runsTo ss k g else if g = (sm ss k).g then some (if (sm ss k).safe then 0 else (runsTo ss k g).getD 0 + 1) else runsTo ss k g

theorem runs_many (ss : List Smp) (g : Int) (hg : g ≠ -1) : ∀ k, k ≤ ss.length → (runsTo ss k g).getD 0 = (manyOf g (ss.take k) : Nat)
  | 0, _ => by simp [runsTo, manyOf]
  | k + 1, h => by
    have ih := runs_many ss g hg k (by omega)
    rw [take_sm (by omega), manyOf_snoc]
    unfold runsTo
    by_cases h1 : (sm ss k).g = -1
    · rw [if_pos h1, if_neg (by rw [h1]; exact fun e => hg e.symm)]; exact ih
    · rw [if_neg h1]
      by_cases h2 : g = (sm ss k).g
      · rw [if_pos h2, if_pos h2.symm]
        cases hs : (sm ss k).safe with
        | true => simp
        | false => simp [ih]
      · rw [if_neg h2, if_neg (fun e => h2 e.symm)]; exact ih

theorem since_some (ss : List Smp) (m : Int) : ∀ k s, sinceTo ss k m = some s → 0 ≤ s ∧ s < k ∧ (∀ j : Nat, s ≤ j → j < k → m ∈ (sm ss j).act) ∧ (s = 0 ∨ ∃ j : Nat, (j : Int) + 1 = s ∧ m ∉ (sm ss j).act)
  | 0, s, h => by cases h
  | k + 1, s, h => by
    unfold sinceTo at h
    by_cases hm : m ∈ (sm ss k).act
    · rw [if_pos hm] at h
      cases hk : sinceTo ss k m with
      | none =>
        rw [hk] at h
        simp at h
        subst h
        refine ⟨by omega, by omega, fun j a b => ?_, ?_⟩
        · obtain rfl : j = k := by omega
          exact hm
        · cases k with
          | zero => exact .inl rfl
          | succ k =>
            right
            refine ⟨k, by omega, fun hc => ?_⟩
            unfold sinceTo at hk
            rw [if_pos hc] at hk
            cases hk
      | some s' =>
        rw [hk] at h
        simp at h
        subst h
        obtain ⟨a, b, c, d⟩ := since_some ss m k s' hk
        refine ⟨a, by omega, fun j h1 h2 => ?_, d⟩
        rcases Nat.lt_or_ge j k with h3 | h3
        · exact c j h1 h3
        · obtain rfl : j = k := by omega
          exact hm
    · rw [if_neg hm] at h; cases h
/-- Active all the while from some sample on. -/
theorem since_iff (ss : List Smp) (m : Int) (k frm : Nat) (h : frm < k) : (∃ s, sinceTo ss k m = some s ∧ s ≤ (frm : Int)) ↔ ∀ j, frm ≤ j → j < k → m ∈ (sm ss j).act := by
  constructor
  · rintro ⟨s, hs, hle⟩ j h1 h2
    exact (since_some ss m k s hs).2.2.1 j (by omega) h2
  · intro hall
    cases hk : sinceTo ss k m with
    | none =>
      cases k with
      | zero => omega
      | succ k =>
        unfold sinceTo at hk
        rw [if_pos (hall k (by omega) (by omega))] at hk
        cases hk
    | some s =>
      refine ⟨s, rfl, ?_⟩
      obtain ⟨a, b, c, d⟩ := since_some ss m k s hk
      rcases d with d | ⟨j, hj, hn⟩
      · omega
      · rcases Nat.lt_or_ge j frm with h1 | h1
        · omega
        · exact absurd (hall j h1 (by omega)) hn
theorem last_iff (ss : List Smp) (m : Int) (frm : Nat) : ∀ k, (∃ s, lastTo ss k m = some s ∧ (frm : Int) ≤ s) ↔ ∃ j, frm ≤ j ∧ j < k ∧ (sm ss j).kind = 0 ∧ (sm ss j).a = m
  | 0 => by simp [lastTo]
  | k + 1 => by
    have ih := last_iff ss m frm k
    unfold lastTo
    by_cases hk : (sm ss k).kind = 0 ∧ (sm ss k).a = m
    · rw [if_pos hk]
      constructor
      · rintro ⟨s, hs, hle⟩
        simp at hs
        exact ⟨k, by omega, by omega, hk⟩
      · rintro ⟨j, h1, h2, h3⟩
        exact ⟨k, rfl, by omega⟩
    · rw [if_neg hk, ih]
      constructor
      · rintro ⟨j, h1, h2, h3⟩; exact ⟨j, h1, by omega, h3⟩
      · rintro ⟨j, h1, h2, h3⟩
        refine ⟨j, h1, ?_, h3⟩
        rcases Nat.lt_or_ge j k with h4 | h4
        · exact h4
        · obtain rfl : j = k := by omega
          exact absurd h3 hk
theorem mon_iff (ss : List Smp) (frm : Nat) : ∀ k, (frm : Int) ≤ monTo ss k ↔ ∃ j, frm ≤ j ∧ j < k ∧ (sm ss j).kind = 1
  | 0 => by simp [monTo]; omega
  | k + 1 => by
    have ih := mon_iff ss frm k
    unfold monTo
    by_cases hk : (sm ss k).kind = 1
    · rw [if_pos hk]
      constructor
      · intro h; exact ⟨k, by omega, by omega, hk⟩
      · rintro ⟨j, h1, h2, h3⟩; omega
    · rw [if_neg hk, ih]
      constructor
      · rintro ⟨j, h1, h2, h3⟩; exact ⟨j, h1, by omega, h3⟩
      · rintro ⟨j, h1, h2, h3⟩
        refine ⟨j, h1, ?_, h3⟩
        rcases Nat.lt_or_ge j k with h4 | h4
        · exact h4
        · obtain rfl : j = k := by omega
          exact absurd h3 hk

theorem part_any {ss : List Smp} {i w po : Nat} (h : i < ss.length) (hp : po + w = i + 1) (q : Smp → Bool) : (partOf ss i w).any q = true ↔ ∃ j, po ≤ j ∧ j < i + 1 ∧ q (sm ss j) = true := by
  have hl := partOf_length (ss := ss) (i := i) (w := w) h (by omega)
  rw [List.any_eq_true]
  constructor
  · rintro ⟨x, hx, hq⟩
    obtain ⟨j, hj, rfl⟩ := List.mem_iff_getElem.1 hx
    refine ⟨po + j, by omega, by omega, ?_⟩
    rw [← sm_part h hp (by omega), sm_at hj]
    exact hq
  · rintro ⟨j, h1, h2, hq⟩
    refine ⟨sm (partOf ss i w) (j - po), by rw [sm_at (by omega)]; exact List.getElem_mem _, ?_⟩
    rw [sm_part h hp (by omega), show po + (j - po) = j from by omega]
    exact hq
theorem part_all {ss : List Smp} {i w po : Nat} (h : i < ss.length) (hp : po + w = i + 1) (q : Smp → Bool) : (partOf ss i w).all q = true ↔ ∀ j, po ≤ j → j < i + 1 → q (sm ss j) = true := by
  have hl := partOf_length (ss := ss) (i := i) (w := w) h (by omega)
  rw [List.all_eq_true]
  constructor
  · intro hall j h1 h2
    have := hall (sm (partOf ss i w) (j - po)) (by rw [sm_at (by omega)]; exact List.getElem_mem _)
    rwa [sm_part h hp (by omega), show po + (j - po) = j from by omega] at this
  · intro hall x hx
    obtain ⟨j, hj, rfl⟩ := List.mem_iff_getElem.1 hx
    have := hall (po + j) (by omega) (by omega)
    rw [← sm_part h hp (by omega), sm_at hj] at this
    exact this

/-- An M is late: active since the part's begin, without a step in it. -/
def lateB (f g : Int → Option Int) (frm m : Int) : Bool :=
  match f m with
  | none => false
  | some s => decide (s ≤ frm) && (!(g m).isSome || decide ((g m).getD 0 < frm))
theorem late_stuck {ss : List Smp} {i w po : Nat} (h : i < ss.length) (hp : po + w = i + 1) (hw : 1 ≤ w) (m : Int) :
    lateB (sinceTo ss (i + 1)) (lastTo ss (i + 1)) po m = stuck (partOf ss i w) m := by
  have h1 := since_iff ss m (i + 1) po (by omega)
  have h2 := last_iff ss m po (i + 1)
  have ha : allAct (partOf ss i w) m = true ↔ ∀ j, po ≤ j → j < i + 1 → m ∈ (sm ss j).act := by
    unfold allAct
    rw [part_all h hp]
    simp
  have hs : anyStep (partOf ss i w) m = true ↔ ∃ j, po ≤ j ∧ j < i + 1 ∧ (sm ss j).kind = 0 ∧ (sm ss j).a = m := by
    unfold anyStep
    rw [part_any h hp]
    simp
  rw [← h1] at ha
  rw [← h2] at hs
  rw [Bool.eq_iff_iff]
  unfold stuck lateB
  rw [Bool.and_eq_true, ha, Bool.not_eq_true', ← Bool.not_eq_true, hs]
  cases hf : sinceTo ss (i + 1) m with
  | none => simp
  | some s =>
    cases hg : lastTo ss (i + 1) m with
    | none => simp
    | some t => simp
theorem late_range {ss : List Smp} (hok : ∀ j, j < ss.length → (sm ss j).ok) {k : Nat} (hk : k ≤ ss.length) {m s : Int} (h : sinceTo ss k m = some s) : 0 ≤ m ∧ m ≤ 3 := by
  obtain ⟨a, b, c, _⟩ := since_some ss m k s h
  obtain ⟨j, rfl⟩ := Int.eq_ofNat_of_zero_le a
  exact (hok j (by omega)).act1 m (c j (by omega) (by omega))
end Go.Proofs.Ytciiihiklobkaaa.Meas
