/-
  The plain law of TopStrode: the places coprime to n, and going round by one of them; no program here.
-/
namespace Go.Proofs.Ytciiihiklobkaaa.Strode

/-- No d from 2 on divides both. -/
def okN (n k : Nat) : Bool := (List.range (k + 1)).all fun d => decide (d < 2) || !(n % d == 0) || !(k % d == 0)
/-- The strides of n places, as numbers. -/
def stridesN (n : Nat) : List Nat := (List.range' 1 n).filter (okN n)
def strides (n : Nat) : List Int := (stridesN n).map fun (k : Nat) => (k : Int)

theorem okN_iff {n k : Nat} (hk : 1 ≤ k) : okN n k = true ↔ Nat.Coprime k n := by
  unfold okN
  rw [List.all_eq_true]
  constructor
  · intro h
    rcases Nat.lt_or_ge (Nat.gcd k n) 2 with h2 | h2
    · have : 0 < Nat.gcd k n := Nat.gcd_pos_of_pos_left _ (by omega)
      show Nat.gcd k n = 1
      omega
    · have hd1 : Nat.gcd k n ∣ k := Nat.gcd_dvd_left _ _
      have hd2 : Nat.gcd k n ∣ n := Nat.gcd_dvd_right _ _
      have hle : Nat.gcd k n ≤ k := Nat.le_of_dvd (by omega) hd1
      have := h (Nat.gcd k n) (by simp; omega)
      simp [Nat.mod_eq_zero_of_dvd hd1, Nat.mod_eq_zero_of_dvd hd2] at this
      omega
  · intro h d hd
    by_cases hd2 : d < 2
    · simp [hd2]
    · by_cases ha : n % d = 0
      · by_cases hb : k % d = 0
        · exfalso
          have := Nat.dvd_gcd (Nat.dvd_of_mod_eq_zero hb) (Nat.dvd_of_mod_eq_zero ha)
          rw [show Nat.gcd k n = 1 from h] at this
          have := Nat.le_of_dvd (by omega) this
          omega
        · simp [hb]
      · simp [ha]

/-- The order that begins at a place and goes on by a stride. -/
def due (n start step : Nat) : List Int := (List.range n).map fun i => (((start + i * step) % n : Nat) : Int)

theorem due_nodup {n start step : Nat} (hc : Nat.Coprime step n) : (due n start step).Pairwise (· ≠ ·) := by
  unfold due
  rw [List.pairwise_map]
  refine List.Pairwise.imp_of_mem (R := fun a b => a < b) ?_ List.pairwise_lt_range
  intro a b _ hb hlt
  simp only [List.mem_range] at hb
  intro he
  have he : (start + a * step) % n = (start + b * step) % n := by exact_mod_cast he
  have hd : n ∣ (start + b * step) - (start + a * step) := Nat.dvd_of_mod_eq_zero (Nat.sub_mod_eq_zero_of_mod_eq he.symm)
  have : (start + b * step) - (start + a * step) = step * (b - a) := by
    rw [Nat.mul_sub, Nat.mul_comm step b, Nat.mul_comm step a]; omega
  rw [this] at hd
  have h2 : n ∣ b - a := Nat.Coprime.dvd_of_dvd_mul_left (Nat.Coprime.symm hc) hd
  have := Nat.le_of_dvd (by omega) h2
  omega

theorem due_length (n start step : Nat) : (due n start step).length = n := by simp [due]
theorem due_mem {n start step : Nat} (hn : 0 < n) {x : Int} (h : x ∈ due n start step) : 0 ≤ x ∧ x < n := by
  simp only [due, List.mem_map, List.mem_range] at h
  obtain ⟨i, hi, rfl⟩ := h
  have := Nat.mod_lt (start + i * step) hn
  omega

/-- A row that rises, of numbers from a on, below b: the i-th is a + i at the least; and so many from b off at the most. -/
theorem rise_lo {l : List Int} : ∀ {a : Int}, l.Pairwise (· < ·) → (∀ x ∈ l, a ≤ x) → ∀ i, (h : i < l.length) → a + i ≤ l[i] := by
  induction l with
  | nil => intro a _ _ i h; simp at h
  | cons y l ih =>
    intro a hp ha i h
    rw [List.pairwise_cons] at hp
    cases i with
    | zero => simpa using ha y (by simp)
    | succ i =>
      have := ih (a := a + 1) hp.2 (fun x hx => by have := hp.1 x hx; have := ha y (by simp); omega) i (by simpa using h)
      simp only [List.getElem_cons_succ]
      omega
theorem rise_hi {l : List Int} : ∀ {b : Int}, l.Pairwise (· < ·) → (∀ x ∈ l, x < b) → ∀ i, (h : i < l.length) → l[i] + (l.length - i : Nat) ≤ b := by
  induction l with
  | nil => intro a _ _ i h; simp at h
  | cons y l ih =>
    intro b hp hb i h
    rw [List.pairwise_cons] at hp
    cases i with
    | zero =>
      simp only [List.getElem_cons_zero, List.length_cons, Nat.sub_zero]
      cases l with
      | nil => have := hb y (by simp); simp; omega
      | cons z l =>
        have h0 := ih (b := b) hp.2 (fun x hx => hb x (by simp [hx])) 0 (by simp)
        have h1 := hp.1 z (by simp)
        simp only [List.getElem_cons_zero, List.length_cons, Nat.sub_zero] at h0 ⊢
        omega
    | succ i =>
      have := ih (b := b) hp.2 (fun x hx => hb x (by simp [hx])) i (by simpa using h)
      simp only [List.getElem_cons_succ, List.length_cons]
      have e : l.length + 1 - (i + 1) = l.length - i := by omega
      rw [e]
      exact this

/-- Whoever goes round comes to each place once. -/
theorem sorted_due {n start step : Nat} (hn : 0 < n) (hc : Nat.Coprime step n) (i : Nat) (hi : i < n) :
    ((due n start step).mergeSort fun x y => decide (x ≤ y)).getD i 0 = (i : Int) := by
  have hperm := List.mergeSort_perm (due n start step) (fun x y => decide (x ≤ y))
  have hlen : ((due n start step).mergeSort fun x y => decide (x ≤ y)).length = n := by rw [List.length_mergeSort, due_length]
  have hle : ((due n start step).mergeSort fun x y => decide (x ≤ y)).Pairwise (fun x y => decide (x ≤ y) = true) :=
    List.pairwise_mergeSort (by intro a b c; simp; omega) (by intro a b; simp; omega) _
  have hne : ((due n start step).mergeSort fun x y => decide (x ≤ y)).Pairwise (· ≠ ·) :=
    (hperm.pairwise_iff (fun h => Ne.symm h)).2 (due_nodup hc)
  have hlt : ((due n start step).mergeSort fun x y => decide (x ≤ y)).Pairwise (· < ·) :=
    (hle.and hne).imp (fun h => by have := h.1; have := h.2; simp at *; omega)
  have hmem : ∀ x ∈ ((due n start step).mergeSort fun x y => decide (x ≤ y)), 0 ≤ x ∧ x < n := fun x hx => due_mem hn (hperm.mem_iff.1 hx)
  generalize ((due n start step).mergeSort fun x y => decide (x ≤ y)) = l at *
  have h1 := rise_lo (a := 0) hlt (fun x hx => (hmem x hx).1) i (by omega)
  have h2 := rise_hi (b := n) hlt (fun x hx => (hmem x hx).2) i (by omega)
  rw [List.getD_eq_getElem?_getD, List.getElem?_eq_getElem (by omega : i < l.length)]
  simp only [Option.getD_some]
  omega

/-! The strides -/
theorem mem_stridesN {n k : Nat} : k ∈ stridesN n ↔ 1 ≤ k ∧ k ≤ n ∧ okN n k = true := by
  simp only [stridesN, List.mem_filter, List.mem_range'_1]
  constructor
  · rintro ⟨⟨a, b⟩, c⟩; exact ⟨a, by omega, c⟩
  · rintro ⟨a, b, c⟩; exact ⟨⟨a, by omega⟩, c⟩
theorem one_mem {n : Nat} (hn : 1 ≤ n) : 1 ∈ stridesN n := by
  rw [mem_stridesN]
  exact ⟨by omega, hn, (okN_iff (by omega)).2 (Nat.coprime_one_left n)⟩
theorem stridesN_pos {n : Nat} (hn : 1 ≤ n) : 0 < (stridesN n).length := List.length_pos_of_mem (one_mem hn)
theorem stridesN_le (n : Nat) : (stridesN n).length ≤ n := by
  have := List.length_filter_le (okN n) (List.range' 1 n)
  simpa [stridesN] using this
theorem stridesN_nodup (n : Nat) : (stridesN n).Pairwise (· ≠ ·) := by
  refine List.Pairwise.filter _ ?_
  exact (List.pairwise_lt_range' (s := 1) (n := n)).imp (fun h => by omega)
theorem stridesN_co {n k : Nat} (h : k ∈ stridesN n) : Nat.Coprime k n := by
  rw [mem_stridesN] at h
  exact (okN_iff h.1).1 h.2.2
end Go.Proofs.Ytciiihiklobkaaa.Strode
