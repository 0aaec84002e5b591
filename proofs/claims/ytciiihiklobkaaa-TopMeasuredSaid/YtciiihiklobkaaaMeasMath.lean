/-
  The plain law of TopMeasured: samples, what is bad at one, by looking at each part, and by keeping count; no program here.
-/
namespace Go.Proofs.Ytciiihiklobkaaa.Meas

structure Smp where
  kind : Int
  a : Int
  ns : Int
  act : List Int
  g : Int
  safe : Bool
  deriving Inhabited

/-- What the law's samples are. -/
structure Smp.ok (s : Smp) : Prop where
  k0 : 0 ≤ s.kind
  k1 : s.kind ≤ 2
  a0 : -1 ≤ s.a
  a1 : s.a ≤ 3
  n0 : -5000000 ≤ s.ns
  n1 : s.ns ≤ 46000000
  g0 : -1 ≤ s.g
  g1 : s.g ≤ 3
  act0 : s.act.length ≤ 4
  act1 : ∀ x ∈ s.act, 0 ≤ x ∧ x ≤ 3

/-- The j-th sample, behind a name. -/
def sm (ss : List Smp) (j : Nat) : Smp := ss.getD j default
theorem sm_at {ss : List Smp} {j : Nat} (h : j < ss.length) : sm ss j = ss[j] := by simp [sm, List.getD_eq_getElem?_getD, List.getElem?_eq_getElem h]
theorem take_sm {ss : List Smp} {j : Nat} (h : j < ss.length) : ss.take (j + 1) = ss.take j ++ [sm ss j] := by rw [List.take_succ_eq_append_getElem h, sm_at h]

/-! By looking at each part -/
def anyMon (p : List Smp) : Bool := p.any fun x => x.kind == 1
def longOf (p : List Smp) : Int := p.foldl (fun c x => c + max 0 x.ns) 0
def allAct (p : List Smp) (m : Int) : Bool := p.all fun x => decide (m ∈ x.act)
def anyStep (p : List Smp) (m : Int) : Bool := p.any fun x => x.kind == 0 && x.a == m
def stuck (p : List Smp) (m : Int) : Bool := allAct p m && !anyStep p m
/-- One of a window's rules is broken. -/
def windowBad (p : List Smp) : Bool := !anyMon p || decide (longOf p < 10000000) || (List.range 16).any fun m => stuck p (m : Int)
/-- How many actions of g since its last safe point. -/
def manyOf (g : Int) (p : List Smp) : Nat := p.foldl (fun c x => if x.g = g then (if x.safe then 0 else c + 1) else c) 0

theorem anyMon_snoc (p : List Smp) (x : Smp) : anyMon (p ++ [x]) = (anyMon p || x.kind == 1) := by simp [anyMon]
theorem longOf_snoc (p : List Smp) (x : Smp) : longOf (p ++ [x]) = longOf p + max 0 x.ns := by simp [longOf]
theorem allAct_snoc (p : List Smp) (x : Smp) (m : Int) : allAct (p ++ [x]) m = (allAct p m && decide (m ∈ x.act)) := by simp [allAct]
theorem anyStep_snoc (p : List Smp) (x : Smp) (m : Int) : anyStep (p ++ [x]) m = (anyStep p m || (x.kind == 0 && x.a == m)) := by simp [anyStep]
theorem manyOf_snoc (g : Int) (p : List Smp) (x : Smp) : manyOf g (p ++ [x]) = if x.g = g then (if x.safe then 0 else manyOf g p + 1) else manyOf g p := by simp [manyOf]
theorem manyOf_le (g : Int) (p : List Smp) : manyOf g p ≤ p.length := by
  have h : ∀ (p : List Smp) (c : Nat), p.foldl (fun c x => if x.g = g then (if x.safe then 0 else c + 1) else c) c ≤ c + p.length := by
    intro p
    induction p with
    | nil => intro c; simp
    | cons x p ih =>
      intro c
      simp only [List.foldl_cons, List.length_cons]
      have h1 : (if x.g = g then (if x.safe = true then 0 else c + 1) else c) ≤ c + 1 := by
        by_cases a : x.g = g
        · by_cases b : x.safe = true
          · rw [if_pos a, if_pos b]; omega
          · rw [if_pos a, if_neg b]; exact Nat.le_refl _
        · rw [if_neg a]; omega
      have h2 := ih (if x.g = g then (if x.safe = true then 0 else c + 1) else c)
      exact Nat.le_trans h2 (by omega)
  have := h p 0
  unfold manyOf
  omega

theorem longOf_bd (p : List Smp) (h : ∀ x ∈ p, x.ns ≤ 46000000) : 0 ≤ longOf p ∧ longOf p ≤ 46000000 * (p.length : Int) := by
  have key : ∀ (q : List Smp) (c : Int), (∀ x ∈ q, x.ns ≤ 46000000) → c ≤ q.foldl (fun c x => c + max 0 x.ns) c ∧ q.foldl (fun c x => c + max 0 x.ns) c ≤ c + 46000000 * (q.length : Int) := by
    intro q
    induction q with
    | nil => intro c _; simp
    | cons x q ih =>
      intro c hq
      have h1 := ih (c + max 0 x.ns) (fun y hy => hq y (by simp [hy]))
      have h2 := hq x (by simp)
      simp only [List.foldl_cons, List.length_cons]
      omega
  have := key p 0 h
  unfold longOf
  omega
/-- The last w of the first i + 1. -/
def partOf (ss : List Smp) (i w : Nat) : List Smp := (ss.take (i + 1)).drop (i + 1 - w)
theorem partOf_length {ss : List Smp} {i w : Nat} (h : i < ss.length) (hw : w ≤ i + 1) : (partOf ss i w).length = w := by
  simp only [partOf, List.length_drop, List.length_take]; omega
theorem sm_part {ss : List Smp} {i w po j : Nat} (h : i < ss.length) (hp : po + w = i + 1) (hj : j < w) : sm (partOf ss i w) j = sm ss (po + j) := by
  rw [sm_at (by rw [partOf_length h (by omega)]; exact hj), sm_at (by omega)]
  simp only [partOf, List.getElem_drop, List.getElem_take]
  congr 1
  omega

def bad (ss : List Smp) (l w n : Nat) : Bool :=
  (decide (w ≤ n + 1) && windowBad (partOf ss n w)) || (decide ((sm ss n).g ≠ -1) && decide (l < manyOf (sm ss n).g (ss.take (n + 1))))
/-- The first bad one, from some place on. -/
def firstBad (b : Nat → Bool) : Nat → Nat → Nat
  | 0, i => i
  | d + 1, i => if b i then i else firstBad b d (i + 1)
theorem firstBad_yes {b : Nat → Bool} {d i : Nat} (h : b i = true) : firstBad b (d + 1) i = i := by unfold firstBad; rw [if_pos h]
theorem firstBad_no {b : Nat → Bool} {d i : Nat} (h : b i = false) : firstBad b (d + 1) i = firstBad b d (i + 1) := by
  show (if b i = true then i else firstBad b d (i + 1)) = _
  rw [if_neg (by rw [h]; exact Bool.false_ne_true)]
end Go.Proofs.Ytciiihiklobkaaa.Meas
