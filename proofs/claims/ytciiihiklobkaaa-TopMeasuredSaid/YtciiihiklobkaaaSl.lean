/-
  Contracts of slices.Index, slices.Contains, slices.Equal at []int: by walks of their own.
-/
import Derived.Test.YtciiihiklobkaaaWd
namespace Go.Proofs.Ytciiihiklobkaaa
open Go.RowKit Go.Lib

/-- The first place of a number, from some place on. -/
def idxFrom (xs : List Int) (x : Int) : Nat → Nat → Int
  | 0, _ => -1
  | d + 1, i => if rd xs i = x then (i : Int) else idxFrom xs x d (i + 1)
theorem idxFrom_has (xs : List Int) (x : Int) : ∀ d i, i + d ≤ xs.length → (0 ≤ idxFrom xs x d i ↔ ∃ j, i ≤ j ∧ j < i + d ∧ rd xs j = x)
  | 0, i, _ => by simp [idxFrom]; intro j; omega
  | d + 1, i, h => by
    unfold idxFrom
    by_cases e : rd xs i = x
    · rw [if_pos e]
      exact ⟨fun _ => ⟨i, by omega, by omega, e⟩, fun _ => by omega⟩
    · rw [if_neg e, idxFrom_has xs x d (i + 1) (by omega)]
      constructor
      · rintro ⟨j, a, b, c⟩; exact ⟨j, by omega, by omega, c⟩
      · rintro ⟨j, a, b, c⟩
        refine ⟨j, ?_, by omega, c⟩
        rcases Nat.lt_or_ge i j with h1 | h1
        · omega
        · obtain rfl : j = i := by omega
          exact absurd c e
theorem idx_mem (xs : List Int) (x : Int) : 0 ≤ idxFrom xs x xs.length 0 ↔ x ∈ xs := by
  rw [idxFrom_has xs x xs.length 0 (by omega), List.mem_iff_getElem]
  constructor
  · rintro ⟨j, _, b, c⟩; exact ⟨j, by omega, by rw [← rd_at]; exact c⟩
  · rintro ⟨j, b, c⟩; exact ⟨j, by omega, by omega, by rw [rd_at b]; exact c⟩
theorem idxFrom_first (xs : List Int) (x : Int) : ∀ d i j, i ≤ j → j < i + d → rd xs j = x → (∀ k, i ≤ k → k < j → rd xs k ≠ x) → idxFrom xs x d i = j
  | 0, i, j, a, b, _, _ => by omega
  | d + 1, i, j, a, b, c, h => by
    unfold idxFrom
    by_cases e : i = j
    · subst e; rw [if_pos c]
    · rw [if_neg (h i (by omega) (by omega))]
      exact idxFrom_first xs x d (i + 1) j (by omega) (by omega) c fun k h1 h2 => h k (by omega) h2
theorem idxFrom_range (xs : List Int) (x : Int) : ∀ d i, -1 ≤ idxFrom xs x d i ∧ idxFrom xs x d i < i + d
  | 0, i => by simp [idxFrom]; omega
  | d + 1, i => by
    have := idxFrom_range xs x d (i + 1)
    unfold idxFrom
    split <;> omega

set_option maxHeartbeats 400000 in
theorem Index_calls (A : Option Addr) (c n : Nat) (xs : List Int) (x : Int) (w : World) (hr : RI w A n xs) :
    Calls Try.prog 47 #[.slice A n c, .int .i64 x] w fun e w' => e = .returned (.int .i64 (idxFrom xs x n 0)) ∧ ∃ m, w' = w.drewN m := by
  have HR := Lib.hid hr
  have hn : n ≤ 9223372036854775807 := hr.2.1
  clear hr
  go_enter Try.func47, Try.ntmps47
  go_wp2
  go_loopg [8] n (fun g v w' => ∃ i : Nat, i + g = n ∧ v = .int .i64 i ∧ Aside (idxFrom xs x g i = idxFrom xs x n 0) ∧ ∃ m, w' = w.drewN m)
  case atStart => exact ⟨0, by omega, rfl, rfl, 0, rfl⟩
  case round =>
    obtain ⟨i, hi, rfl, HA, m, rfl⟩ := hrel
    cases gk with
    | zero =>
      have hge : ¬ ((i : Int) < (n : Int)) := by omega
      go_wp2
      go_ret
      exact ⟨ret_int HA.out, m, rfl⟩
    | succ g =>
      have hlt : (i : Int) < (n : Int) := by omega
      have hltn : i < n := by omega
      obtain ⟨ad, rfl, hc⟩ := HR.out.at_ i hltn
      have H := HA.out
      clear HA
      by_cases hx : rd xs i = x
      · have hxb : (x == rd xs i) = true := by rw [hx]; simp
        simp only [idxFrom, if_pos hx] at H
        have H2 := Lib.hid H
        clear H hx
        go_wp2
        go_ret
        exact ⟨ret_int H2.out, m, rfl⟩
      · have hxb : (x == rd xs i) = false := by simp; exact fun h => hx h.symm
        simp only [idxFrom, if_neg hx] at H
        have H2 := Lib.hid H
        clear H hx
        go_wp2
        go_roundg g
        case measure => omega
        case rel => exact ⟨i + 1, by omega, by go_num, H2.out, m, rfl⟩

set_option maxHeartbeats 400000 in
theorem Contains_calls (A : Option Addr) (c n : Nat) (xs : List Int) (x : Int) (w : World) (hr : RI w A n xs) :
    Calls Try.prog 12 #[.slice A n c, .int .i64 x] w fun e w' => e = .returned (.bool (decide (0 ≤ idxFrom xs x n 0))) ∧ ∃ m, w' = w.drewN m := by
  have HR := Lib.hid hr
  clear hr
  go_enter Try.func12, Try.ntmps12
  go_wp2_with fail
  refine (Index_calls A c n xs x w HR.out).mono ?_
  rintro e w' ⟨rfl, m, rfl⟩
  go_wp2
  go_ret
  exact ⟨rfl, m, rfl⟩

/-- Are so many numbers the same, from some place on? -/
def eqFrom (xs ys : List Int) : Nat → Nat → Bool
  | 0, _ => true
  | d + 1, i => if rd xs i = rd ys i then eqFrom xs ys d (i + 1) else false
theorem eqFrom_iff (xs ys : List Int) : ∀ d i, eqFrom xs ys d i = true ↔ ∀ j, i ≤ j → j < i + d → rd xs j = rd ys j
  | 0, i => by simp [eqFrom]; intro j; omega
  | d + 1, i => by
    unfold eqFrom
    by_cases e : rd xs i = rd ys i
    · rw [if_pos e, eqFrom_iff xs ys d (i + 1)]
      constructor
      · intro h j a b
        rcases Nat.lt_or_ge i j with h1 | h1
        · exact h j h1 (by omega)
        · obtain rfl : j = i := by omega
          exact e
      · intro h j a b; exact h j (by omega) (by omega)
    · rw [if_neg e]
      simp only [Bool.false_eq_true, false_iff]
      intro h
      exact e (h i (by omega) (by omega))
theorem eqFrom_self (xs : List Int) (d i : Nat) : eqFrom xs xs d i = true := (eqFrom_iff xs xs d i).2 fun _ _ _ => rfl
def eqI (xs ys : List Int) : Bool := if xs.length = ys.length then eqFrom xs ys xs.length 0 else false
theorem eqI_iff (xs ys : List Int) : eqI xs ys = true ↔ xs = ys := by
  unfold eqI
  by_cases h : xs.length = ys.length
  · rw [if_pos h, eqFrom_iff]
    constructor
    · intro hj
      refine List.ext_getElem h fun i h1 h2 => ?_
      have := hj i (by omega) (by omega)
      rwa [rd_at h1, rd_at h2] at this
    · rintro rfl j _ _; rfl
  · rw [if_neg h]
    simp only [Bool.false_eq_true, false_iff]
    rintro rfl
    exact h rfl
theorem eqI_decide (xs ys : List Int) : eqI xs ys = decide (xs = ys) := by
  by_cases h : xs = ys
  · rw [(eqI_iff xs ys).2 h]; simp [h]
  · have : eqI xs ys ≠ true := fun e => h ((eqI_iff xs ys).1 e)
    simp [h]; simpa using this

set_option maxHeartbeats 400000 in
theorem Equal_calls (A B : Option Addr) (c d n m : Nat) (xs ys : List Int) (w : World) (hx : RI w A n xs) (hy : RI w B m ys) :
    Calls Try.prog 33 #[.slice A n c, .slice B m d] w fun e w' => e = .returned (.bool (eqI xs ys)) ∧ ∃ q, w' = w.drewN q := by
  have HX := Lib.hid hx
  have HY := Lib.hid hy
  have hn : n ≤ 9223372036854775807 := hx.2.1
  have hl := hx.1
  have hm := hy.1
  clear hx hy
  by_cases hnm : n = m
  · subst hnm
    have hb : (n != n) = false := by simp
    have he : eqI xs ys = eqFrom xs ys n 0 := by unfold eqI; rw [if_pos (by omega), hl]
    have HE := Lib.hid he
    clear he hl hm
    go_enter Try.func33, Try.ntmps33
    go_wp2
    go_loopg [13] n (fun g v w' => ∃ i : Nat, i + g = n ∧ v = .int .i64 i ∧ Aside (eqFrom xs ys g i = eqFrom xs ys n 0) ∧ ∃ m, w' = w.drewN m)
    case atStart => exact ⟨0, by omega, rfl, rfl, 0, rfl⟩
    case round =>
      obtain ⟨i, hi, rfl, HA, m, rfl⟩ := hrel
      cases gk with
      | zero =>
        have hge : ¬ ((i : Int) < (n : Int)) := by omega
        go_wp2
        go_ret
        exact ⟨ret_bool (by rw [HE.out, ← HA.out]; rfl), m, rfl⟩
      | succ g =>
        have hlt : (i : Int) < (n : Int) := by omega
        have hltn : i < n := by omega
        obtain ⟨ad, rfl, hc⟩ := HX.out.at_ i hltn
        obtain ⟨bd, rfl, hd⟩ := HY.out.at_ i hltn
        have H := HA.out
        clear HA
        by_cases hxy : rd xs i = rd ys i
        · have hxb : (rd xs i != rd ys i) = false := by rw [hxy]; simp
          simp only [eqFrom, if_pos hxy] at H
          have H2 := Lib.hid H
          clear H hxy
          go_wp2
          go_quiet (fail)
          go_wp2
          go_roundg g
          case measure => omega
          case rel => exact ⟨i + 1, by omega, by go_num, H2.out, _, rfl⟩
        · have hxb : (rd xs i != rd ys i) = true := by simpa using hxy
          simp only [eqFrom, if_neg hxy] at H
          have H2 := Lib.hid H
          clear H hxy
          go_wp2
          go_quiet (fail)
          go_wp2
          go_ret
          exact ⟨ret_bool (by rw [HE.out, ← H2.out]), _, World.drewN_drewN ..⟩
  · have hb : (n != m) = true := by simpa using hnm
    have he : eqI xs ys = false := by unfold eqI; rw [if_neg (by omega)]
    have HE := Lib.hid he
    clear he hl hm hnm
    go_enter Try.func33, Try.ntmps33
    go_wp2
    go_ret
    exact ⟨ret_bool HE.out.symm, 0, rfl⟩

theorem eqnil26 (A : Option Addr) (n c : Nat) (w : World) : (binOp .eql 26 (.slice A n c) (.slice none 0 0)).run Try.prog w = .ok (.bool A.isNone) w := by
  cases A <;> kernel_rfl

set_option maxHeartbeats 400000 in
set_option maxRecDepth 100000 in
theorem Clone_calls (A : Option Addr) (c n : Nat) (xs : List Int) (w : World) (hr : RI w A n xs) (hn : n * 8 ≤ 140737488355328) :
    Calls Try.prog 26 #[.slice A n c] w fun e w' => ∃ v, e = .returned v ∧ w'.ownsRow w.heap.size 3 1 v n (ints xs) ∧ Below w.heap.size w w' := by
  obtain ⟨i0, hi, hz0, hz1, hz2⟩ := info_parts info3
  cases A with
  | none =>
    have h0 : n = 0 := by
      rcases Nat.eq_zero_or_pos n with h | h
      · exact h
      · obtain ⟨ad, he, _⟩ := hr.2.2 h; cases he
    subst h0
    have hx : xs = [] := List.eq_nil_of_length_eq_zero hr.1
    subst hx
    have hq := eqnil26 none 0 c
    go_enter Try.func26, Try.ntmps26
    go_wp2
    go_ret
    exact ⟨_, rfl, World.ownsRow_nil _ _ _ _, Below.refl _ _⟩
  | some ad =>
    have HR := Lib.hid hr
    clear hr
    have hq := eqnil26 (some ad) n c
    go_enter Try.func26, Try.ntmps26
    have hm0 : (w.alloc (.cells #[] 3)).ownsRow w.heap.size 3 1 (.slice (some ⟨w.heap.size, 0, none⟩) 0 0) 0 [] := World.ownsRow_made w #[] 0 (Nat.le_refl _) (by unfold maxLen; omega) rfl
    have hnews : ∀ j u, (ints xs)[j]? = some u → (w.alloc (.cells #[] 3)).cell? (ad.add j) = some u := by
      intro j u hu
      have hj : j < n := by
        have := (List.getElem?_eq_some_iff.1 hu).1
        rw [ints_length, HR.out.1] at this; exact this
      obtain ⟨ad', he, hc⟩ := HR.out.at_ j hj
      cases he
      rw [ints, List.getElem?_map, rd_some (by rw [HR.out.1]; exact hj)] at hu
      cases hu
      exact cell_below ((Below.refl _ _).alloc (Nat.le_refl _) _) hc
    have hone : ∀ u ∈ ints xs, u.oneCell' = true := by
      intro u hu
      simp only [ints, List.mem_map] at hu
      obtain ⟨x, _, rfl⟩ := hu
      rfl
    go_wp2_with (at_builtin; refine wpList_append_own _ rfl _ _ 26 rfl w.heap.size 3 i0 (.int .i64 0) 1 8 Try.underlying26 hi hz0 hz1 hz2 rfl (by decide) _ _ _ rfl hm0 ad n c (ints xs) rfl ?c1 hnews hone ?c3 ?c4 ?c5 ?_)
    case c1 => rw [ints_length, HR.out.1]; omega
    case c3 => have := HR.out.2.1; unfold maxLen; omega
    case c4 => omega
    case c5 => simp
    intro v' w' hown hgr _
    have HO := Lib.hid hown
    have hb : Below w.heap.size w w' := ((Below.refl _ _).alloc (Nat.le_refl _) _).grown hgr (by simp) (by intro k hk; simp [Value.ownBlock] at hk; omega)
    have HB := Lib.hid hb
    clear hown hb hgr hm0 hnews hone
    go_wp2
    go_ret
    exact ⟨_, rfl, HO.out, HB.out⟩
end Go.Proofs.Ytciiihiklobkaaa
