/-
  Bound at the two places that are asked.
-/
import Derived.Test.YtciiihiklobkaaaMeasC
import Derived.Deep.RegionWith
namespace Go.Proofs.Ytciiihiklobkaaa.Meas
open Go.RowKit
set_option linter.unusedVariables false
set_option linter.unusedSimpArgs false

theorem between_calls (x a b : Int) (w : World) : Calls Try.prog 50 #[.int .i64 x, .int .i64 a, .int .i64 b] w fun e w' => e = .returned (.bool (decide (a ≤ x) && decide (x ≤ b))) ∧ w' = w := by
  go_enter Try.func50, Try.ntmps50
  by_cases h1 : a ≤ x
  · by_cases h2 : x ≤ b
    · rw [decide_eq_true h1, decide_eq_true h2]
      go_wp2
      go_ret
      exact ⟨rfl, rfl⟩
    · rw [decide_eq_true h1, decide_eq_false h2]
      go_wp2
      go_ret
      exact ⟨rfl, rfl⟩
  · rw [decide_eq_false h1]
    go_wp2
    go_ret
    exact ⟨rfl, rfl⟩

def cfg : Value := .agg #[.int .i64 1, .int .i64 2, .int .i64 2, .int .i64 2, .int .i64 2, .int .i64 0]
set_option maxHeartbeats 1600000 in
theorem Right_calls (w : World) : Calls Try.prog 14 #[.agg #[.int .i64 1, .int .i64 2, .int .i64 2, .int .i64 2, .int .i64 2, .int .i64 0]] w fun e w' => e = .returned (.bool true) ∧ Below w.heap.size w w' := by
  go_enter Try.func14, Try.ntmps14
  go_wp2_with (go_at_call 50; refine (between_calls _ _ _ _).mono ?_; rintro e w' ⟨rfl, rfl⟩)
  all_goals first
    | (go_ret; exact ⟨rfl, (Below.refl _ _).alloc (Nat.le_refl _) _⟩)
    | (exfalso; rename_i h; revert h; decide)

theorem len2 (w : World) : Calls Try.prog 15 #[.int .u64 2] w fun e w' => e = .returned (.int .i64 2) ∧ w' = w := (Try.bits_Len 2 w (by omega) (by omega)).mono fun e w' h => ⟨h.1.trans (ret_int (by decide)), h.2⟩

set_option maxHeartbeats 1600000 in
theorem Bound0_calls (w : World) : Calls Try.prog 9 #[.agg #[.int .i64 1, .int .i64 2, .int .i64 2, .int .i64 2, .int .i64 2, .int .i64 0], .int .i64 0, .int .i64 4] w fun e w' => e = .returned (.int .i64 0) ∧ Below w.heap.size w w' := by
  go_enter Try.func9, Try.ntmps9
  go_wp2_with (go_at_call 14; refine (Right_calls _).mono ?_; rintro e w' ⟨rfl, hb⟩)
  go_ret
  exact ⟨rfl, below_then ((Below.refl _ _).alloc (Nat.le_refl _) _) (by simp) hb⟩

theorem sum2 (B : Nat) (a b r : Int) (w : World) (h0 : w.cell? ⟨B, 0, none⟩ = some (.int .u64 a)) (h1 : w.cell? ⟨B, 1, none⟩ = some (.int .u64 b)) (p0 : 0 ≤ a) (p1 : 0 ≤ b) (hr : min (min (0 + min a 4611686018427387904) 4611686018427387904 + min b 4611686018427387904) 4611686018427387904 = r) :
    Calls Try.prog 16 #[.slice (some ⟨B, 0, none⟩) 2 2] w fun e w' => e = .returned (.int .u64 r) ∧ w' = w := by
  subst hr
  exact sum_calls B 2 [a, b] w rfl (by omega) (fun j hj => match j, hj with | 0, _ => h0 | 1, _ => h1 | j + 2, hj => absurd hj (by omega)) (by simp; omega)
theorem sum3 (B : Nat) (a b c r : Int) (w : World) (h0 : w.cell? ⟨B, 0, none⟩ = some (.int .u64 a)) (h1 : w.cell? ⟨B, 1, none⟩ = some (.int .u64 b)) (h2 : w.cell? ⟨B, 2, none⟩ = some (.int .u64 c)) (p0 : 0 ≤ a) (p1 : 0 ≤ b) (p2 : 0 ≤ c) (hr : sumOf [a, b, c] = r) :
    Calls Try.prog 16 #[.slice (some ⟨B, 0, none⟩) 3 3] w fun e w' => e = .returned (.int .u64 r) ∧ w' = w := by
  subst hr
  exact sum_calls B 3 [a, b, c] w rfl (by omega) (fun j hj => match j, hj with | 0, _ => h0 | 1, _ => h1 | 2, _ => h2 | j + 3, hj => absurd hj (by omega)) (by simp; omega)
theorem prod2 (B : Nat) (a b r : Nat) (w : World) (h0 : w.cell? ⟨B, 0, none⟩ = some (.int .u64 a)) (h1 : w.cell? ⟨B, 1, none⟩ = some (.int .u64 b)) (p0 : a < 18446744073709551616) (p1 : b < 18446744073709551616) (hr : prodOf [a, b] = r) :
    Calls Try.prog 17 #[.slice (some ⟨B, 0, none⟩) 2 2] w fun e w' => e = .returned (.int .u64 r) ∧ w' = w := by
  subst hr
  exact product_calls B 2 [a, b] w rfl (by omega) (fun j hj => match j, hj with | 0, _ => h0 | 1, _ => h1 | j + 2, hj => absurd hj (by omega)) (by simp; omega)
theorem prod3 (B : Nat) (a b c r : Nat) (w : World) (h0 : w.cell? ⟨B, 0, none⟩ = some (.int .u64 a)) (h1 : w.cell? ⟨B, 1, none⟩ = some (.int .u64 b)) (h2 : w.cell? ⟨B, 2, none⟩ = some (.int .u64 c)) (p0 : a < 18446744073709551616) (p1 : b < 18446744073709551616) (p2 : c < 18446744073709551616) (hr : prodOf [a, b, c] = r) :
    Calls Try.prog 17 #[.slice (some ⟨B, 0, none⟩) 3 3] w fun e w' => e = .returned (.int .u64 r) ∧ w' = w := by
  subst hr
  exact product_calls B 3 [a, b, c] w rfl (by omega) (fun j hj => match j, hj with | 0, _ => h0 | 1, _ => h1 | 2, _ => h2 | j + 3, hj => absurd hj (by omega)) (by simp; omega)

set_option maxHeartbeats 4000000 in
set_option maxRecDepth 1000000 in
theorem Bound1_calls (w : World) : Calls Try.prog 9 #[.agg #[.int .i64 1, .int .i64 2, .int .i64 2, .int .i64 2, .int .i64 2, .int .i64 0], .int .i64 1, .int .i64 4] w fun e w' => e = .returned (.int .i64 98800) ∧ Below w.heap.size w w' := by
  go_enter Try.func9, Try.ntmps9
  go_upto_region 3 with (go_at_call 14; refine (Right_calls _).mono ?_; rintro e w' ⟨rfl, hb⟩)
  rename_i w' _ _
  have c0 : w'.cell? ⟨w.heap.size, 0, none⟩ = some (.int .i64 1) := cell_below hb (by simp)
  have c1 : w'.cell? ⟨w.heap.size, 1, none⟩ = some (.int .i64 2) := cell_below hb (by simp)
  have c2 : w'.cell? ⟨w.heap.size, 2, none⟩ = some (.int .i64 2) := cell_below hb (by simp)
  have c3 : w'.cell? ⟨w.heap.size, 3, none⟩ = some (.int .i64 2) := cell_below hb (by simp)
  have c4 : w'.cell? ⟨w.heap.size, 4, none⟩ = some (.int .i64 2) := cell_below hb (by simp)
  have hb' := below_then ((Below.refl _ _).alloc (Nat.le_refl _) _) (by simp) hb
  have HB := Lib.hid hb'
  clear hb hb'
  go_quiet (first | (go_at_call 15; exact Calls.quiet_of_same (len2 _)))
  have HB1 := Lib.hid (below_drewN HB.out nq)
  have d1 : (w'.drewN nq).cell? ⟨w.heap.size, 2, none⟩ = some (.int .i64 2) := c2
  clear HB c0 c1 c2 c3 c4
  generalize w'.drewN nq = w1 at *
  clear w'
  go_upto_region 9 with (first
    | (go_at_call 17; refine (prod2 _ 3 112 336 _ (by simp) (by simp) (by omega) (by omega) (by decide)).mono ?_; rintro e w' ⟨rfl, rfl⟩)
    | (go_at_call 16; refine (sum3 _ 140 336 176 652 _ (by simp) (by simp) (by simp) (by omega) (by omega) (by omega) (by decide)).mono ?_; rintro e w' ⟨rfl, rfl⟩))
  have hsz := HB1.out.size
  have HB2 := Lib.hid (((HB1.out.alloc hsz (Obj.cells #[Value.int IntKind.u64 3, Value.int IntKind.u64 112] 52))).alloc (by simp; omega) (Obj.cells #[Value.int IntKind.u64 140, Value.int IntKind.u64 336, Value.int IntKind.u64 176] 52))
  have d2 := cell_below ((((Below.refl w1.heap.size w1).alloc (Nat.le_refl _) (Obj.cells #[Value.int IntKind.u64 3, Value.int IntKind.u64 112] 52))).alloc (by simp) (Obj.cells #[Value.int IntKind.u64 140, Value.int IntKind.u64 336, Value.int IntKind.u64 176] 52)) d1
  clear HB1 d1 hsz
  generalize ((w1.alloc (Obj.cells #[Value.int IntKind.u64 3, Value.int IntKind.u64 112] 52))).alloc (Obj.cells #[Value.int IntKind.u64 140, Value.int IntKind.u64 336, Value.int IntKind.u64 176] 52) = w2 at *
  have hsz2 := HB2.out.size
  have hlt := World.block_lt_of_cell? _ _ d2
  have hlt' : w.heap.size < w2.heap.size := hlt
  have d3 : ∀ o, (w2.alloc o).cell? ⟨w.heap.size, 2, none⟩ = some (.int .i64 2) := fun o => cell_below ((Below.refl _ _).alloc (Nat.le_refl _) _) d2
  have d4 : ∀ o o2, ((w2.alloc o).alloc o2).cell? ⟨w.heap.size, 2, none⟩ = some (.int .i64 2) := fun o o2 => cell_below ((Below.refl _ _).alloc (Nat.le_refl _) _) (d3 o)
  clear hlt
  go_cut [6] (fun v6 wx => v6 = .int .i64 98800 ∧ Below w.heap.size w wx)
  case first =>
    go_region_with (first
      | (go_at_call 17; refine (prod3 _ 4 950 26 98800 _ (by simp <;> decide) (by simp <;> decide) (by simp <;> decide) (by omega) (by omega) (by omega) (by decide)).mono ?_; rintro e w' ⟨rfl, rfl⟩)
      | (go_at_call 16; refine (sum2 _ 652 298 950 _ (by simp <;> decide) (by simp <;> decide) (by omega) (by omega) (by decide)).mono ?_; rintro e w' ⟨rfl, rfl⟩))
    all_goals (go_wp2_with fail; go_meet; exact ⟨rfl, ((HB2.out.drew).alloc (by simp; omega) _).alloc (by simp; omega) _⟩)
  case rest =>
    obtain ⟨rfl, hb⟩ := hcut
    have HB := Lib.hid hb
    clear hb
    go_wp2
    go_ret
    exact ⟨rfl, HB.out⟩
end Go.Proofs.Ytciiihiklobkaaa.Meas
