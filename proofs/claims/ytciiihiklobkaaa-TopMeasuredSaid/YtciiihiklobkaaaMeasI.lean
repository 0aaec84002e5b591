/-
  fair.Fair; First and unfair at an empty row, First at no action.
-/
import Derived.Test.YtciiihiklobkaaaMeasH
namespace Go.Proofs.Ytciiihiklobkaaa.Meas
open Go.RowKit
set_option linter.unusedVariables false
set_option linter.unusedSimpArgs false

theorem Fair_calls (a b : Value) (s : Value) (x : Int) (y : Bool) (w : World) (h : Calls Try.prog 7 #[a, b, s] w fun e w' => e = .returned (.tuple #[.int .i64 x, .bool y]) ∧ Below w.heap.size w w') :
    Calls Try.prog 8 #[a, b, s] w fun e w' => e = .returned (.bool (!y)) ∧ Below w.heap.size w w' := by
  have H := Lib.hid h
  clear h
  go_enter Try.func8, Try.ntmps8
  go_wp2_with (first
    | (go_at_call 7; refine H.out.mono ?_; rintro e w' ⟨rfl, hb⟩)
    | go_in)
  go_ret
  exact ⟨rfl, hb⟩
theorem First_none (wd : Nat) (s : Value) (w : World) : Calls Try.prog 7 #[.int .i64 0, .int .i64 wd, s] w fun e w' => e = .returned (.tuple #[.int .i64 0, .bool true]) ∧ Below w.heap.size w w' := by
  go_enter Try.func7, Try.ntmps7
  go_wp2
  go_ret2
  exact ⟨rfl, Below.refl _ _⟩
theorem First_nil (l wd : Nat) (w : World) (hl0 : 1 ≤ l) (hl : l ≤ 4) (hw1 : 1 ≤ wd) (hw8 : wd ≤ 8) : Calls Try.prog 7 #[.int .i64 l, .int .i64 wd, .slice none 0 0] w fun e w' => e = .returned (.tuple #[.int .i64 0, .bool false]) ∧ Below w.heap.size w w' := by
  have hl1 : ¬ (l : Int) < 1 := by omega
  have hwd1 : ¬ (wd : Int) < 1 := by omega
  have hmk := mk47
  have HROW := Lib.hid (Row.start w l wd [] (fun _ => none) (fun _ => 0)).below
  go_enter Try.func7, Try.ntmps7
  go_upto_region 4 with fail
  generalize (((w.alloc (.map #[] 0)).alloc (.map #[] 0)).alloc (.map #[] 0)).alloc (.cells #[.int .i64 wd, .int .i64 l, .slice none 0 0, .map (some w.heap.size), .map (some (w.heap.size + 1)), .map (some (w.heap.size + 1 + 1)), .int .i64 (-1)] 49) = w1 at *
  go_wp2
  go_loopg [9, 26] 0 (fun gh v9 v26 wr => v26 = .int .i64 0 ∧ wr = w1)
  case atStart => exact ⟨rfl, rfl⟩
  case round =>
    obtain ⟨rfl, rfl⟩ := hrel
    go_wp2
    go_ret2
    exact ⟨rfl, HROW.out⟩
set_option maxRecDepth 100000 in
theorem unfair_nil (l wd : Nat) (w : World) : Calls Try.prog 6 #[.slice none 0 0, .int .i64 l, .int .i64 wd] w fun e w' => e = .returned (.int .i64 0) ∧ Below w.heap.size w w' := by
  go_enter Try.func6, Try.ntmps6
  go_wp2
  go_loopg [24] 0 (fun gh v wr => v = .int .i64 0 ∧ wr = w)
  case atStart => exact ⟨rfl, rfl⟩
  case round =>
    obtain ⟨rfl, rfl⟩ := hrel
    go_wp2
    go_ret
    exact ⟨rfl, Below.refl _ _⟩
end Go.Proofs.Ytciiihiklobkaaa.Meas
