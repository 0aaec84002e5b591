/-
  The word of a ring's head and tail: the small functions of package word, walked.
-/
import Derived.Test.YtaaegjfkappahaaDoorProg
import Derived.WalkKit
import Derived.WalkSpells
import Derived.WalkLawsBesides
import Derived.Deep.QuietTactic
import Derived.BigQuiet
import Derived.KernelRfl
import Derived.Lib.Hide
import Derived.Laws.BitsAllLaws
import Derived.IntWalk
import Derived.Laws.BitsLemmas
namespace Go.Proofs.YtaaegjfkappahaaDoor
open Go.RowKit
set_option linter.unusedVariables false
set_option linter.unusedSimpArgs false

theorem ret_int {k : IntKind} {a b : Int} (h : a = b) : Ending.returned (.int k a) = .returned (.int k b) := by rw [h]
theorem ret_bool {a b : Bool} (h : a = b) : Ending.returned (.bool a) = .returned (.bool b) := by rw [h]

theorem Tail_calls (X : Int) (w : World) (h0 : 0 ≤ X) (h1 : X < 18446744073709551616) : Calls Tryd.prog 26 #[.int .u64 X] w fun e w' => e = .returned (.int .u32 (X % 4294967296)) ∧ w = w' := by
  go_enter Tryd.func26, Tryd.ntmps26
  go_wp2
  go_ret
  exact ⟨rfl, rfl⟩
theorem Head_calls (X : Int) (w : World) (h0 : 0 ≤ X) (h1 : X < 18446744073709551616) : Calls Tryd.prog 28 #[.int .u64 X] w fun e w' => e = .returned (.int .u32 (X / 4294967296)) ∧ w = w' := by
  go_enter Tryd.func28, Tryd.ntmps28
  go_wp2
  go_ret
  exact ⟨rfl, rfl⟩
theorem or_nat (m n : Nat) (hn : n < 2 ^ 32) : m * 4294967296 ||| n = m * 4294967296 + n := by
  have e := Nat.shiftLeft_add_eq_or_of_lt hn m
  rw [Nat.shiftLeft_eq] at e
  exact e.symm
theorem or_pack (a b : Int) (ha : 0 ≤ a) (ha1 : a < 4294967296) (hb : 0 ≤ b) (hb1 : b < 4294967296) : bits BinOp.or IntKind.u64 (a * 4294967296) b = a * 4294967296 + b := by
  have h := u64_or (a * 4294967296) b (by omega) (by omega) hb (by omega)
  rw [h]
  have e1 : (a * 4294967296).toNat = a.toNat * 4294967296 := by omega
  rw [e1, or_nat _ _ (by omega)]
  omega
theorem Pack_calls (a b : Int) (w : World) (ha : 0 ≤ a) (ha1 : a < 4294967296) (hb : 0 ≤ b) (hb1 : b < 4294967296) : Calls Tryd.prog 23 #[.int .u32 a, .int .u32 b] w fun e w' => e = .returned (.int .u64 (a * 4294967296 + b)) ∧ w = w' := by
  go_enter Tryd.func23, Tryd.ntmps23
  go_wp2
  go_ret
  exact ⟨ret_int (or_pack a b ha ha1 hb hb1), rfl⟩
theorem Len_calls (X : Int) (w : World) (h0 : 0 ≤ X) (h1 : X < 18446744073709551616) : Calls Tryd.prog 27 #[.int .u64 X] w fun e w' => e = .returned (.int .u32 ((X % 4294967296 - X / 4294967296) % 4294967296)) ∧ w = w' := by
  go_enter Tryd.func27, Tryd.ntmps27
  go_wp2_with (first
    | (go_at_call 26; refine (Tail_calls X _ h0 h1).mono ?_; rintro e w' ⟨rfl, rfl⟩)
    | (go_at_call 28; refine (Head_calls X _ h0 h1).mono ?_; rintro e w' ⟨rfl, rfl⟩))
  go_ret
  exact ⟨rfl, rfl⟩
theorem Older_calls (n : Int) (w : World) (h0 : 0 ≤ n) (h1 : n < 4294967296) : Calls Tryd.prog 31 #[.int .u32 n] w fun e w' => e = .returned (.int .u32 (n - n / 2)) ∧ w = w' := by
  go_enter Tryd.func31, Tryd.ntmps31
  go_wp2
  go_ret
  exact ⟨rfl, rfl⟩
theorem Has_calls (X p : Int) (w : World) (h0 : 0 ≤ X) (h1 : X < 18446744073709551616) (hp : 0 ≤ p) (hp1 : p < 4294967296) : Calls Tryd.prog 34 #[.int .u64 X, .int .u32 p] w fun e w' => e = .returned (.bool (decide ((p - X / 4294967296) % 4294967296 < (X % 4294967296 - X / 4294967296) % 4294967296))) ∧ w = w' := by
  go_enter Tryd.func34, Tryd.ntmps34
  go_wp2_with (first
    | (go_at_call 27; refine (Len_calls X _ h0 h1).mono ?_; rintro e w' ⟨rfl, rfl⟩)
    | (go_at_call 28; refine (Head_calls X _ h0 h1).mono ?_; rintro e w' ⟨rfl, rfl⟩))
  go_ret
  exact ⟨ret_bool (decide_eq_decide.2 (by omega)), rfl⟩
theorem Gain_calls (X n : Int) (w : World) (h0 : 0 ≤ X) (h1 : X < 18446744073709551616) (hp : 0 ≤ n) (hp1 : n < 4294967296) : Calls Tryd.prog 79 #[.int .u64 X, .int .u32 n] w fun e w' => e = .returned (.int .u64 ((X / 4294967296 + n) % 4294967296 * 4294967296 + X % 4294967296)) ∧ w = w' := by
  go_enter Tryd.func79, Tryd.ntmps79
  go_wp2_with (first
    | (go_at_call 26; refine (Tail_calls X _ h0 h1).mono ?_; rintro e w' ⟨rfl, rfl⟩)
    | (go_at_call 28; refine (Head_calls X _ h0 h1).mono ?_; rintro e w' ⟨rfl, rfl⟩)
    | (go_at_call 23; refine (Pack_calls _ _ _ (by omega) (by omega) (by omega) (by omega)).mono ?_; rintro e w' ⟨rfl, rfl⟩))
  go_ret
  exact ⟨rfl, rfl⟩
theorem Grow_calls (X n : Int) (w : World) (h0 : 0 ≤ X) (h1 : X < 18446744073709551616) (hp : 0 ≤ n) (hp1 : n < 4294967296) : Calls Tryd.prog 83 #[.int .u64 X, .int .u32 n] w fun e w' => e = .returned (.int .u64 (X / 4294967296 * 4294967296 + (X % 4294967296 + n) % 4294967296)) ∧ w = w' := by
  go_enter Tryd.func83, Tryd.ntmps83
  go_wp2_with (first
    | (go_at_call 26; refine (Tail_calls X _ h0 h1).mono ?_; rintro e w' ⟨rfl, rfl⟩)
    | (go_at_call 28; refine (Head_calls X _ h0 h1).mono ?_; rintro e w' ⟨rfl, rfl⟩)
    | (go_at_call 23; refine (Pack_calls _ _ _ (by omega) (by omega) (by omega) (by omega)).mono ?_; rintro e w' ⟨rfl, rfl⟩))
  go_ret
  exact ⟨ret_int (by omega), rfl⟩
theorem Drop_calls (X n : Int) (w : World) (h0 : 0 ≤ X) (h1 : X < 18446744073709551616) (hp : 0 ≤ n) (hp1 : n < 4294967296) : Calls Tryd.prog 86 #[.int .u64 X, .int .u32 n] w fun e w' => e = .returned (.int .u64 (X / 4294967296 * 4294967296 + (X % 4294967296 - n) % 4294967296)) ∧ w = w' := by
  go_enter Tryd.func86, Tryd.ntmps86
  go_wp2_with (first
    | (go_at_call 26; refine (Tail_calls X _ h0 h1).mono ?_; rintro e w' ⟨rfl, rfl⟩)
    | (go_at_call 28; refine (Head_calls X _ h0 h1).mono ?_; rintro e w' ⟨rfl, rfl⟩)
    | (go_at_call 23; refine (Pack_calls _ _ _ (by omega) (by omega) (by omega) (by omega)).mono ?_; rintro e w' ⟨rfl, rfl⟩))
  go_ret
  exact ⟨ret_int (by omega), rfl⟩

/-- The rooms that are asked. -/
def isRoom (q : Int) : Prop := q = 2 ∨ q = 4 ∨ q = 8 ∨ q = 16 ∨ q = 32 ∨ q = 64
theorem Room_calls (q : Int) (w : World) (h : isRoom q) : Calls Tryd.prog 59 #[.int .i64 q] w fun e w' => e = .returned (.bool true) ∧ w = w' := by
  rcases h with rfl | rfl | rfl | rfl | rfl | rfl
  all_goals
    go_enter Tryd.func59, Tryd.ntmps59
    go_wp2
    all_goals first
      | (go_ret; exact ⟨rfl, rfl⟩)
      | (exfalso; rename_i h; revert h; decide)
theorem and_room (p q : Int) (h : isRoom q) (hp : 0 ≤ p) (hp1 : p < 4294967296) : bits BinOp.and IntKind.i64 p (q - 1) = p % q := by
  have hk : ∀ n : Int, 0 ≤ n → n < 2 ^ 63 → IntKind.i64.wrap n = n := fun n h0 h1 => IntWalk.i64_in _ (by omega)
  rcases h with rfl | rfl | rfl | rfl | rfl | rfl
  · exact bits_mask .i64 63 (by decide) hk 1 (by decide) p hp (by omega)
  · exact bits_mask .i64 63 (by decide) hk 2 (by decide) p hp (by omega)
  · exact bits_mask .i64 63 (by decide) hk 3 (by decide) p hp (by omega)
  · exact bits_mask .i64 63 (by decide) hk 4 (by decide) p hp (by omega)
  · exact bits_mask .i64 63 (by decide) hk 5 (by decide) p hp (by omega)
  · exact bits_mask .i64 63 (by decide) hk 6 (by decide) p hp (by omega)
theorem Slot_calls (p q : Int) (w : World) (h : isRoom q) (hp : 0 ≤ p) (hp1 : p < 4294967296) : Calls Tryd.prog 35 #[.int .u32 p, .int .i64 q] w fun e w' => e = .returned (.int .i64 (p % q)) ∧ w = w' := by
  have hq0 : 2 ≤ q := by unfold isRoom at h; omega
  have hq1 : q ≤ 64 := by unfold isRoom at h; omega
  have H := Lib.hid h
  clear h
  go_enter Tryd.func35, Tryd.ntmps35
  go_wp2_with (go_at_call 59; refine (Room_calls q _ H.out).mono ?_; rintro e w' ⟨rfl, rfl⟩)
  go_ret
  exact ⟨ret_int (and_room p q H.out hp hp1), rfl⟩
end Go.Proofs.YtaaegjfkappahaaDoor
