/-
  A raw sample and the sample that the law makes of it.
-/
import Derived.Test.YtciiihiklobkaaaMeasI
namespace Go.Proofs.Ytciiihiklobkaaa.Meas
open Go.RowKit
set_option linter.unusedVariables false

structure Raw where
  kind : Nat
  a : Nat
  long : Nat
  act : Nat
  g : Nat
  safe : Bool
structure Raw.ok (r : Raw) : Prop where
  h0 : r.kind < 256
  h1 : r.a < 256
  h2 : r.long < 256
  h3 : r.act < 256
  h4 : r.g < 256
def actTo (x : Nat) : Nat → List Int
  | 0 => []
  | m + 1 => if x / 2 ^ m % 2 = 1 then actTo x m ++ [(m : Int)] else actTo x m
theorem actTo_bd (x : Nat) : ∀ m, (actTo x m).length ≤ m ∧ ∀ y ∈ actTo x m, 0 ≤ y ∧ y < m
  | 0 => ⟨Nat.le_refl _, by simp [actTo]⟩
  | m + 1 => by
    have ih := actTo_bd x m
    unfold actTo
    by_cases h : x / 2 ^ m % 2 = 1
    · rw [if_pos h]
      refine ⟨by simp; omega, fun y hy => ?_⟩
      rcases List.mem_append.1 hy with h1 | h1
      · have := ih.2 y h1; omega
      · simp at h1; omega
    · rw [if_neg h]
      refine ⟨by omega, fun y hy => ?_⟩
      have := ih.2 y hy; omega
def toSmp (r : Raw) : Smp := ⟨(r.kind % 3 : Nat), if r.kind % 3 = 0 then (r.a % 4 : Nat) else -1, (r.long : Int) * 200000 - 5000000, actTo r.act 4, if r.kind % 3 = 0 then (r.g % 5 : Nat) - 1 else -1, r.safe⟩
theorem toSmp_ok {r : Raw} (h : r.ok) : (toSmp r).ok := by
  have := h.h2
  have hb := actTo_bd r.act 4
  refine ⟨?_, ?_, ?_, ?_, ?_, ?_, ?_, ?_, hb.1, fun y hy => ?_⟩
  all_goals try simp only [toSmp]
  · omega
  · omega
  · split <;> omega
  · split <;> omega
  · omega
  · omega
  · split <;> omega
  · split <;> omega
  · have := hb.2 y hy; omega
end Go.Proofs.Ytciiihiklobkaaa.Meas
