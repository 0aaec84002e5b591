/-
  stride.Strides walks to the list of the strides.
-/
import Derived.Test.YtciiihiklobkaaaSl
import Derived.Test.YtciiihiklobkaaaStrodeMath
namespace Go.Proofs.Ytciiihiklobkaaa.Strode
open Go.RowKit

set_option maxHeartbeats 400000 in
theorem right_calls (n : Nat) (h1 : 1 ≤ n) (h64 : n ≤ 64) (w : World) : Calls Try.prog 63 #[.int .i64 n] w fun e w' => e = .returned (.bool true) ∧ w = w' := by
  have h2 : decide (1 ≤ (n : Int)) = true := by simp; omega
  have h3 : decide ((n : Int) ≤ 64) = true := by simp; omega
  go_enter Try.func63, Try.ntmps63
  go_wp2
  go_ret
  exact ⟨rfl, rfl⟩

def stridesTo (n k : Nat) : List Int := ((List.range' 1 k).filter (okN n)).map fun (k : Nat) => (k : Int)
/-- No number up to j, from 2 on, divides both. -/
def okTo (n k j : Nat) : Prop := ∀ d, d ≤ j → d < 2 ∨ n % d ≠ 0 ∨ k % d ≠ 0
theorem okTo_zero (n k : Nat) : okTo n k 0 := fun d h => .inl (by omega)
theorem okTo_succ {n k j : Nat} (h : okTo n k j) (h1 : j = 0 ∨ n % (j + 1) ≠ 0 ∨ k % (j + 1) ≠ 0) : okTo n k (j + 1) := by
  intro d hd
  rcases Nat.lt_or_ge d (j + 1) with h2 | h2
  · exact h d (by omega)
  · obtain rfl : d = j + 1 := by omega
    rcases h1 with h1 | h1
    · left; omega
    · right; exact h1
theorem okN_of {n k : Nat} (h : okTo n k k) : okN n k = true := by
  unfold okN
  rw [List.all_eq_true]
  intro d hd
  simp only [List.mem_range] at hd
  rcases h d (by omega) with h | h | h <;> simp [h]
theorem okN_not {n k d : Nat} (h2 : 2 ≤ d) (hd : d ≤ k) (ha : n % d = 0) (hb : k % d = 0) : okN n k = false := by
  rw [← Bool.not_eq_true]
  intro h
  unfold okN at h
  rw [List.all_eq_true] at h
  have := h d (by simp; omega)
  simp [ha, hb] at this
  omega
theorem stridesTo_yes {n k : Nat} (h : okN n (k + 1) = true) : stridesTo n (k + 1) = stridesTo n k ++ [((k + 1 : Nat) : Int)] := by
  unfold stridesTo
  rw [List.range'_concat, List.filter_append, List.map_append]
  simp [Nat.add_comm 1 k, h]
theorem stridesTo_no {n k : Nat} (h : okN n (k + 1) = false) : stridesTo n (k + 1) = stridesTo n k := by
  unfold stridesTo
  rw [List.range'_concat, List.filter_append, List.map_append]
  simp [Nat.add_comm 1 k, h]

theorem stridesTo_le (n k : Nat) : (stridesTo n k).length ≤ k := by
  have := List.length_filter_le (okN n) (List.range' 1 k)
  simpa [stridesTo] using this

set_option maxHeartbeats 400000 in
set_option maxRecDepth 100000 in
theorem Strides_calls (n : Nat) (h1 : 1 ≤ n) (h64 : n ≤ 64) (w : World) :
    Calls Try.prog 41 #[.int .i64 n] w fun e w' => ∃ v, e = .returned v ∧ w'.ownsRow w.heap.size 3 1 v (strides n).length (ints (strides n)) ∧ Below w.heap.size w w' := by
  obtain ⟨i0, hi, hz0, hz1, hz2⟩ := info_parts info3
  go_enter Try.func41, Try.ntmps41
  go_wp2
  go_step3
  go_wp2_with fail
  refine (right_calls n h1 h64 _).mono ?_
  rintro e w' ⟨rfl, rfl⟩
  go_wp2
  go_step3
  go_wp2
  go_loopg [2, 10] n (fun g v i wr => ∃ k : Nat, k + g = n ∧ i = .int .i64 k ∧ wr.ownsRow w.heap.size 3 1 v (stridesTo n k).length (ints (stridesTo n k)) ∧ Below w.heap.size w wr)
  case atStart => exact ⟨0, by omega, rfl, World.ownsRow_nil _ _ _ _, Below.refl _ _⟩
  case round =>
    obtain ⟨k, hk, rfl, hown, hb⟩ := hrel
    cases gk with
    | zero =>
      have hge : ¬ ((k : Int) < (n : Int)) := by omega
      have hkn : k = n := by omega
      have HO := Lib.hid hown
      have HB := Lib.hid hb
      have HK := Lib.hid hkn
      clear hown hb hkn
      go_wp2
      try rw [Exit.noGoto_ret]
      go_ret
      exact ⟨_, rfl, by have := HO.out; rw [HK.out] at this; exact this, HB.out⟩
    | succ g =>
      have hlt : (k : Int) < (n : Int) := by omega
      have hk64 : k < 64 := by omega
      have HO := Lib.hid hown
      have HB := Lib.hid hb
      clear hown hb
      go_wp2
      go_loopg [15] (k + 1) (fun g2 i wy => ∃ j : Nat, j + g2 = k + 1 ∧ i = .int .i64 j ∧ Aside (okTo n (k + 1) j) ∧ wr = wy)
      case atStart => exact ⟨0, by omega, rfl, okTo_zero _ _, rfl⟩
      case round =>
        obtain ⟨j, hj, rfl, HJ, rfl⟩ := hrel
        cases gk with
        | zero =>
          have hge : ¬ ((j : Int) < (k : Int) + 1) := by omega
          have hjk : j = k + 1 := by omega
          subst hjk
          have hok := okN_of HJ.out
          go_wp2_with (at_builtin; refine wpList_append_own _ rfl _ _ 26 rfl w.heap.size 3 i0 (.int .i64 0) 1 8 Try.underlying26 hi hz0 hz1 hz2 rfl (by decide) _ _ _ rfl (HO.out.alloc _) ⟨wr.heap.size, 0, none⟩ 1 1 [.int .i64 ((k : Int) + 1)] rfl rfl (cell_one_new _ _ _) (one_int _ _) ?c3 ?c4 ?c5 ?_)
          case c3 => have := stridesTo_le n k; unfold maxLen; omega
          case c4 => have := stridesTo_le n k; omega
          case c5 => have := HB.out.size; simp; omega
          intro v' w' hown hgr _
          have hb : Below w.heap.size w w' := (HB.out.alloc HB.out.size _).grown hgr (by have := HB.out.size; simp; omega) (fun q hq => (HO.out.lt q hq).1)
          have hown2 : w'.ownsRow w.heap.size 3 1 v' (stridesTo n (k + 1)).length (ints (stridesTo n (k + 1))) := by
            rw [stridesTo_yes hok, List.length_append, ints_append]; exact hown
          have HO2 := Lib.hid hown2
          have HB2 := Lib.hid hb
          clear hown hown2 hb hgr hok
          go_wp2
          go_roundg g
          case measure => omega
          case rel => exact ⟨k + 1, by omega, by go_num, HO2.out, HB2.out⟩
        | succ g2 =>
          have hltj : (j : Int) < (k : Int) + 1 := by omega
          by_cases h0 : j = 0
          · subst h0
            go_wp2
            go_roundg g2
            case measure => omega
            case rel => exact ⟨1, by omega, by go_num, okTo_succ HJ.out (.inl rfl), rfl⟩
          · have hj1 : 1 < (j : Int) + 1 := by omega
            by_cases hn : n % (j + 1) = 0
            · have e1 : (n : Int) % ((j : Int) + 1) = 0 := by have := congrArg (fun x : Nat => (x : Int)) hn; simpa using this
              by_cases hkk : (k + 1) % (j + 1) = 0
              · have e2 : (((k : Int) + 1) % ((j : Int) + 1) == 0) = true := by have := congrArg (fun x : Nat => (x : Int)) hkk; simpa using this
                have hno := okN_not (n := n) (k := k + 1) (d := j + 1) (by omega) (by omega) hn hkk
                clear hn hkk
                go_wp2
                go_roundg g
                case measure => omega
                case rel => exact ⟨k + 1, by omega, by go_num, by rw [stridesTo_no hno]; exact HO.out, HB.out⟩
              · have e2 : (((k : Int) + 1) % ((j : Int) + 1) == 0) = false := by
                  simp only [beq_eq_false_iff_ne, ne_eq]
                  intro h
                  exact hkk (by exact_mod_cast h)
                have hok := okTo_succ HJ.out (.inr (.inr hkk))
                clear hn hkk
                go_wp2
                go_roundg g2
                case measure => omega
                case rel => exact ⟨j + 1, by omega, by go_num, hok, rfl⟩
            · have e1 : ¬ (n : Int) % ((j : Int) + 1) = 0 := fun h => hn (by exact_mod_cast h)
              have hok := okTo_succ (n := n) (k := k + 1) HJ.out (.inr (.inl hn))
              clear hn
              go_wp2
              go_roundg g2
              case measure => omega
              case rel => exact ⟨j + 1, by omega, by go_num, hok, rfl⟩
end Go.Proofs.Ytciiihiklobkaaa.Strode
