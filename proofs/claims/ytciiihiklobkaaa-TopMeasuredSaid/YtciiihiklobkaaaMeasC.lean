/-
  fair.sum and fair.product by a walk; Bound at the two places that are asked.
-/
import Derived.Test.YtciiihiklobkaaaMp
import Derived.Test.YtciiihiklobkaaaShelfB
import Derived.Deep.CutBlock
import Derived.Deep.DeepCutAuto
namespace Go.Proofs.Ytciiihiklobkaaa.Meas
open Go.RowKit
set_option linter.unusedVariables false
set_option linter.unusedSimpArgs false

def top : Int := 4611686018427387904
def sumOf (xs : List Int) : Int := xs.foldl (fun c x => min (c + min x 4611686018427387904) 4611686018427387904) 0
theorem sumOf_snoc (xs : List Int) (x : Int) : sumOf (xs ++ [x]) = min (sumOf xs + min x 4611686018427387904) 4611686018427387904 := by simp [sumOf]
theorem sumOf_bd (xs : List Int) (h : ∀ x ∈ xs, 0 ≤ x) : 0 ≤ sumOf xs ∧ sumOf xs ≤ 4611686018427387904 := by
  have key : ∀ (q : List Int) (c : Int), (∀ x ∈ q, 0 ≤ x) → 0 ≤ c → c ≤ 4611686018427387904 → 0 ≤ q.foldl (fun c x => min (c + min x 4611686018427387904) 4611686018427387904) c ∧ q.foldl (fun c x => min (c + min x 4611686018427387904) 4611686018427387904) c ≤ 4611686018427387904 := by
    intro q
    induction q with
    | nil => intro c _ h0 h1; exact ⟨h0, h1⟩
    | cons x q ih =>
      intro c hq h0 h1
      have h2 := hq x (by simp)
      exact ih _ (fun y hy => hq y (by simp [hy])) (by show 0 ≤ min (c + min x 4611686018427387904) 4611686018427387904; omega) (by show min (c + min x 4611686018427387904) 4611686018427387904 ≤ _; omega)
  exact key xs 0 h (by omega) (by omega)

set_option maxHeartbeats 1600000 in
theorem sum_calls (B n : Nat) (xs : List Int) (w : World) (hl : xs.length = n) (hn : n ≤ 1000) (hx : ∀ j, j < n → w.cell? ⟨B, j, none⟩ = some (.int .u64 (rd xs j))) (h0 : ∀ x ∈ xs, 0 ≤ x) :
    Calls Try.prog 16 #[.slice (some ⟨B, 0, none⟩) n n] w fun e w' => e = .returned (.int .u64 (sumOf xs)) ∧ w' = w := by
  have HX := Lib.hid hx
  have HL := Lib.hid hl
  have H0 := Lib.hid h0
  clear hx hl h0
  go_enter Try.func16, Try.ntmps16
  go_wp2
  go_loopg [2, 7] n (fun gh v2 v7 wr => ∃ j : Nat, j + gh = n ∧ v7 = .int .i64 j ∧ v2 = .int .u64 (sumOf (xs.take j)) ∧ wr = w)
  case atStart => exact ⟨0, by omega, rfl, rfl, rfl⟩
  case round =>
    obtain ⟨j, hj, rfl, rfl, rfl⟩ := hrel
    cases gk with
    | zero =>
      have hge : ¬ ((j : Int) < (n : Int)) := by omega
      have hjn : j = n := by omega
      have HJ := Lib.hid hjn
      clear hjn
      go_wp2
      go_ret
      rw [HJ.out, List.take_of_length_le (by rw [HL.out]; exact Nat.le_refl _)]
      exact ⟨rfl, rfl⟩
    | succ gh =>
      have hlt : (j : Int) < (n : Int) := by omega
      have hltn : j < n := by omega
      have hc := HX.out j hltn
      have htk := take_rd (xs := xs) (i := j) (by rw [HL.out]; exact hltn)
      have hb := sumOf_bd (xs.take j) (fun x hx => H0.out x (List.mem_of_mem_take hx))
      have hx0 : 0 ≤ rd xs j := H0.out _ (rd_mem (by rw [HL.out]; exact hltn))
      have hb0 := hb.1
      have hb1 := hb.2
      have HT := Lib.hid (show sumOf (xs.take (j + 1)) = _ from (congrArg sumOf htk).trans (sumOf_snoc _ _))
      clear hb htk
      generalize sumOf (xs.take j) = a at *
      generalize hy : rd xs j = y at *
      clear hy
      go_wp2
      all_goals
        go_roundg gh
        case measure => omega
        case rel => exact ⟨j + 1, by omega, by go_num, congrArg (Value.int .u64) (Eq.trans (by omega) HT.out.symm), rfl⟩

def mulStep (c x : Nat) : Nat := if 0 < c * x / 18446744073709551616 then 4611686018427387904 else min (c * x % 18446744073709551616) 4611686018427387904
def prodOf (xs : List Nat) : Nat := xs.foldl mulStep 1
theorem prodOf_snoc (xs : List Nat) (x : Nat) : prodOf (xs ++ [x]) = mulStep (prodOf xs) x := by simp [prodOf]
theorem mulStep_def (c x : Nat) : mulStep c x = if 0 < c * x / 18446744073709551616 then 4611686018427387904 else min (c * x % 18446744073709551616) 4611686018427387904 := rfl
theorem mulStep_le (c x : Nat) : mulStep c x ≤ 4611686018427387904 := by unfold mulStep; split <;> omega
theorem prodOf_le (xs : List Nat) : prodOf xs ≤ 4611686018427387904 := by
  rcases List.eq_nil_or_concat xs with rfl | ⟨ys, y, rfl⟩
  · decide
  · rw [List.concat_eq_append, prodOf_snoc]; exact mulStep_le _ _
def nrd (xs : List Nat) (j : Nat) : Nat := xs.getD j 0
theorem nrd_at {xs : List Nat} {i : Nat} (h : i < xs.length) : nrd xs i = xs[i] := by simp [nrd, List.getD_eq_getElem?_getD, List.getElem?_eq_getElem h]
theorem ntake {xs : List Nat} {i : Nat} (h : i < xs.length) : xs.take (i + 1) = xs.take i ++ [nrd xs i] := by rw [List.take_succ_eq_append_getElem h, nrd_at h]

set_option maxHeartbeats 1600000 in
theorem product_calls (B n : Nat) (xs : List Nat) (w : World) (hl : xs.length = n) (hn : n ≤ 1000) (hx : ∀ j, j < n → w.cell? ⟨B, j, none⟩ = some (.int .u64 (nrd xs j))) (h0 : ∀ x ∈ xs, x < 18446744073709551616) :
    Calls Try.prog 17 #[.slice (some ⟨B, 0, none⟩) n n] w fun e w' => e = .returned (.int .u64 (prodOf xs)) ∧ w' = w := by
  have HX := Lib.hid hx
  have HL := Lib.hid hl
  have H0 := Lib.hid h0
  clear hx hl h0
  go_enter Try.func17, Try.ntmps17
  go_wp2
  go_loopg [3, 10] n (fun gh v3 v10 wr => ∃ j : Nat, j + gh = n ∧ v10 = .int .i64 j ∧ v3 = .int .u64 (prodOf (xs.take j)) ∧ wr = w)
  case atStart => exact ⟨0, by omega, rfl, rfl, rfl⟩
  case round =>
    obtain ⟨j, hj, rfl, rfl, rfl⟩ := hrel
    cases gk with
    | zero =>
      have hge : ¬ ((j : Int) < (n : Int)) := by omega
      have hjn : j = n := by omega
      have HJ := Lib.hid hjn
      clear hjn
      go_wp2
      go_ret
      rw [HJ.out, List.take_of_length_le (by rw [HL.out]; exact Nat.le_refl _)]
      exact ⟨rfl, rfl⟩
    | succ gh =>
      have hlt : (j : Int) < (n : Int) := by omega
      have hltn : j < n := by omega
      have hc := HX.out j hltn
      have htk := ntake (xs := xs) (i := j) (by rw [HL.out]; exact hltn)
      have hb := prodOf_le (xs.take j)
      have hx0 : nrd xs j < 18446744073709551616 := H0.out _ (by rw [nrd_at (by rw [HL.out]; exact hltn)]; exact List.getElem_mem _)
      have HT := Lib.hid (show prodOf (xs.take (j + 1)) = _ from (congrArg prodOf htk).trans (prodOf_snoc _ _))
      clear htk
      generalize prodOf (xs.take j) = a at *
      generalize hy : nrd xs j = y at *
      clear hy
      have hM := Try.bits_Mul64 a y (by omega) hx0 wr
      have HM := Lib.hid (mulStep_def a y)
      have hlo : a * y % 18446744073709551616 < 18446744073709551616 := Nat.mod_lt _ (by omega)
      generalize hhi : a * y / 18446744073709551616 = hi at *
      generalize hlo' : a * y % 18446744073709551616 = lo at *
      clear hhi hlo'
      have HMM := Lib.hid hM
      clear hM
      go_upto_region 5 with fail
      go_cut [6, 7] (fun v6 v7 wx => v6 = .int .u64 hi ∧ v7 = .int .u64 lo ∧ wx = wr)
      case first =>
        go_wp2_with (go_at_call 53; refine HMM.out.mono ?_; rintro e w' ⟨rfl, rfl⟩)
        go_meet
        exact ⟨rfl, rfl, rfl⟩
      case rest =>
        obtain ⟨rfl, rfl, rfl⟩ := hcut
        by_cases hh : 0 < hi
        · have hhi : (0 : Int) < (hi : Int) := by omega
          go_wp2
          all_goals
            go_roundg gh
            case measure => omega
            case rel => exact ⟨j + 1, by omega, by go_num, by rw [HT.out, HM.out, if_pos hh]; rfl, rfl⟩
        · have hhi : ¬ (0 : Int) < (hi : Int) := by omega
          go_wp2
          all_goals
            go_roundg gh
            case measure => omega
            case rel => exact ⟨j + 1, by omega, by go_num, by rw [HT.out, HM.out, if_neg hh]; exact congrArg (Value.int .u64) (by omega), rfl⟩
end Go.Proofs.Ytciiihiklobkaaa.Meas
