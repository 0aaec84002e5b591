/-
  stride.Orders, stride.Order, stride.Draw by walks.
-/
import Derived.Test.YtciiihiklobkaaaStrodeA
import Derived.Deep.RegionHeld3
import Derived.Deep.RegionWith
import Derived.Deep.DeepCutAuto
namespace Go.Proofs.Ytciiihiklobkaaa.Strode
open Go.RowKit
set_option linter.unusedVariables false
set_option linter.unusedSimpArgs false

theorem strides_len (n : Nat) : (strides n).length = (stridesN n).length := by simp [strides]
def ordersN (n : Nat) : Nat := n * (strides n).length
theorem ordersN_le {n : Nat} (h : n ≤ 64) : ordersN n ≤ 4096 := by
  have := stridesN_le n
  unfold ordersN
  rw [strides_len]
  calc n * (stridesN n).length ≤ 64 * 64 := Nat.mul_le_mul h (by omega)
    _ = 4096 := rfl

set_option maxHeartbeats 400000 in
theorem Orders_calls (n : Nat) (h1 : 1 ≤ n) (h64 : n ≤ 64) (w : World) :
    Calls Try.prog 42 #[.int .i64 n] w fun e w' => e = .returned (.int .i64 (ordersN n)) ∧ Below w.heap.size w w' := by
  have hl := ordersN_le h64
  have hm : (n : Int) * ((strides n).length : Int) = ((ordersN n : Nat) : Int) := by simp [ordersN]
  go_enter Try.func42, Try.ntmps42
  go_wp2_with fail
  refine (Strides_calls n h1 h64 _).mono ?_
  rintro e w' ⟨v, rfl, hown, hb⟩
  obtain ⟨A, c, rfl, hc, hr⟩ := own_RI hown
  have HB := Lib.hid hb
  clear hown hr hb
  go_wp2
  go_ret
  exact ⟨rfl, HB.out⟩

/-- The k-th place of an order. -/
def place (n start step k : Nat) : Nat := (start + k * step) % n
def dueTo (n start step k : Nat) : List Int := (List.range k).map fun i => ((place n start step i : Nat) : Int)
theorem due_eq (n start step : Nat) : due n start step = dueTo n start step n := rfl
theorem dueTo_succ (n start step k : Nat) : dueTo n start step (k + 1) = dueTo n start step k ++ [(place n start step k : Int)] := by
  unfold dueTo
  rw [List.range_succ, List.map_append]
  rfl
theorem place_zero {n start step : Nat} (h : start < n) : place n start step 0 = start := by simp [place, Nat.mod_eq_of_lt h]
theorem place_lt {n start step k : Nat} (h : 0 < n) : place n start step k < n := Nat.mod_lt _ h
theorem place_succ (n start step k : Nat) : ((place n start step k : Int) + (step : Int)) % (n : Int) = (place n start step (k + 1) : Int) := by
  have : (place n start step k + step) % n = place n start step (k + 1) := by
    unfold place
    rw [Nat.add_mod, Nat.mod_mod, ← Nat.add_mod, Nat.succ_mul, Nat.add_assoc]
  exact_mod_cast this

set_option maxHeartbeats 800000 in
set_option maxRecDepth 100000 in
theorem Order_calls (n : Nat) (draw r : Int) (at' start q : Nat) (h1 : 1 ≤ n) (h64 : n ≤ 64) (hd1 : -32768 ≤ draw) (hd2 : draw ≤ 32767)
    (hr : draw.tmod (ordersN n) = r) (hr1 : -4096 ≤ r) (hr2 : r ≤ 4096) (hr3 : 0 ≤ r + (ordersN n : Int)) (hs : (r + (ordersN n : Int)) % (ordersN n : Int) = at') (h0 : 0 < ordersN n)
    (hst : (at' : Int) % (n : Int) = start) (hq : (at' : Int) / (n : Int) = q) (hqs : q < (strides n).length) (step : Nat) (hstep : rd (strides n) q = step) (hstepl : (step : Int) ≤ 64) (w : World) :
    Calls Try.prog 45 #[.int .i64 n, .int .i64 draw] w fun e w' => ∃ v, e = .returned v ∧ w'.ownsRow w.heap.size 3 1 v n (ints (due n start step)) ∧ Below w.heap.size w w' := by
  obtain ⟨i0, hi, hz0, hz1, hz2⟩ := info_parts info3
  have hl := ordersN_le h64
  have hat : at' < ordersN n := by have := Int.emod_lt_of_pos (r + (ordersN n : Int)) (b := (ordersN n : Int)) (by omega); omega
  have hb0 : ((ordersN n : Int) == 0) = false := by simp; omega
  have hn0 : ((n : Int) == 0) = false := by simp; omega
  go_enter Try.func45, Try.ntmps45
  go_wp2_with fail
  refine (right_calls n h1 h64 _).mono ?_
  rintro e w' ⟨rfl, rfl⟩
  go_wp2_with fail
  refine (Orders_calls n h1 h64 _).mono ?_
  rintro e w1 ⟨rfl, hb1⟩
  have HB1 := Lib.hid hb1
  clear hb1
  go_upto_region 5 with fail
  rw [hs]
  clear hs
  have hcall : ∀ W : World, Calls Try.prog 41 #[.int .i64 n] W fun e w' => ∃ ad c, e = .returned (.slice (some ad) (strides n).length c) ∧ w'.cell? (ad.add q) = some (.int .i64 step) ∧ Aside (Below W.heap.size W w') := by
    intro W
    refine (Strides_calls n h1 h64 W).mono ?_
    rintro e w' ⟨v, rfl, hown, hb⟩
    obtain ⟨A, c, rfl, hc, hr⟩ := own_RI hown
    obtain ⟨ad, rfl, hcell⟩ := hr.at_ q hqs
    rw [hstep] at hcell
    exact ⟨ad, c, rfl, hcell, hb⟩
  have HC := Lib.hid hcall
  clear hcall
  have hst2 : (at' : Int).tmod (n : Int) = start := by rw [Int.tmod_eq_emod_of_nonneg (by omega)]; exact hst
  have hq2 : (at' : Int).tdiv (n : Int) = q := by rw [Int.tdiv_eq_ediv_of_nonneg (by omega)]; exact hq
  have hwq : IntKind.i64.wrap (q : Int) = q := IntWalk.i64_in _ (by have := stridesN_le n; rw [strides_len] at hqs; omega)
  have hq0 : 0 ≤ (q : Int) := by omega
  have hqlt : (q : Int) < ((strides n).length : Int) := by omega
  go_cut [6, 7] (fun s6 s7 wx => s6 = .int .i64 start ∧ s7 = .int .i64 step ∧ Aside (Below w.heap.size w wx))
  case first =>
    go_region_with (go_at_call 41; refine (HC.out _).mono ?_; rintro e w' ⟨ad, c, rfl, hcell, hb⟩)
    all_goals (go_wp2_with fail; go_meet; exact ⟨rfl, rfl, below_then (HB1.out.drew) (by have := HB1.out.size; simpa using this) hb⟩)
  case rest =>
    obtain ⟨rfl, rfl, HB2⟩ := hcut
    have hstn : start < n := by have := Int.emod_lt_of_pos (at' : Int) (b := (n : Int)) (by omega); omega
    have hsp : (step : Int) ≤ 64 := hstepl
    clear HB1 hst hst2 hq hq2 hwq hq0 hqlt HC hr hb0
    go_wp2
    go_loopg [4, 6, 31] n (fun g v a i wr => ∃ k : Nat, k + g = n ∧ i = .int .i64 k ∧ a = .int .i64 (place n start step k) ∧ wr.ownsRow w.heap.size 3 1 v k (ints (dueTo n start step k)) ∧ Below w.heap.size w wr)
    case atStart => exact ⟨0, by omega, rfl, by rw [place_zero hstn], World.ownsRow_nil _ _ _ _, HB2⟩
    case round =>
      obtain ⟨k, hk, rfl, rfl, hown, hb⟩ := hrel
      cases gk with
      | zero =>
        have hge : ¬ ((k : Int) < (n : Int)) := by omega
        have hkn : k = n := by omega
        have HO := Lib.hid hown
        have HB := Lib.hid hb
        have HK := Lib.hid hkn
        clear hown hb hkn
        go_wp2
        go_ret
        exact ⟨_, rfl, by have := HO.out; rw [HK.out] at this; rw [due_eq]; exact this, HB.out⟩
      | succ g =>
        have hlt : (k : Int) < (n : Int) := by omega
        have hk64 : k < 64 := by omega
        have hp1 := place_lt (n := n) (start := start) (step := step) (k := k) (by omega)
        have hp2 := place_succ n start step k
        have HO := Lib.hid hown
        have HB := Lib.hid hb
        clear hown hb
        go_wp2_with (at_builtin; refine wpList_append_own _ rfl _ _ 26 rfl w.heap.size 3 i0 (.int .i64 0) 1 8 Try.underlying26 hi hz0 hz1 hz2 rfl (by decide) _ _ _ rfl (HO.out.alloc _) ⟨wr.heap.size, 0, none⟩ 1 1 [.int .i64 (place n start step k)] rfl rfl (cell_one_new _ _ _) (one_int _ _) ?c3 ?c4 ?c5 ?_)
        case c3 => unfold maxLen; omega
        case c4 => omega
        case c5 => have := HB.out.size; simp; omega
        intro v' w' hown hgr _
        have hb : Below w.heap.size w w' := (HB.out.alloc HB.out.size _).grown hgr (by have := HB.out.size; simp; omega) (fun q hq => (HO.out.lt q hq).1)
        have hown2 : w'.ownsRow w.heap.size 3 1 v' (k + 1) (ints (dueTo n start step (k + 1))) := by
          rw [dueTo_succ, ints_append]; exact hown
        have HO2 := Lib.hid hown2
        have HB3 := Lib.hid hb
        clear hown hown2 hb hgr
        go_wp2
        go_roundg g
        case measure => omega
        case rel => exact ⟨k + 1, by omega, by go_num, by rw [hp2], HO2.out, HB3.out⟩

set_option maxHeartbeats 400000 in
theorem Draw_calls (n start step i : Nat) (h1 : 1 ≤ n) (h64 : n ≤ 64) (hi : idxFrom (strides n) step (strides n).length 0 = i) (hs : start < n) (w : World) :
    Calls Try.prog 44 #[.int .i64 n, .int .i64 start, .int .i64 step] w fun e w' => e = .returned (.tuple #[.int .i64 ((i * n + start : Nat) : Int), .bool true]) ∧ Below w.heap.size w w' := by
  have hlen : (i : Int) < (strides n).length := by have := (idxFrom_range (strides n) step (strides n).length 0).2; omega
  have hle := stridesN_le n
  rw [← strides_len] at hle
  obtain ⟨p, hp⟩ : ∃ p, p = i * n := ⟨_, rfl⟩
  have hmul : (i : Int) * (n : Int) = (p : Int) := by rw [hp]; simp
  have hm2 : p ≤ 4096 := by
    rw [hp]
    calc i * n ≤ 64 * 64 := Nat.mul_le_mul (by omega) h64
      _ = 4096 := rfl
  have hm3 : 0 ≤ (i : Int) := by omega
  have hsi : (start : Int) < (n : Int) := by omega
  have HI := Lib.hid hi
  have hfin : (p : Int) + (start : Int) = ((i * n + start : Nat) : Int) := by rw [hp]; simp
  have HF := Lib.hid hfin
  clear hi hlen hle hfin hp
  go_enter Try.func44, Try.ntmps44
  go_wp2_with fail
  refine (Strides_calls n h1 h64 _).mono ?_
  rintro e w' ⟨v, rfl, hown, hb⟩
  obtain ⟨A, c, rfl, hc, hr⟩ := own_RI hown
  have HB := Lib.hid hb
  have HR := Lib.hid hr
  clear hown hr hb
  go_wp2_with fail
  refine (Index_calls _ _ _ _ _ _ HR.out).mono ?_
  rintro e w2 ⟨rfl, m, rfl⟩
  rw [HI.out]
  go_wp2
  go_ret2
  exact ⟨by rw [← HF.out]; rfl, below_drewN HB.out m⟩

set_option maxHeartbeats 400000 in
theorem Draw_past (n step i : Nat) (h1 : 1 ≤ n) (h64 : n ≤ 64) (hi : idxFrom (strides n) step (strides n).length 0 = i) (w : World) :
    Calls Try.prog 44 #[.int .i64 n, .int .i64 n, .int .i64 step] w fun e w' => e = .returned (.tuple #[.int .i64 0, .bool false]) ∧ Below w.heap.size w w' := by
  have HI := Lib.hid hi
  clear hi
  have h0 : 0 ≤ (i : Int) := by omega
  go_enter Try.func44, Try.ntmps44
  go_wp2_with fail
  refine (Strides_calls n h1 h64 _).mono ?_
  rintro e w' ⟨v, rfl, hown, hb⟩
  obtain ⟨A, c, rfl, hc, hr⟩ := own_RI hown
  have HB := Lib.hid hb
  have HR := Lib.hid hr
  clear hown hr hb
  go_wp2_with fail
  refine (Index_calls _ _ _ _ _ _ HR.out).mono ?_
  rintro e w2 ⟨rfl, m, rfl⟩
  rw [HI.out]
  go_wp2
  go_ret2
  exact ⟨rfl, below_drewN HB.out m⟩
end Go.Proofs.Ytciiihiklobkaaa.Strode
