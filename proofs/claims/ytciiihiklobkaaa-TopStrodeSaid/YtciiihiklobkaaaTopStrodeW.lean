/-
  TopStrode's walk: both calls of strode answer true.
-/
import Derived.Test.YtciiihiklobkaaaStrodeC
namespace Go.Proofs.Ytciiihiklobkaaa.Strode
open Go.RowKit
set_option linter.unusedVariables false
set_option linter.unusedSimpArgs false

theorem RB.prefix_ {w : World} {A : Option Addr} {n k : Nat} {xs : List Int} (h : RB w A n xs) (hk : k ≤ n) : RB w A k (xs.take k) := by
  refine ⟨by rw [List.length_take, h.1]; omega, fun h0 => ?_⟩
  obtain ⟨ad, e, hc⟩ := h.2 (by omega)
  refine ⟨ad, e, fun j hj => ?_⟩
  have : rd (xs.take k) j = rd xs j := by
    have := h.1
    rw [rd_at (by rw [List.length_take]; omega), rd_at (by omega), List.getElem_take]
  rw [this]
  exact hc j (by omega)
theorem strode_any (n : Nat) (draw : Int) (h1 : 1 ≤ n) (h64 : n ≤ 64) (hd1 : -32768 ≤ draw) (hd2 : draw ≤ 32767)
    (AW : Option Addr) (len cw : Nat) (bs : List Int) (w : World) (hbs : RB w AW len bs) (hlen : len ≤ 20) :
    Calls Try.prog 11 #[.int .i64 n, .int .i64 draw, .slice AW len cw] w fun e w' => e = .returned (.bool true) ∧ Below w.heap.size w w' := by
  have hL := stridesN_pos h1
  have hle := ordersN_le h64
  have h0 : 0 < ordersN n := by unfold ordersN; rw [strides_len]; exact Nat.mul_pos (by omega) hL
  have hr1 : -(ordersN n : Int) < draw.tmod (ordersN n) := by
    have := Int.lt_tmod_of_pos draw (b := (ordersN n : Int)) (by omega)
    omega
  have hr2 : draw.tmod (ordersN n) < (ordersN n : Int) := Int.tmod_lt_of_pos _ (by omega)
  have hm0 : 0 ≤ (draw.tmod (ordersN n) + (ordersN n : Int)) % (ordersN n : Int) := Int.emod_nonneg _ (by omega)
  have hm1 : (draw.tmod (ordersN n) + (ordersN n : Int)) % (ordersN n : Int) < ordersN n := Int.emod_lt_of_pos _ (by omega)
  obtain ⟨at', hat⟩ := Int.eq_ofNat_of_zero_le hm0
  have hatl : at' < n * (stridesN n).length := by
    have : at' < ordersN n := by omega
    unfold ordersN at this
    rwa [strides_len] at this
  have hq : at' / n < (stridesN n).length := Nat.div_lt_of_lt_mul hatl
  have hmem : (stridesN n)[at' / n] ∈ stridesN n := List.getElem_mem hq
  have hms := mem_stridesN.1 hmem
  have hrd : rd (strides n) (at' / n) = ((stridesN n)[at' / n] : Nat) := by
    rw [rd_at (by rw [strides_len]; exact hq)]
    simp [strides]
  refine strode_calls n draw _ at' (at' % n) (at' / n) h1 h64 hd1 hd2 rfl (by omega) (by omega) (by omega) hat h0 (by simp) (by simp) (by rw [strides_len]; exact hq) ((stridesN n)[at' / n]) hrd (by omega) ?_ ?_ (stridesN_co hmem) AW len cw bs w hbs hlen
  · refine idxFrom_first _ _ _ 0 (at' / n) (Nat.zero_le _) (by rw [strides_len, Nat.zero_add]; exact hq) hrd ?_
    intro k _ hk
    rw [rd_at (by rw [strides_len]; exact Nat.lt_trans hk hq)]
    simp only [strides, List.getElem_map]
    have := (List.pairwise_iff_getElem.1 (stridesN_nodup n)) k (at' / n) (Nat.lt_trans hk hq) hq hk
    omega
  · have := Nat.div_add_mod at' n
    rw [Nat.mul_comm]; exact this

set_option maxHeartbeats 800000 in
set_option maxRecDepth 100000 in
theorem TopStrode_calls (a draw : Int) (ha0 : 0 ≤ a) (ha1 : a ≤ 255) (hd1 : -32768 ≤ draw) (hd2 : draw ≤ 32767) (A : Option Addr) (len cap : Nat) (bs : List Int) (w : World) (hbs : RB w A len bs) (hlc : len ≤ cap) (hcm : cap ≤ maxLen) :
    Calls Try.prog 5 #[.int .u8 a, .int .i16 draw, .slice A len cap] w fun e w' => e = .returned (.bool true) ∧ Below w.heap.size w w' := by
  have HBS := Lib.hid hbs
  clear hbs
  obtain ⟨m, hm⟩ := Int.eq_ofNat_of_zero_le (Int.emod_nonneg a (show (64 : Int) ≠ 0 by decide))
  have hml : m < 64 := by have := Int.emod_lt_of_pos a (show (0 : Int) < 64 by decide); omega
  go_enter Try.func5, Try.ntmps5
  go_wp2_with fail
  refine (strode_any 6 8 (by omega) (by omega) (by omega) (by omega) (some ⟨w.heap.size, 0, none⟩) 2 2 [8, 17] _ ?hb (by omega)).mono ?_
  case hb =>
    refine ⟨rfl, fun _ => ⟨_, rfl, ?_⟩⟩
    intro j hj
    match j, hj with
    | 0, _ => exact ⟨by simp [Addr.add, rd], by decide, by decide⟩
    | 1, _ => exact ⟨by simp [Addr.add, rd], by decide, by decide⟩
  rintro e w1 ⟨rfl, hb1⟩
  have HB1 := Lib.hid (((Below.refl w.heap.size w).alloc (Nat.le_refl _) (.cells #[.int .u8 8, .int .u8 17] 5)).trans (hb1.mono (by simp)))
  clear hb1
  go_wp2_with fail
  rw [show (1 + (m : Int)) = ((1 + m : Nat) : Int) from by omega]
  have hk : (min (len : Int) 20).toNat ≤ len := by omega
  refine (strode_any (1 + m) draw (by omega) (by omega) hd1 hd2 A (min (len : Int) 20).toNat cap (bs.take (min (len : Int) 20).toNat) _ ((HBS.out.below HB1.out).prefix_ hk) (by omega)).mono ?_
  rintro e w2 ⟨rfl, hb2⟩
  have HB2 := Lib.hid (below_then HB1.out HB1.out.size hb2)
  clear hb2
  go_wp2
  go_ret
  exact ⟨rfl, HB2.out⟩
end Go.Proofs.Ytciiihiklobkaaa.Strode
