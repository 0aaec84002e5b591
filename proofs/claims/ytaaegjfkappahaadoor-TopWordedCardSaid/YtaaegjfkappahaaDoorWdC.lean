/-
  strconv.FormatUint at base 10, walked over the shelf's contracts.
-/
import Derived.Test.YtaaegjfkappahaaDoorShelfW
import Derived.Test.YtaaegjfkappahaaDoorWdB
import Derived.Lib.ItoaMem
import Derived.Lib.AppendIntMem
import Derived.Lib.Walk
import Derived.BigCall
import Derived.BigGuard
namespace Go.Proofs.YtaaegjfkappahaaDoor
open Go.RowKit Go.Sort Go.Lib
set_option linter.unusedVariables false
set_option linter.unusedSimpArgs false

set_option maxHeartbeats 3200000 in
set_option maxRecDepth 100000 in
theorem iFormatUint_calls (u : Nat) (hu64 : u < 18446744073709551616) (w : World) (htab : Lib.TabBelow Tryd.prog w.heap.size w "internal/strconv.uint64pow10" .u64 Lib.pow10Tab) :
    Calls Tryd.prog 62 #[.int .u64 u, .int .i64 10] w fun e w' => e = .returned (.string ⟨(Lib.decDigits u).toArray⟩) ∧ Below w.heap.size w w' := by
  by_cases hs : u < 100
  · have hs' : (u : Int) < 100 := by omega
    go_enter Tryd.func62, Tryd.ntmps62
    go_wp2_with (go_at_call 87; refine (Tryd.internal_strconv_small u hs _).mono ?_; rintro e w' ⟨rfl, rfl⟩)
    go_ret
    exact ⟨rfl, Below.refl _ _⟩
  · have hs' : ¬ (u : Int) < 100 := by omega
    have hu1 : 1 ≤ u := by omega
    have hnd20 : Lib.nDigits u ≤ 20 := by have := Lib.numDigits_eq u hu1 hu64; split at this <;> omega
    have hb3 : Lib.nDigits u ≤ 24 := by omega
    have hal : Tryd.prog.arrayLen 115 = 24 := by simp [Program.arrayLen, Tryd.underlying115]
    have hH0 := Lib.holds_zero0 w 115 (Lib.nDigits u) (by omega)
    have hfmt := Tryd.internal_strconv_formatBase10 w.heap.size 0 24 u (Array.replicate (Lib.nDigits u) 0) (w.alloc (.cells Lib.zeros24 115)) hH0 (by rw [Array.size_replicate]; exact Lib.lt_pow_nDigits u) hu64 (by rw [Array.size_replicate]; omega)
    rw [Array.size_replicate] at hfmt
    have HH0 := Lib.hid hH0
    have HF := Lib.hid hfmt
    have HT := Lib.hid htab
    have hnd : (0 : Int) ≤ (Lib.nDigits u : Int) := by omega
    have hnd24 : (Lib.nDigits u : Int) ≤ 24 := by omega
    clear hH0 hfmt htab
    go_enter Tryd.func62, Tryd.ntmps62
    go_wp2_with (first
      | (go_at_call 88; refine (Tryd.internal_strconv_numDigits u hu1 hu64 _ (HT.out _ ((Below.refl _ _).alloc (Nat.le_refl _) _))).mono ?_; rintro e w' ⟨rfl, rfl⟩))
    refine HF.out.mono ?_
    rintro e w' ⟨rfl, k, v', dk, rfl, hF⟩
    have hcv : (convert 23 9 (.slice (some ⟨w.heap.size, 0, none⟩) (Lib.nDigits u) 24)).run Tryd.prog ((putRow (fun (b : UInt8) => Value.int .u8 (b.toNat : Int)) (w.alloc (.cells Lib.zeros24 115)) w.heap.size 0 dk).drewN k) = .ok (.string ⟨(Lib.decDigits u).toArray⟩) ((putRow (fun (b : UInt8) => Value.int .u8 (b.toNat : Int)) (w.alloc (.cells Lib.zeros24 115)) w.heap.size 0 dk).drewN k) := by
      have h := run_convert_bytes_back (P := Tryd.prog) ((putRow (fun (b : UInt8) => Value.int .u8 (b.toNat : Int)) (w.alloc (.cells Lib.zeros24 115)) w.heap.size 0 dk).drewN k) 23 9 5 ⟨w.heap.size, 0, none⟩ 24 (Lib.decDigits u) Tryd.underlying23 Tryd.underlying5 Tryd.underlying9 (fun j hj => by
        rw [Lib.row_is_numeral hF j hj, Lib.add_plain, World.cell?_drewN]
        exact cell?_putRow (fun (b : UInt8) => Value.int .u8 (b.toNat : Int)) _ w.heap.size 0 _ dk HH0.out (by rw [hF.size, Array.size_replicate]) j (by rw [hF.size]; rw [Lib.decDigits_length] at hj; exact hj))
      rw [Lib.decDigits_length] at h
      exact h
    go_wp2
    go_ret
    obtain ⟨os, eo⟩ := Lib.fin_at w (.cells Lib.zeros24 115) dk k 0
    refine ⟨rfl, ?_⟩
    have hb := Lib.below_grow w.heap.size w (Nat.le_refl _) k os
    rw [← eo] at hb
    exact hb
theorem FormatUint_calls (u : Nat) (hu64 : u < 18446744073709551616) (w : World) (htab : Lib.TabBelow Tryd.prog w.heap.size w "internal/strconv.uint64pow10" .u64 Lib.pow10Tab) :
    Calls Tryd.prog 33 #[.int .u64 u, .int .i64 10] w fun e w' => e = .returned (.string ⟨(Lib.decDigits u).toArray⟩) ∧ Below w.heap.size w w' := by
  have HT := Lib.hid htab
  clear htab
  go_enter Tryd.func33, Tryd.ntmps33
  go_wp2_with (go_at_call 62; refine (iFormatUint_calls u hu64 _ HT.out).mono ?_; rintro e w' ⟨rfl, hb⟩)
  go_ret
  exact ⟨rfl, hb⟩

theorem dec_len (u : Nat) (hu : u < 18446744073709551616) : (Lib.decDigits u).length ≤ 20 := by
  rw [Lib.decDigits_length]
  by_cases h : 1 ≤ u
  · have := Lib.numDigits_eq u h hu; split at this <;> omega
  · obtain rfl : u = 0 := by omega
    rw [Lib.nDigits_small (by omega)]; omega
/-- A table below a heap's size, in a later world. -/
theorem tab_later {w w1 : World} {name : String} {k : IntKind} {zs : List Int} (h : Lib.TabBelow Tryd.prog w.heap.size w name k zs) (hb : Below w.heap.size w w1) : Lib.TabBelow Tryd.prog w1.heap.size w1 name k zs :=
  fun w2 h2 => h w2 (hb.trans (h2.mono hb.size))
theorem digits_calls (u : Nat) (hu : u < 4294967296) (w : World) (htab : Lib.TabBelow Tryd.prog w.heap.size w "internal/strconv.uint64pow10" .u64 Lib.pow10Tab) :
    Calls Tryd.prog 61 #[.int .u32 u] w fun e w' => e = .returned (.string ⟨(Lib.decDigits u).toArray⟩) ∧ Below w.heap.size w w' := by
  have HT := Lib.hid htab
  clear htab
  go_enter Tryd.func61, Tryd.ntmps61
  go_wp2_with (go_at_call 33; refine (FormatUint_calls u (by omega) _ HT.out).mono ?_; rintro e w' ⟨rfl, hb⟩)
  go_ret
  exact ⟨rfl, hb⟩
theorem Text_calls (X : Int) (h t : Nat) (hh : h < 4294967296) (ht : t < 4294967296) (hX : X = (h : Int) * 4294967296 + t) (w : World) (htab : Lib.TabBelow Tryd.prog w.heap.size w "internal/strconv.uint64pow10" .u64 Lib.pow10Tab) :
    Calls Tryd.prog 32 #[.int .u64 X] w fun e w' => e = .returned (.string (⟨(Lib.decDigits h).toArray⟩ ++ ⟨#[46, 46]⟩ ++ ⟨(Lib.decDigits t).toArray⟩)) ∧ Below w.heap.size w w' := by
  have HT := Lib.hid htab
  have h0 : 0 ≤ X := by omega
  have h1 : X < 18446744073709551616 := by omega
  have hh2 : ∀ w1, Calls Tryd.prog 28 #[.int .u64 X] w1 fun e w' => e = .returned (.int .u32 h) ∧ w1 = w' := fun w1 => (Head_calls X w1 h0 h1).mono fun e w' q => ⟨q.1.trans (ret_int (by omega)), q.2⟩
  have ht2 : ∀ w1, Calls Tryd.prog 26 #[.int .u64 X] w1 fun e w' => e = .returned (.int .u32 t) ∧ w1 = w' := fun w1 => (Tail_calls X w1 h0 h1).mono fun e w' q => ⟨q.1.trans (ret_int (by omega)), q.2⟩
  have HH := Lib.hid hh2
  have HTL := Lib.hid ht2
  clear htab hX hh2 ht2
  have hl1 := dec_len h (by omega)
  have hl2 := dec_len t (by omega)
  go_enter Tryd.func32, Tryd.ntmps32
  go_wp2_with (first
    | (go_at_call 28; refine (HH.out _).mono ?_; rintro e w' ⟨rfl, rfl⟩)
    | (go_at_call 26; refine (HTL.out _).mono ?_; rintro e w' ⟨rfl, rfl⟩))
  refine (digits_calls h hh _ HT.out).mono ?_
  rintro e w1 ⟨rfl, hb1⟩
  have HB1 := Lib.hid hb1
  clear hb1
  go_wp2_with (first
    | (go_at_call 28; refine (HH.out _).mono ?_; rintro e w' ⟨rfl, rfl⟩)
    | (go_at_call 26; refine (HTL.out _).mono ?_; rintro e w' ⟨rfl, rfl⟩))
  refine (digits_calls t ht _ (tab_later HT.out HB1.out)).mono ?_
  rintro e w2 ⟨rfl, hb2⟩
  have HB2 := Lib.hid (HB1.out.trans (hb2.mono HB1.out.size))
  clear hb2
  go_wp2
  go_ret
  exact ⟨rfl, HB2.out⟩
end Go.Proofs.YtaaegjfkappahaaDoor
