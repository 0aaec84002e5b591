/-
  word.Do walked.
-/
import Derived.Test.YtaaegjfkappahaaDoorWdA
import Derived.Laws.EntriesVeiled
import Derived.Deep.RegionWith
import Derived.Deep.LoopGhost
import Derived.Deep.CutBlock
import Derived.Deep.DeepCutAuto
namespace Go.Proofs.YtaaegjfkappahaaDoor
open Go.RowKit
set_option linter.unusedVariables false
set_option linter.unusedSimpArgs false

theorem below_drewN {B : Nat} {w W : World} (h : Below B w W) (n : Nat) : Below B w (W.drewN n) := ⟨h.os, h.tape, h.output, h.size, h.block⟩
theorem all_calls (w : World) : Calls Tryd.prog 60 #[] w fun e w' => e = .returned (.agg #[Value.nilFunc, Value.nilFunc, Value.func (Fn.func 77) #[] #[], Value.func (Fn.func 78) #[] #[], Value.func (Fn.func 77) #[] #[], Value.func (Fn.func 80) #[] #[], Value.func (Fn.func 81) #[] #[], Value.func (Fn.func 82) #[] #[], Value.func (Fn.func 84) #[] #[], Value.func (Fn.func 85) #[] #[]]) ∧ Below w.heap.size w w' := by
  go_enter Tryd.func60, Tryd.ntmps60
  go_wp2
  exact bodyPost_ret (v := .agg #[Value.nilFunc, Value.nilFunc, Value.func (Fn.func 77) #[] #[], Value.func (Fn.func 78) #[] #[], Value.func (Fn.func 77) #[] #[], Value.func (Fn.func 80) #[] #[], Value.func (Fn.func 81) #[] #[], Value.func (Fn.func 82) #[] #[], Value.func (Fn.func 84) #[] #[], Value.func (Fn.func 85) #[] #[]]) (by simp [results, Tryd.results60, go_sem]) rfl ⟨rfl, (Below.refl _ _).alloc (Nat.le_refl _) _⟩
theorem some_calls (n q : Int) (w : World) : Calls Tryd.prog 77 #[.int .u32 n, .int .u32 q] w fun e w' => e = .returned (.bool (decide (0 < n))) ∧ w = w' := by
  go_enter Tryd.func77, Tryd.ntmps77
  go_wp2
  go_ret
  exact ⟨rfl, rfl⟩
theorem may3_calls (n q : Int) (w : World) : Calls Tryd.prog 81 #[.int .u32 n, .int .u32 q] w fun e w' => e = .returned (.bool (decide (n < q))) ∧ w = w' := by
  go_enter Tryd.func81, Tryd.ntmps81
  go_wp2
  go_ret
  exact ⟨rfl, rfl⟩
theorem may4_calls (n q : Int) (w : World) : Calls Tryd.prog 84 #[.int .u32 n, .int .u32 q] w fun e w' => e = .returned (.bool (decide (q ≤ n))) ∧ w = w' := by
  go_enter Tryd.func84, Tryd.ntmps84
  go_wp2
  go_ret
  exact ⟨rfl, rfl⟩
theorem do1_calls (X n q : Int) (w : World) (h0 : 0 ≤ X) (h1 : X < 18446744073709551616) : Calls Tryd.prog 78 #[.int .u64 X, .int .u32 n, .int .u32 q] w fun e w' => e = .returned (.int .u64 ((X / 4294967296 + 1) % 4294967296 * 4294967296 + X % 4294967296)) ∧ w = w' := by
  go_enter Tryd.func78, Tryd.ntmps78
  go_wp2_with (go_at_call 79; refine (Gain_calls X 1 _ h0 h1 (by omega) (by omega)).mono ?_; rintro e w' ⟨rfl, rfl⟩)
  go_ret
  exact ⟨rfl, rfl⟩
theorem do2_calls (X n q : Int) (w : World) (h0 : 0 ≤ X) (h1 : X < 18446744073709551616) (hn : 0 ≤ n) (hn1 : n < 4294967296) : Calls Tryd.prog 80 #[.int .u64 X, .int .u32 n, .int .u32 q] w fun e w' => e = .returned (.int .u64 ((X / 4294967296 + (n - n / 2)) % 4294967296 * 4294967296 + X % 4294967296)) ∧ w = w' := by
  go_enter Tryd.func80, Tryd.ntmps80
  go_wp2_with (first
    | (go_at_call 31; refine (Older_calls n _ hn hn1).mono ?_; rintro e w' ⟨rfl, rfl⟩)
    | (go_at_call 79; refine (Gain_calls X (n - n / 2) _ h0 h1 (by omega) (by omega)).mono ?_; rintro e w' ⟨rfl, rfl⟩))
  go_ret
  exact ⟨rfl, rfl⟩
theorem do3_calls (X n q : Int) (w : World) (h0 : 0 ≤ X) (h1 : X < 18446744073709551616) : Calls Tryd.prog 82 #[.int .u64 X, .int .u32 n, .int .u32 q] w fun e w' => e = .returned (.int .u64 (X / 4294967296 * 4294967296 + (X + 1) % 4294967296)) ∧ w = w' := by
  go_enter Tryd.func82, Tryd.ntmps82
  go_wp2_with (go_at_call 83; refine (Grow_calls X 1 _ h0 h1 (by omega) (by omega)).mono ?_; rintro e w' ⟨rfl, rfl⟩)
  go_ret
  exact ⟨ret_int (by omega), rfl⟩
theorem do4_calls (X n q : Int) (w : World) (h0 : 0 ≤ X) (h1 : X < 18446744073709551616) (hq : 0 ≤ q) (hq1 : q < 4294967296) : Calls Tryd.prog 85 #[.int .u64 X, .int .u32 n, .int .u32 q] w fun e w' => e = .returned (.int .u64 (X / 4294967296 * 4294967296 + (X - q / 2) % 4294967296)) ∧ w = w' := by
  go_enter Tryd.func85, Tryd.ntmps85
  go_wp2_with (go_at_call 86; refine (Drop_calls X (q / 2) _ h0 h1 (by omega) (by omega)).mono ?_; rintro e w' ⟨rfl, rfl⟩)
  go_ret
  exact ⟨ret_int (by omega), rfl⟩
theorem Do0_calls (X q : Int) (w : World) (h : isRoom q) : Calls Tryd.prog 25 #[.int .u64 X, .int .i64 q, .slice none 0 0] w fun e w' => e = .returned (.int .u64 X) ∧ w = w' := by
  have H := Lib.hid h
  clear h
  go_enter Tryd.func25, Tryd.ntmps25
  go_wp2_with (go_at_call 59; refine (Room_calls q _ H.out).mono ?_; rintro e w' ⟨rfl, rfl⟩)
  go_loopw [0, 8, 9, 16] (fun v0 v8 v9 v16 wr => v0 = .int .u64 X ∧ v16 = .int .i64 0 ∧ wr = w) (fun _ _ _ _ _ => 0)
  case atStart => exact ⟨rfl, rfl, rfl⟩
  case round =>
    obtain ⟨rfl, rfl, rfl⟩ := hrel
    go_wp2
    go_ret
    exact ⟨rfl, rfl⟩

set_option maxHeartbeats 1600000 in
set_option maxRecDepth 100000 in
theorem Do1_calls (X n q R : Int) (w : World) (g c : Nat) (h0 : 0 ≤ X) (h1 : X < 18446744073709551616) (hn : n = (X % 4294967296 - X / 4294967296) % 4294967296) (h : isRoom q) (hc : w.cell? ⟨g, 0, none⟩ = some (.int .i64 1)) (hR : R = if 0 < n then (X / 4294967296 + 1) % 4294967296 * 4294967296 + X % 4294967296 else X) :
    Calls Tryd.prog 25 #[.int .u64 X, .int .i64 q, .slice (some ⟨g, 0, none⟩) 1 c] w fun e w' => e = .returned (.int .u64 R) ∧ Below w.heap.size w w' := by
  have hq0 : 2 ≤ q := by unfold isRoom at h; omega
  have hq1 : q ≤ 64 := by unfold isRoom at h; omega
  have hn0 : 0 ≤ n := by omega
  have hn1 : n < 4294967296 := by omega
  have H := Lib.hid h
  have HN := Lib.hid hn
  have hlen : ∀ w1, Calls Tryd.prog 27 #[.int .u64 X] w1 fun e w' => e = .returned (.int .u32 n) ∧ w1 = w' := fun w1 => (Len_calls X w1 h0 h1).mono fun e w' hh => ⟨hh.1.trans (ret_int HN.out.symm), hh.2⟩
  have HL := Lib.hid hlen
  have HC := Lib.hid hc
  have HR := Lib.hid hR
  clear h hn hlen hc hR
  have hidx : ∀ w, (Instr.index 99 (.agg #[Value.nilFunc, Value.nilFunc, Value.func (Fn.func 77) #[] #[], Value.func (Fn.func 78) #[] #[], Value.func (Fn.func 77) #[] #[], Value.func (Fn.func 80) #[] #[], Value.func (Fn.func 81) #[] #[], Value.func (Fn.func 82) #[] #[], Value.func (Fn.func 84) #[] #[], Value.func (Fn.func 85) #[] #[]]) (.int .i64 1)).run Tryd.prog w = .ok (.agg #[Value.func (Fn.func 77) #[] #[], Value.func (Fn.func 78) #[] #[]]) w := fun _ => by kernel_rfl
  go_enter Tryd.func25, Tryd.ntmps25
  go_wp2_with (go_at_call 59; refine (Room_calls q _ H.out).mono ?_; rintro e w' ⟨rfl, rfl⟩)
  go_loopg [0, 8, 9, 16] 1 (fun gh v0 v8 v9 v16 wr => (gh = 1 ∧ v0 = .int .u64 X ∧ v16 = .int .i64 0 ∧ wr = w) ∨ (gh = 0 ∧ v0 = .int .u64 R ∧ v16 = .int .i64 1 ∧ Below w.heap.size w wr))
  case atStart => exact .inl ⟨rfl, rfl, rfl, rfl⟩
  case round =>
    rcases hrel with ⟨rfl, rfl, rfl, rfl⟩ | ⟨rfl, rfl, rfl, hb⟩
    · have hc := HC.out
      go_wp2_with (go_at_call 60; refine (all_calls _).mono ?_; rintro e w' ⟨rfl, hb⟩)
      have hsz := hb.size
      have HB := Lib.hid (hb.alloc hsz (.cells #[Value.func (Fn.func 77) #[] #[], Value.func (Fn.func 78) #[] #[]] 98))
      clear hb hc
      by_cases hmay : 0 < n
      · have hm : decide (0 < n) = true := decide_eq_true hmay
        have HRE := Lib.hid (HR.out.trans (if_pos hmay))
        clear hmay HR
        go_quiet (first | (go_at_call 27; exact Calls.quiet_of_same ((HL.out _).mono fun e w' hh => ⟨hh.1, hh.2.symm⟩)) | (go_at_call 77; exact Calls.quiet_of_same ((some_calls _ _ _).mono fun e w' hh => ⟨hh.1, hh.2.symm⟩)))
        rw [hm]
        clear hm
        have d1 : ((w'.alloc (.cells #[Value.func (Fn.func 77) #[] #[], Value.func (Fn.func 78) #[] #[]] 98)).drewN nq).cell? ⟨w'.heap.size, 1, none⟩ = some (Value.func (Fn.func 78) #[] #[]) := by simp
        have HB2 := Lib.hid (below_drewN HB.out nq)
        clear HB
        generalize (w'.alloc (.cells #[Value.func (Fn.func 77) #[] #[], Value.func (Fn.func 78) #[] #[]] 98)).drewN nq = w2 at *
        go_wp2_with fail
        go_quiet (first | (go_at_call 27; exact Calls.quiet_of_same ((HL.out _).mono fun e w' hh => ⟨hh.1, hh.2.symm⟩)) | (go_at_call 78; exact Calls.quiet_of_same ((do1_calls X _ _ _ h0 h1).mono fun e w' hh => ⟨hh.1, hh.2.symm⟩)))
        go_wp2
        go_roundg 0
        case measure => omega
        case rel => exact .inr ⟨rfl, by rw [HRE.out], by go_num, below_drewN HB2.out _⟩
      · have hm : decide (0 < n) = false := decide_eq_false hmay
        have HRE := Lib.hid (HR.out.trans (if_neg hmay))
        clear hmay HR
        go_quiet (first | (go_at_call 27; exact Calls.quiet_of_same ((HL.out _).mono fun e w' hh => ⟨hh.1, hh.2.symm⟩)) | (go_at_call 77; exact Calls.quiet_of_same ((some_calls _ _ _).mono fun e w' hh => ⟨hh.1, hh.2.symm⟩)))
        rw [hm]
        clear hm
        go_wp2
        go_roundg 0
        case measure => omega
        case rel => exact .inr ⟨rfl, by rw [HRE.out], by go_num, below_drewN HB.out _⟩
    · have HB := Lib.hid hb
      clear hb
      go_wp2
      go_ret
      exact ⟨rfl, HB.out⟩

set_option maxHeartbeats 1600000 in
set_option maxRecDepth 100000 in
theorem Do2_calls (X n q R : Int) (w : World) (g c : Nat) (h0 : 0 ≤ X) (h1 : X < 18446744073709551616) (hn : n = (X % 4294967296 - X / 4294967296) % 4294967296) (h : isRoom q) (hc : w.cell? ⟨g, 0, none⟩ = some (.int .i64 2)) (hR : R = if 0 < n then (X / 4294967296 + (n - n / 2)) % 4294967296 * 4294967296 + X % 4294967296 else X) :
    Calls Tryd.prog 25 #[.int .u64 X, .int .i64 q, .slice (some ⟨g, 0, none⟩) 1 c] w fun e w' => e = .returned (.int .u64 R) ∧ Below w.heap.size w w' := by
  have hq0 : 2 ≤ q := by unfold isRoom at h; omega
  have hq1 : q ≤ 64 := by unfold isRoom at h; omega
  have hn0 : 0 ≤ n := by omega
  have hn1 : n < 4294967296 := by omega
  have H := Lib.hid h
  have HN := Lib.hid hn
  have hlen : ∀ w1, Calls Tryd.prog 27 #[.int .u64 X] w1 fun e w' => e = .returned (.int .u32 n) ∧ w1 = w' := fun w1 => (Len_calls X w1 h0 h1).mono fun e w' hh => ⟨hh.1.trans (ret_int HN.out.symm), hh.2⟩
  have HL := Lib.hid hlen
  have HC := Lib.hid hc
  have HR := Lib.hid hR
  clear h hn hlen hc hR
  have hidx : ∀ w, (Instr.index 99 (.agg #[Value.nilFunc, Value.nilFunc, Value.func (Fn.func 77) #[] #[], Value.func (Fn.func 78) #[] #[], Value.func (Fn.func 77) #[] #[], Value.func (Fn.func 80) #[] #[], Value.func (Fn.func 81) #[] #[], Value.func (Fn.func 82) #[] #[], Value.func (Fn.func 84) #[] #[], Value.func (Fn.func 85) #[] #[]]) (.int .i64 2)).run Tryd.prog w = .ok (.agg #[Value.func (Fn.func 77) #[] #[], Value.func (Fn.func 80) #[] #[]]) w := fun _ => by kernel_rfl
  go_enter Tryd.func25, Tryd.ntmps25
  go_wp2_with (go_at_call 59; refine (Room_calls q _ H.out).mono ?_; rintro e w' ⟨rfl, rfl⟩)
  go_loopg [0, 8, 9, 16] 1 (fun gh v0 v8 v9 v16 wr => (gh = 1 ∧ v0 = .int .u64 X ∧ v16 = .int .i64 0 ∧ wr = w) ∨ (gh = 0 ∧ v0 = .int .u64 R ∧ v16 = .int .i64 1 ∧ Below w.heap.size w wr))
  case atStart => exact .inl ⟨rfl, rfl, rfl, rfl⟩
  case round =>
    rcases hrel with ⟨rfl, rfl, rfl, rfl⟩ | ⟨rfl, rfl, rfl, hb⟩
    · have hc := HC.out
      go_wp2_with (go_at_call 60; refine (all_calls _).mono ?_; rintro e w' ⟨rfl, hb⟩)
      have hsz := hb.size
      have HB := Lib.hid (hb.alloc hsz (.cells #[Value.func (Fn.func 77) #[] #[], Value.func (Fn.func 80) #[] #[]] 98))
      clear hb hc
      by_cases hmay : 0 < n
      · have hm : decide (0 < n) = true := decide_eq_true hmay
        have HRE := Lib.hid (HR.out.trans (if_pos hmay))
        clear hmay HR
        go_quiet (first | (go_at_call 27; exact Calls.quiet_of_same ((HL.out _).mono fun e w' hh => ⟨hh.1, hh.2.symm⟩)) | (go_at_call 77; exact Calls.quiet_of_same ((some_calls _ _ _).mono fun e w' hh => ⟨hh.1, hh.2.symm⟩)))
        rw [hm]
        clear hm
        have d1 : ((w'.alloc (.cells #[Value.func (Fn.func 77) #[] #[], Value.func (Fn.func 80) #[] #[]] 98)).drewN nq).cell? ⟨w'.heap.size, 1, none⟩ = some (Value.func (Fn.func 80) #[] #[]) := by simp
        have HB2 := Lib.hid (below_drewN HB.out nq)
        clear HB
        generalize (w'.alloc (.cells #[Value.func (Fn.func 77) #[] #[], Value.func (Fn.func 80) #[] #[]] 98)).drewN nq = w2 at *
        go_wp2_with fail
        go_quiet (first | (go_at_call 27; exact Calls.quiet_of_same ((HL.out _).mono fun e w' hh => ⟨hh.1, hh.2.symm⟩)) | (go_at_call 80; exact Calls.quiet_of_same ((do2_calls X _ _ _ h0 h1 hn0 hn1).mono fun e w' hh => ⟨hh.1, hh.2.symm⟩)))
        go_wp2
        go_roundg 0
        case measure => omega
        case rel => exact .inr ⟨rfl, by rw [HRE.out], by go_num, below_drewN HB2.out _⟩
      · have hm : decide (0 < n) = false := decide_eq_false hmay
        have HRE := Lib.hid (HR.out.trans (if_neg hmay))
        clear hmay HR
        go_quiet (first | (go_at_call 27; exact Calls.quiet_of_same ((HL.out _).mono fun e w' hh => ⟨hh.1, hh.2.symm⟩)) | (go_at_call 77; exact Calls.quiet_of_same ((some_calls _ _ _).mono fun e w' hh => ⟨hh.1, hh.2.symm⟩)))
        rw [hm]
        clear hm
        go_wp2
        go_roundg 0
        case measure => omega
        case rel => exact .inr ⟨rfl, by rw [HRE.out], by go_num, below_drewN HB.out _⟩
    · have HB := Lib.hid hb
      clear hb
      go_wp2
      go_ret
      exact ⟨rfl, HB.out⟩

set_option maxHeartbeats 1600000 in
set_option maxRecDepth 100000 in
theorem Do3_calls (X n q R : Int) (w : World) (g c : Nat) (h0 : 0 ≤ X) (h1 : X < 18446744073709551616) (hn : n = (X % 4294967296 - X / 4294967296) % 4294967296) (h : isRoom q) (hc : w.cell? ⟨g, 0, none⟩ = some (.int .i64 3)) (hR : R = if n < q then X / 4294967296 * 4294967296 + (X + 1) % 4294967296 else X) :
    Calls Tryd.prog 25 #[.int .u64 X, .int .i64 q, .slice (some ⟨g, 0, none⟩) 1 c] w fun e w' => e = .returned (.int .u64 R) ∧ Below w.heap.size w w' := by
  have hq0 : 2 ≤ q := by unfold isRoom at h; omega
  have hq1 : q ≤ 64 := by unfold isRoom at h; omega
  have hn0 : 0 ≤ n := by omega
  have hn1 : n < 4294967296 := by omega
  have H := Lib.hid h
  have HN := Lib.hid hn
  have hlen : ∀ w1, Calls Tryd.prog 27 #[.int .u64 X] w1 fun e w' => e = .returned (.int .u32 n) ∧ w1 = w' := fun w1 => (Len_calls X w1 h0 h1).mono fun e w' hh => ⟨hh.1.trans (ret_int HN.out.symm), hh.2⟩
  have HL := Lib.hid hlen
  have HC := Lib.hid hc
  have HR := Lib.hid hR
  clear h hn hlen hc hR
  have hidx : ∀ w, (Instr.index 99 (.agg #[Value.nilFunc, Value.nilFunc, Value.func (Fn.func 77) #[] #[], Value.func (Fn.func 78) #[] #[], Value.func (Fn.func 77) #[] #[], Value.func (Fn.func 80) #[] #[], Value.func (Fn.func 81) #[] #[], Value.func (Fn.func 82) #[] #[], Value.func (Fn.func 84) #[] #[], Value.func (Fn.func 85) #[] #[]]) (.int .i64 3)).run Tryd.prog w = .ok (.agg #[Value.func (Fn.func 81) #[] #[], Value.func (Fn.func 82) #[] #[]]) w := fun _ => by kernel_rfl
  go_enter Tryd.func25, Tryd.ntmps25
  go_wp2_with (go_at_call 59; refine (Room_calls q _ H.out).mono ?_; rintro e w' ⟨rfl, rfl⟩)
  go_loopg [0, 8, 9, 16] 1 (fun gh v0 v8 v9 v16 wr => (gh = 1 ∧ v0 = .int .u64 X ∧ v16 = .int .i64 0 ∧ wr = w) ∨ (gh = 0 ∧ v0 = .int .u64 R ∧ v16 = .int .i64 1 ∧ Below w.heap.size w wr))
  case atStart => exact .inl ⟨rfl, rfl, rfl, rfl⟩
  case round =>
    rcases hrel with ⟨rfl, rfl, rfl, rfl⟩ | ⟨rfl, rfl, rfl, hb⟩
    · have hc := HC.out
      go_wp2_with (go_at_call 60; refine (all_calls _).mono ?_; rintro e w' ⟨rfl, hb⟩)
      have hsz := hb.size
      have HB := Lib.hid (hb.alloc hsz (.cells #[Value.func (Fn.func 81) #[] #[], Value.func (Fn.func 82) #[] #[]] 98))
      clear hb hc
      by_cases hmay : n < q
      · have hm : decide (n < q) = true := decide_eq_true hmay
        have HRE := Lib.hid (HR.out.trans (if_pos hmay))
        clear hmay HR
        go_quiet (first | (go_at_call 27; exact Calls.quiet_of_same ((HL.out _).mono fun e w' hh => ⟨hh.1, hh.2.symm⟩)) | (go_at_call 81; exact Calls.quiet_of_same ((may3_calls _ _ _).mono fun e w' hh => ⟨hh.1, hh.2.symm⟩)))
        rw [hm]
        clear hm
        have d1 : ((w'.alloc (.cells #[Value.func (Fn.func 81) #[] #[], Value.func (Fn.func 82) #[] #[]] 98)).drewN nq).cell? ⟨w'.heap.size, 1, none⟩ = some (Value.func (Fn.func 82) #[] #[]) := by simp
        have HB2 := Lib.hid (below_drewN HB.out nq)
        clear HB
        generalize (w'.alloc (.cells #[Value.func (Fn.func 81) #[] #[], Value.func (Fn.func 82) #[] #[]] 98)).drewN nq = w2 at *
        go_wp2_with fail
        go_quiet (first | (go_at_call 27; exact Calls.quiet_of_same ((HL.out _).mono fun e w' hh => ⟨hh.1, hh.2.symm⟩)) | (go_at_call 82; exact Calls.quiet_of_same ((do3_calls X _ _ _ h0 h1).mono fun e w' hh => ⟨hh.1, hh.2.symm⟩)))
        go_wp2
        go_roundg 0
        case measure => omega
        case rel => exact .inr ⟨rfl, by rw [HRE.out], by go_num, below_drewN HB2.out _⟩
      · have hm : decide (n < q) = false := decide_eq_false hmay
        have HRE := Lib.hid (HR.out.trans (if_neg hmay))
        clear hmay HR
        go_quiet (first | (go_at_call 27; exact Calls.quiet_of_same ((HL.out _).mono fun e w' hh => ⟨hh.1, hh.2.symm⟩)) | (go_at_call 81; exact Calls.quiet_of_same ((may3_calls _ _ _).mono fun e w' hh => ⟨hh.1, hh.2.symm⟩)))
        rw [hm]
        clear hm
        go_wp2
        go_roundg 0
        case measure => omega
        case rel => exact .inr ⟨rfl, by rw [HRE.out], by go_num, below_drewN HB.out _⟩
    · have HB := Lib.hid hb
      clear hb
      go_wp2
      go_ret
      exact ⟨rfl, HB.out⟩

set_option maxHeartbeats 1600000 in
set_option maxRecDepth 100000 in
theorem Do4_calls (X n q R : Int) (w : World) (g c : Nat) (h0 : 0 ≤ X) (h1 : X < 18446744073709551616) (hn : n = (X % 4294967296 - X / 4294967296) % 4294967296) (h : isRoom q) (hc : w.cell? ⟨g, 0, none⟩ = some (.int .i64 4)) (hR : R = if q ≤ n then X / 4294967296 * 4294967296 + (X - q / 2) % 4294967296 else X) :
    Calls Tryd.prog 25 #[.int .u64 X, .int .i64 q, .slice (some ⟨g, 0, none⟩) 1 c] w fun e w' => e = .returned (.int .u64 R) ∧ Below w.heap.size w w' := by
  have hq0 : 2 ≤ q := by unfold isRoom at h; omega
  have hq1 : q ≤ 64 := by unfold isRoom at h; omega
  have hn0 : 0 ≤ n := by omega
  have hn1 : n < 4294967296 := by omega
  have H := Lib.hid h
  have HN := Lib.hid hn
  have hlen : ∀ w1, Calls Tryd.prog 27 #[.int .u64 X] w1 fun e w' => e = .returned (.int .u32 n) ∧ w1 = w' := fun w1 => (Len_calls X w1 h0 h1).mono fun e w' hh => ⟨hh.1.trans (ret_int HN.out.symm), hh.2⟩
  have HL := Lib.hid hlen
  have HC := Lib.hid hc
  have HR := Lib.hid hR
  clear h hn hlen hc hR
  have hidx : ∀ w, (Instr.index 99 (.agg #[Value.nilFunc, Value.nilFunc, Value.func (Fn.func 77) #[] #[], Value.func (Fn.func 78) #[] #[], Value.func (Fn.func 77) #[] #[], Value.func (Fn.func 80) #[] #[], Value.func (Fn.func 81) #[] #[], Value.func (Fn.func 82) #[] #[], Value.func (Fn.func 84) #[] #[], Value.func (Fn.func 85) #[] #[]]) (.int .i64 4)).run Tryd.prog w = .ok (.agg #[Value.func (Fn.func 84) #[] #[], Value.func (Fn.func 85) #[] #[]]) w := fun _ => by kernel_rfl
  go_enter Tryd.func25, Tryd.ntmps25
  go_wp2_with (go_at_call 59; refine (Room_calls q _ H.out).mono ?_; rintro e w' ⟨rfl, rfl⟩)
  go_loopg [0, 8, 9, 16] 1 (fun gh v0 v8 v9 v16 wr => (gh = 1 ∧ v0 = .int .u64 X ∧ v16 = .int .i64 0 ∧ wr = w) ∨ (gh = 0 ∧ v0 = .int .u64 R ∧ v16 = .int .i64 1 ∧ Below w.heap.size w wr))
  case atStart => exact .inl ⟨rfl, rfl, rfl, rfl⟩
  case round =>
    rcases hrel with ⟨rfl, rfl, rfl, rfl⟩ | ⟨rfl, rfl, rfl, hb⟩
    · have hc := HC.out
      go_wp2_with (go_at_call 60; refine (all_calls _).mono ?_; rintro e w' ⟨rfl, hb⟩)
      have hsz := hb.size
      have HB := Lib.hid (hb.alloc hsz (.cells #[Value.func (Fn.func 84) #[] #[], Value.func (Fn.func 85) #[] #[]] 98))
      clear hb hc
      by_cases hmay : q ≤ n
      · have hm : decide (q ≤ n) = true := decide_eq_true hmay
        have HRE := Lib.hid (HR.out.trans (if_pos hmay))
        clear hmay HR
        go_quiet (first | (go_at_call 27; exact Calls.quiet_of_same ((HL.out _).mono fun e w' hh => ⟨hh.1, hh.2.symm⟩)) | (go_at_call 84; exact Calls.quiet_of_same ((may4_calls _ _ _).mono fun e w' hh => ⟨hh.1, hh.2.symm⟩)))
        rw [hm]
        clear hm
        have d1 : ((w'.alloc (.cells #[Value.func (Fn.func 84) #[] #[], Value.func (Fn.func 85) #[] #[]] 98)).drewN nq).cell? ⟨w'.heap.size, 1, none⟩ = some (Value.func (Fn.func 85) #[] #[]) := by simp
        have HB2 := Lib.hid (below_drewN HB.out nq)
        clear HB
        generalize (w'.alloc (.cells #[Value.func (Fn.func 84) #[] #[], Value.func (Fn.func 85) #[] #[]] 98)).drewN nq = w2 at *
        go_wp2_with fail
        go_quiet (first | (go_at_call 27; exact Calls.quiet_of_same ((HL.out _).mono fun e w' hh => ⟨hh.1, hh.2.symm⟩)) | (go_at_call 85; exact Calls.quiet_of_same ((do4_calls X _ _ _ h0 h1 (by omega) (by omega)).mono fun e w' hh => ⟨hh.1, hh.2.symm⟩)))
        go_wp2
        go_roundg 0
        case measure => omega
        case rel => exact .inr ⟨rfl, by rw [HRE.out], by go_num, below_drewN HB2.out _⟩
      · have hm : decide (q ≤ n) = false := decide_eq_false hmay
        have HRE := Lib.hid (HR.out.trans (if_neg hmay))
        clear hmay HR
        go_quiet (first | (go_at_call 27; exact Calls.quiet_of_same ((HL.out _).mono fun e w' hh => ⟨hh.1, hh.2.symm⟩)) | (go_at_call 84; exact Calls.quiet_of_same ((may4_calls _ _ _).mono fun e w' hh => ⟨hh.1, hh.2.symm⟩)))
        rw [hm]
        clear hm
        go_wp2
        go_roundg 0
        case measure => omega
        case rel => exact .inr ⟨rfl, by rw [HRE.out], by go_num, below_drewN HB.out _⟩
    · have HB := Lib.hid hb
      clear hb
      go_wp2
      go_ret
      exact ⟨rfl, HB.out⟩
end Go.Proofs.YtaaegjfkappahaaDoor
