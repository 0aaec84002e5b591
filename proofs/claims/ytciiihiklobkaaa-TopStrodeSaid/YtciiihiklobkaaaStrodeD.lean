/-
  stride.Others by a walk: the order without some places.
-/
import Derived.Test.YtciiihiklobkaaaStrodeB
import Derived.Test.YtciiihiklobkaaaSl2
namespace Go.Proofs.Ytciiihiklobkaaa.Strode
open Go.RowKit Go.Sort
set_option linter.unusedVariables false
set_option linter.unusedSimpArgs false

/-- Is a number among some? -/
def isIn (less : List Int) (x : Int) : Bool := decide (0 ≤ idxFrom less x less.length 0)

set_option maxHeartbeats 400000 in
theorem pred_calls (B : Nat) (A : Option Addr) (m c : Nat) (less : List Int) (W : World) (hc : W.cell? ⟨B, 0, none⟩ = some (.slice A m c)) (hr : RI W A m less) (x : Int) :
    FnGives Try.prog 65 #[.pointer (some ⟨B, 0, none⟩)] #[.int .i64 x] (.bool (isIn less x)) W := by
  show Calls Try.prog 65 #[.int .i64 x, .pointer (some ⟨B, 0, none⟩)] W _
  have HR := Lib.hid hr
  have hm : isIn less x = decide (0 ≤ idxFrom less x m 0) := by unfold isIn; rw [hr.1]
  have HM := Lib.hid hm
  clear hr hm
  go_enter Try.func65, Try.ntmps65
  go_wp2_with fail
  refine (Contains_calls _ _ _ _ _ _ HR.out).mono ?_
  rintro e w' ⟨rfl, q, rfl⟩
  rw [← HM.out]
  go_wp2
  go_ret
  exact ⟨rfl, q, rfl⟩

set_option maxHeartbeats 800000 in
set_option maxRecDepth 100000 in
theorem Others_calls (n : Nat) (draw r : Int) (at' start q : Nat) (h1 : 1 ≤ n) (h64 : n ≤ 64) (hd1 : -32768 ≤ draw) (hd2 : draw ≤ 32767)
    (hr : draw.tmod (ordersN n) = r) (hr1 : -4096 ≤ r) (hr2 : r ≤ 4096) (hr3 : 0 ≤ r + (ordersN n : Int)) (hs : (r + (ordersN n : Int)) % (ordersN n : Int) = at') (h0 : 0 < ordersN n)
    (hst : (at' : Int) % (n : Int) = start) (hq : (at' : Int) / (n : Int) = q) (hqs : q < (strides n).length) (step : Nat) (hstep : rd (strides n) q = step) (hstepl : (step : Int) ≤ 64)
    (A : Option Addr) (m c : Nat) (less : List Int) (w : World) (hl : RI w A m less) :
    Calls Try.prog 46 #[.int .i64 n, .int .i64 draw, .slice A m c] w fun e w' => ∃ v, e = .returned v ∧
      w'.ownsRow w.heap.size 3 1 v ((due n start step).filter fun x => !isIn less x).length (ints ((due n start step).filter fun x => !isIn less x)) ∧ Below w.heap.size w w' := by
  have hO := Order_calls n draw r at' start q h1 h64 hd1 hd2 hr hr1 hr2 hr3 hs h0 hst hq hqs step hstep hstepl (w.alloc (.cells #[.slice A m c] 26))
  have hmf : ∀ (fn : Fn) (first cap : Array Value) (w : World), (Instr.makeFunc fn first cap).run Try.prog w = .ok (.func fn first cap) w := fun _ _ _ _ => rfl
  have HO := Lib.hid hO
  have HL := Lib.hid hl
  clear hO hl hr hr3 hs hst hq hstep
  go_enter Try.func46, Try.ntmps46
  go_wp2_with fail
  refine HO.out.mono ?_
  rintro e w1 ⟨v, rfl, hown, hb⟩
  have HW := Lib.hid hown
  have HB := Lib.hid hb
  clear hown hb HO
  have hdel := DeleteFunc_calls (p := isIn less) (f := 65) (lb := #[.pointer (some ⟨w.heap.size, 0, none⟩)]) HW.out HB.out.size h1 (enters_of Try.func65 (by kernel_rfl) rfl) (by
    intro W x hW
    have hb2 : Below (w.alloc (.cells #[.slice A m c] 26)).heap.size (w.alloc (.cells #[.slice A m c] 26)) W := HB.out.trans hW
    exact pred_calls _ _ _ _ _ _ ((hb2.cell (p := ⟨w.heap.size, 0, none⟩) (by simp)).trans (World.cell?_alloc_at _ _ _ _ rfl)) ((HL.out.below ((Below.refl _ _).alloc (Nat.le_refl _) _)).below hb2) x)
  have HD := Lib.hid hdel
  clear hdel
  go_wp2_with fail
  refine HD.out.mono ?_
  rintro e w2 ⟨v', rfl, hown2, hb2⟩
  have HW2 := Lib.hid hown2
  have HB2 := Lib.hid hb2
  clear hown2 hb2 HD
  go_wp2
  go_ret
  refine ⟨_, rfl, own_mono HW2.out (by simp), ?_⟩
  exact ((Below.refl _ _).alloc (Nat.le_refl _) _).trans ((HB.out.trans HB2.out).mono (by simp))
end Go.Proofs.Ytciiihiklobkaaa.Strode
