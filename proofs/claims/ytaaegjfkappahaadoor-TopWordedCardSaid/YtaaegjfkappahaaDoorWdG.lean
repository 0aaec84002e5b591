/-
  TopWorded by a walk.
-/
import Derived.Test.YtaaegjfkappahaaDoorWdF
namespace Go.Proofs.YtaaegjfkappahaaDoor
open Go.RowKit
set_option linter.unusedVariables false
set_option linter.unusedSimpArgs false

def known (i : Nat) : Nat := [3, 3, 3, 3, 4, 2, 3, 1, 1, 1].getD i 0
theorem known_small (i : Nat) : known i < 256 := by
  unfold known
  rcases Nat.lt_or_ge i 10 with h | h
  · match i, h with
    | 0, _ | 1, _ | 2, _ | 3, _ | 4, _ | 5, _ | 6, _ | 7, _ | 8, _ | 9, _ => decide
  · rw [List.getD_eq_getElem?_getD, List.getElem?_eq_none (by simpa using h)]
    decide
theorem RB.below {w w1 : World} {A : Option Addr} {n : Nat} {x : Nat → Nat} (h : RB w A n x) (hb : Below w.heap.size w w1) : RB w1 A n x :=
  ⟨h.1, fun h0 => by
    obtain ⟨b, o, e, hc⟩ := h.2 h0
    exact ⟨b, o, e, fun j hj => cell_below hb (hc j hj)⟩⟩
theorem RB.less {w : World} {A : Option Addr} {n m : Nat} {x : Nat → Nat} (h : RB w A n x) (hm : m ≤ n) : RB w A m x :=
  ⟨h.1, fun h0 => by
    obtain ⟨b, o, e, hc⟩ := h.2 (by omega)
    exact ⟨b, o, e, fun j hj => hc j (by omega)⟩⟩

set_option maxHeartbeats 1600000 in
set_option maxRecDepth 100000 in
theorem TopWorded_calls (hd room : Nat) (h1 : hd < 4294967296) (h2 : room < 256) (A : Option Addr) (len cap : Nat) (x : Nat → Nat) (w : World) (hx : RB w A len x) (hlc : len ≤ cap) (hcm : cap ≤ maxLen)
    (htab : Lib.TabBelow Tryd.prog w.heap.size w "internal/strconv.uint64pow10" .u64 Lib.pow10Tab) :
    Calls Tryd.prog 3 #[.int .u32 hd, .int .u8 room, .slice A len cap] w fun e w' => e = .returned (.bool true) ∧ Below w.heap.size w w' := by
  have HX := Lib.hid hx
  have HT := Lib.hid htab
  clear hx htab
  unfold maxLen at hcm
  obtain ⟨m, hm⟩ : ∃ m, m = min len 300 := ⟨_, rfl⟩
  have hmi : min (len : Int) 300 = (m : Int) := by omega
  have hm300 : m ≤ 300 := by omega
  have hml : m ≤ len := by omega
  clear hm
  go_enter Tryd.func3, Tryd.ntmps3
  go_wp2_with fail
  have hb0 : Below w.heap.size w (w.alloc (.cells #[.int .u8 3, .int .u8 3, .int .u8 3, .int .u8 3, .int .u8 4, .int .u8 2, .int .u8 3, .int .u8 1, .int .u8 1, .int .u8 1] 5)) := (Below.refl _ _).alloc (Nat.le_refl _) _
  refine (worded_calls 4294967293 1 (by omega) (by omega) (some ⟨w.heap.size, 0, none⟩) 10 10 known _ ⟨known_small, fun _ => ⟨w.heap.size, 0, rfl, fun j hj => ?_⟩⟩ (by omega) (tab_later HT.out hb0)).mono ?_
  · match j, hj with
    | 0, _ | 1, _ | 2, _ | 3, _ | 4, _ | 5, _ | 6, _ | 7, _ | 8, _ | 9, _ => simp [known]
  rintro e w1 ⟨rfl, hb1⟩
  have HB1 := Lib.hid (below_then hb0 hb0.size hb1)
  clear hb0 hb1
  go_wp2_with fail
  refine (worded_calls hd room h1 h2 A m cap x _ ((HX.out.below HB1.out).less hml) hm300 (tab_later HT.out HB1.out)).mono ?_
  rintro e w2 ⟨rfl, hb2⟩
  have HB2 := Lib.hid (below_then HB1.out HB1.out.size hb2)
  clear hb2
  go_wp2
  go_ret
  exact ⟨rfl, HB2.out⟩
end Go.Proofs.YtaaegjfkappahaaDoor
