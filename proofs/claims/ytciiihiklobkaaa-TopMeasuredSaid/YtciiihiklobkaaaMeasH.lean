/-
  fair.First by a walk.
-/
import Derived.Test.YtciiihiklobkaaaMeasG
namespace Go.Proofs.Ytciiihiklobkaaa.Meas
open Go.RowKit
set_option linter.unusedVariables false
set_option linter.unusedSimpArgs false

theorem RS.choose {w : World} {g n : Nat} {ss : List Smp} (h : RS w g 0 n ss) : ∃ (As : Nat → Option Addr) (Cs : Nat → Nat), ∀ j, j < n →
    w.cell? ⟨g, j * 6, none⟩ = some (.int .i64 (sm ss j).kind) ∧ w.cell? ⟨g, j * 6 + 1, none⟩ = some (.int .i64 (sm ss j).a) ∧ w.cell? ⟨g, j * 6 + 2, none⟩ = some (.int .i64 (sm ss j).ns) ∧ w.cell? ⟨g, j * 6 + 3, none⟩ = some (.slice (As j) (sm ss j).act.length (Cs j)) ∧
    w.cell? ⟨g, j * 6 + 4, none⟩ = some (.int .i64 (sm ss j).g) ∧ w.cell? ⟨g, j * 6 + 5, none⟩ = some (.bool (sm ss j).safe) ∧ RI w (As j) (sm ss j).act.length (sm ss j).act := by
  have h' := h.2
  simp only [Nat.zero_add] at h'
  refine ⟨fun j => if h0 : j < n then (h' j h0).choose else none, fun j => if h0 : j < n then (h' j h0).choose_spec.choose else 0, fun j hj => ?_⟩
  simp only [dif_pos hj]
  exact (h' j hj).choose_spec.choose_spec
theorem mk47 (w : World) : (Instr.makeMap 47 none).run Try.prog w = .ok (.map (some w.heap.size)) (w.alloc (.map #[] 0)) := rfl

theorem new_at {W : World} {c : Array Value} {t : TypeId} {b i : Nat} (hn : b = W.heap.size) : (W.alloc (.cells c t)).cell? ⟨b, i, none⟩ = c[i]? := by subst hn; simp
theorem Row.start (w : World) (l wd : Nat) (ss : List Smp) (As : Nat → Option Addr) (Cs : Nat → Nat) :
    Row w ((((w.alloc (.map #[] 0)).alloc (.map #[] 0)).alloc (.map #[] 0)).alloc (.cells #[.int .i64 wd, .int .i64 l, .slice none 0 0, .map (some w.heap.size), .map (some (w.heap.size + 1)), .map (some (w.heap.size + 1 + 1)), .int .i64 (-1)] 49))
      (w.heap.size + 1 + 1 + 1) w.heap.size (w.heap.size + 1) (w.heap.size + 1 + 1) l wd 0 (.slice none 0 0) ss As Cs := by
  have h1 : MapI (w.alloc (.map #[] 0)) w.heap.size 0 (fun _ => none) := MapI.made w
  have h2 : MapI ((w.alloc (.map #[] 0)).alloc (.map #[] 0)) (w.heap.size + 1) 0 (fun _ => none) := by have := MapI.made (w.alloc (.map #[] 0)); simpa using this
  have h3 : MapI (((w.alloc (.map #[] 0)).alloc (.map #[] 0)).alloc (.map #[] 0)) (w.heap.size + 1 + 1) 0 (fun _ => none) := by have := MapI.made ((w.alloc (.map #[] 0)).alloc (.map #[] 0)); simpa using this
  refine ⟨((((Below.refl _ _).alloc (Nat.le_refl _) _).alloc (by simp) _).alloc (by simp; omega) _).alloc (by simp; omega) _, (new_at (by simp)).trans rfl, (new_at (by simp)).trans rfl, (new_at (by simp)).trans rfl, (new_at (by simp)).trans rfl, (new_at (by simp)).trans rfl, (new_at (by simp)).trans rfl, (new_at (by simp)).trans rfl, World.ownsRow_nil _ _ _ _, by simp [Value.ownBlock], ((h1.alloc _).alloc _).alloc _, (h2.alloc _).alloc _, h3.alloc _, by omega, by omega, by omega, by omega, by omega, by omega, by omega, fun f => World.frozen?_alloc_at _ _ _ _ (by simp)⟩

theorem ret_two {a b : Int} {c d : Bool} (h : a = b) (h2 : c = d) : Ending.returned (.tuple #[.int .i64 a, .bool c]) = .returned (.tuple #[.int .i64 b, .bool d]) := by rw [h, h2]
theorem Row.alloc {w00 w : World} {rb b1 b2 b3 l wd k : Nat} {v : Value} {ss : List Smp} {As : Nat → Option Addr} {Cs : Nat → Nat} (h : Row w00 w rb b1 b2 b3 l wd k v ss As Cs) (o : Obj) : Row w00 (w.alloc o) rb b1 b2 b3 l wd k v ss As Cs := by
  have hg := World.grownBy_alloc w o none
  exact ⟨h.below.alloc h.below.size _, cell_same hg h.e0, cell_same hg h.e1, cell_same hg h.e2, cell_same hg h.e3, cell_same hg h.e4, cell_same hg h.e5, cell_same hg h.e6, h.own.alloc _, h.vr, h.m1.alloc _, h.m2.alloc _, h.m3.alloc _, h.r0, h.r1, h.r2, h.r3, h.n12, h.n13, h.n23, fun f => same_frozen hg h.e2 (h.zf f)⟩

set_option maxHeartbeats 4000000 in
set_option maxRecDepth 1000000 in
theorem First_calls (g n cap l wd : Nat) (ss : List Smp) (w : World) (hr : RS w g 0 n ss) (hok : ∀ j, j < n → (sm ss j).ok) (hn : n ≤ 40) (hc : n ≤ cap) (hcm : cap ≤ maxLen) (hl0 : 1 ≤ l) (hl : l ≤ 4) (hw1 : 1 ≤ wd) (hw8 : wd ≤ 8) :
    Calls Try.prog 7 #[.int .i64 l, .int .i64 wd, .slice (some ⟨g, 0, none⟩) n cap] w fun e w' => e = .returned (.tuple #[.int .i64 ((firstBad (bad ss l wd) n 0 : Nat) : Int), .bool (decide (firstBad (bad ss l wd) n 0 < n))]) ∧ Below w.heap.size w w' := by
  obtain ⟨As, Cs, hall⟩ := hr.choose
  have HALL := Lib.hid hall
  have HOK := Lib.hid hok
  have HLEN := Lib.hid hr.1
  clear hr hok hall
  unfold maxLen at hcm
  have hl1 : ¬ (l : Int) < 1 := by omega
  have hwd1 : ¬ (wd : Int) < 1 := by omega
  have hmk := mk47
  go_enter Try.func7, Try.ntmps7
  go_upto_region 4 with fail
  have HROW := Lib.hid (Row.start w l wd ss As Cs)
  have hnn : (0 : Int) ≤ n := by omega
  generalize (((w.alloc (.map #[] 0)).alloc (.map #[] 0)).alloc (.map #[] 0)).alloc (.cells #[.int .i64 wd, .int .i64 l, .slice none 0 0, .map (some w.heap.size), .map (some (w.heap.size + 1)), .map (some (w.heap.size + 1 + 1)), .int .i64 (-1)] 49) = w1 at *
  go_wp2
  go_loopg [9, 26] n (fun gh v9 v26 wr => ∃ (k : Nat) (v : Value), k + gh = n ∧ v26 = .int .i64 k ∧ Row w wr (w.heap.size + 1 + 1 + 1) w.heap.size (w.heap.size + 1) (w.heap.size + 1 + 1) l wd k v ss As Cs ∧ Aside (firstBad (bad ss l wd) gh k = firstBad (bad ss l wd) n 0))
  case atStart => exact ⟨0, _, by omega, rfl, HROW.out, rfl⟩
  case round =>
    obtain ⟨k, v, hk, rfl, hR, HFB⟩ := hrel
    have HR := Lib.hid hR
    clear hR
    cases gk with
    | zero =>
      have hge : ¬ ((k : Int) < (n : Int)) := by omega
      have hkn : k = n := by omega
      have HKN := Lib.hid hkn
      clear hkn
      go_wp2
      go_ret2
      have e : firstBad (bad ss l wd) n 0 = n := by rw [← HFB.out]; exact HKN.out
      exact ⟨ret_two (congrArg Int.ofNat e.symm) (decide_eq_false (by rw [e]; exact Nat.lt_irrefl n)).symm, HR.out.below⟩
    | succ gh =>
      have hlt : (k : Int) < (n : Int) := by omega
      have hltn : k < n := by omega
      obtain ⟨c0, c1, c2, c3, c4, c5, hri⟩ := HALL.out k hltn
      have d0 := cell_below HR.out.below c0
      have d1 := cell_below HR.out.below c1
      have d2 := cell_below HR.out.below c2
      have d3 := cell_below HR.out.below c3
      have d4 := cell_below HR.out.below c4
      have d5 := cell_below HR.out.below c5
      clear hri c0 c1 c2 c3 c4 c5
      have HROW2 := Lib.hid (HR.out.alloc (.cells #[.int .i64 (sm ss k).kind, .int .i64 (sm ss k).a, .int .i64 (sm ss k).ns, .slice (As k) (sm ss k).act.length (Cs k), .int .i64 (sm ss k).g, .bool (sm ss k).safe] 28))
      have hadd := add_calls w _ _ _ _ _ l wd k v ss As Cs HROW2.out (by rw [HLEN.out]; exact hltn) (by rw [HLEN.out]; exact hn) (fun j hj => HOK.out j (by rw [HLEN.out] at hj; exact hj)) (fun j hj => (HALL.out j (by rw [HLEN.out] at hj; exact hj)).2.2.2.2.2.2) hl hw1 hw8
      have HADD := Lib.hid hadd
      clear hadd
      cases hb : bad ss l wd k with
      | true =>
        have HF := Lib.hid (show k = firstBad (bad ss l wd) n 0 by rw [← HFB.out, firstBad_yes hb])
        rw [hb] at HADD
        clear hb
        go_wp2_with (first
          | (go_at_call 13; refine HADD.out.mono ?_; rintro e w' ⟨rfl, v', hR'⟩)
          | go_in)
        go_ret2
        exact ⟨ret_two (congrArg Int.ofNat HF.out) (decide_eq_true (by rw [← HF.out]; exact hltn)).symm, hR'.below⟩
      | false =>
        have HF := Lib.hid (firstBad_no (b := bad ss l wd) (d := gh) (i := k) hb)
        rw [hb] at HADD
        clear hb
        go_wp2_with (first
          | (go_at_call 13; refine HADD.out.mono ?_; rintro e w' ⟨rfl, v', hR'⟩)
          | go_in)
        go_roundg gh
        case measure => omega
        case rel => exact ⟨k + 1, v', by omega, by go_num, hR', by rw [← HF.out]; exact HFB.out⟩
end Go.Proofs.Ytciiihiklobkaaa.Meas
