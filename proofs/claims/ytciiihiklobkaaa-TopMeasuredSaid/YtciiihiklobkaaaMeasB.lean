/-
  (*fair.row).short by a walk.
-/
import Derived.Test.YtciiihiklobkaaaMp
import Derived.Test.YtciiihiklobkaaaSl
import Derived.Test.YtciiihiklobkaaaMeasMath2
import Derived.Deep.CutBlock
import Derived.Deep.DeepCutAuto
import Derived.StillTailTactics
namespace Go.Proofs.Ytciiihiklobkaaa.Meas
open Go.RowKit
set_option linter.unusedVariables false
set_option linter.unusedSimpArgs false

/-- What short does to the counts. -/
def runsF (f : Int → Option Int) (s : Smp) : Int → Option Int := if s.g = -1 then f else putF f s.g (if s.safe then 0 else (f s.g).getD 0 + 1)
theorem runsF_to (ss : List Smp) (k : Nat) : runsF (runsTo ss k) (sm ss k) = runsTo ss (k + 1) := by
  funext g
  unfold runsF
  conv => rhs; unfold runsTo
  by_cases h : (sm ss k).g = -1
  · rw [if_pos h, if_pos h]
  · rw [if_neg h, if_neg h]
    unfold putF
    by_cases h2 : g = (sm ss k).g
    · rw [if_pos h2, if_pos h2, h2]
    · rw [if_neg h2, if_neg h2]
theorem putF_putF (f : Int → Option Int) (x u v : Int) : putF (putF f x u) x v = putF f x v := by
  funext y
  unfold putF
  by_cases h : y = x
  · rw [if_pos h, if_pos h]
  · rw [if_neg h, if_neg h, if_neg h]
theorem putF_same (f : Int → Option Int) (x v : Int) : putF f x v x = some v := by unfold putF; rw [if_pos rfl]

def smpAgg (s : Smp) (act : Value) : Value := .agg #[.int .i64 s.kind, .int .i64 s.a, .int .i64 s.ns, act, .int .i64 s.g, .bool s.safe]

set_option maxHeartbeats 1600000 in
set_option maxRecDepth 100000 in
theorem short_calls (rb b1 l n : Nat) (f : Int → Option Int) (s : Smp) (hs : s.ok) (A : Option Addr) (an ac : Nat) (w : World) (hc1 : w.cell? ⟨rb, 1, none⟩ = some (.int .i64 l)) (hc3 : w.cell? ⟨rb, 3, none⟩ = some (.map (some b1)))
    (hm : MapI w b1 n f) (hf0 : 0 ≤ (f s.g).getD 0) (hf1 : (f s.g).getD 0 ≤ 1000) (hn : n ≤ 1000) (hl : l ≤ 4) :
    Calls Try.prog 48 #[.pointer (some ⟨rb, 0, none⟩), smpAgg s (.slice A an ac)] w fun e w' => e = .returned (.bool (s.g == -1 || decide ((runsF f s s.g).getD 0 ≤ l))) ∧ MapI w' b1 (n + 2) (runsF f s) ∧ w.grownBy w' (some b1) := by
  have hg0 := hs.g0
  have hg1 := hs.g1
  have HM := Lib.hid hm
  have hc3' : ∀ o, (w.alloc o).cell? ⟨rb, 3, none⟩ = some (.map (some b1)) := fun o => cell_below ((Below.refl _ _).alloc (Nat.le_refl _) _) hc3
  have hc1' : ∀ o, (w.alloc o).cell? ⟨rb, 1, none⟩ = some (.int .i64 l) := fun o => cell_below ((Below.refl _ _).alloc (Nat.le_refl _) _) hc1
  clear hm
  unfold smpAgg
  cases hg : (s.g == -1) with
  | true =>
    have hg' : s.g = -1 := by simpa using hg
    have HF := Lib.hid (show runsF f s = f by unfold runsF; rw [if_pos hg'])
    clear hg'
    go_enter Try.func48, Try.ntmps48
    go_wp2
    go_ret
    refine ⟨rfl, ?_, World.grownBy_alloc _ _ _⟩
    rw [HF.out]
    exact (HM.out.alloc _).mono (by omega)
  | false =>
    have hg' : ¬ s.g = -1 := by simpa using hg
    have HF := Lib.hid (show runsF f s = putF f s.g (if s.safe then 0 else (f s.g).getD 0 + 1) by unfold runsF; rw [if_neg hg'])
    clear hg'
    have hlook : ∀ o m, (Instr.lookup 47 (.map (some b1)) (.int .i64 s.g) false).run Try.prog ((w.alloc o).drewN m) = .ok (.int .i64 ((f s.g).getD 0)) ((w.alloc o).drewN m) := fun o m => ((HM.out.alloc o).drewN m).look (by omega) (by omega)
    go_enter Try.func48, Try.ntmps48
    go_upto_region 3 with fail
    have e3 := hc3' (.cells #[.int .i64 s.kind, .int .i64 s.a, .int .i64 s.ns, .slice A an ac, .int .i64 s.g, .bool s.safe] 28)
    have e1 := hc1' (.cells #[.int .i64 s.kind, .int .i64 s.a, .int .i64 s.ns, .slice A an ac, .int .i64 s.g, .bool s.safe] 28)
    have d4 : (w.alloc (.cells #[.int .i64 s.kind, .int .i64 s.a, .int .i64 s.ns, .slice A an ac, .int .i64 s.g, .bool s.safe] 28)).cell? ⟨w.heap.size, 4, none⟩ = some (.int .i64 s.g) := by simp
    have d5 : (w.alloc (.cells #[.int .i64 s.kind, .int .i64 s.a, .int .i64 s.ns, .slice A an ac, .int .i64 s.g, .bool s.safe] 28)).cell? ⟨w.heap.size, 5, none⟩ = some (.bool s.safe) := by simp
    have hlk := hlook (.cells #[.int .i64 s.kind, .int .i64 s.a, .int .i64 s.ns, .slice A an ac, .int .i64 s.g, .bool s.safe] 28)
    have hgr0 := Lib.hid (World.grownBy_alloc w (.cells #[.int .i64 s.kind, .int .i64 s.a, .int .i64 s.ns, .slice A an ac, .int .i64 s.g, .bool s.safe] 28) (some b1))
    have HM0 := Lib.hid (HM.out.alloc (.cells #[.int .i64 s.kind, .int .i64 s.a, .int .i64 s.ns, .slice A an ac, .int .i64 s.g, .bool s.safe] 28))
    clear hc3' hc1' hlook hc1 hc3 HM
    generalize w.alloc (.cells #[.int .i64 s.kind, .int .i64 s.a, .int .i64 s.ns, .slice A an ac, .int .i64 s.g, .bool s.safe] 28) = w0 at *
    have hlk1 : (Instr.lookup 47 (.map (some b1)) (.int .i64 s.g) false).run Try.prog w0.drew = .ok (.int .i64 ((f s.g).getD 0)) w0.drew := hlk 1
    clear hlk
    refine wp_region_still_tail 8 (by kernel_rfl) (by kernel_rfl) ?_
    simp only [List.take_succ_cons, List.take_zero, List.drop_succ_cons, List.drop_zero]
    change wpStill _ _ w0.drew _ _ _
    repeat still_step
    all_goals (try refine wpStill_nil ?_)
    generalize hx0 : (f s.g).getD 0 = x0 at *
    have hw0 : IntKind.i64.wrap (x0 + 1) = x0 + 1 := w64 (by omega) (by omega)
    rw [hw0]
    clear hw0
    refine wpList_putI (o := { dst := none, op := Op.mapUpdate 47 (Operand.tmp 11) (Operand.tmp 13) (Operand.tmp 15), type := 0, pos := _, after := _, guard := none }) rfl _ _ _ rfl w0.drew b1 n f HM0.out.drew s.g (x0 + 1) rfl rfl rfl (by omega) (by omega) (by omega) (by omega) (by omega) ?_
    intro w' hm' hgr'
    have e1' := HM0.out.drew.cell hgr' e1
    have e3' := HM0.out.drew.cell hgr' e3
    have d4' := HM0.out.drew.cell hgr' d4
    have d5' := HM0.out.drew.cell hgr' d5
    have HM1 := Lib.hid hm'
    have HGR := Lib.hid (show w.grownBy w' (some b1) from hgr0.out.trans (drew_grown hgr'))
    clear hm' hgr' e1 e3 d4 d5 hlk1 hgr0 HM0
    cases hsf : s.safe with
    | true =>
      rw [hsf] at d5'
      go_wp2_with fail
      refine wp_region_still_tail 6 (by kernel_rfl) (by kernel_rfl) ?_
      simp only [List.take_succ_cons, List.take_zero, List.drop_succ_cons, List.drop_zero]
      change wpStill _ _ w'.drew _ _ _
      repeat still_step
      all_goals (try refine wpStill_nil ?_)
      refine wpList_putI (o := { dst := none, op := Op.mapUpdate 47 (Operand.tmp 21) (Operand.tmp 23) (Operand.const (Value.int IntKind.i64 0)), type := 0, pos := _, after := _, guard := none }) rfl _ _ _ rfl w'.drew b1 (n + 1) _ HM1.out.drew s.g 0 rfl rfl rfl (by omega) (by omega) (by omega) (by omega) (by omega) ?_
      intro w2 hm2 hgr2
      rw [putF_putF] at hm2
      have e1 := HM1.out.drew.cell hgr2 e1'
      have e3 := HM1.out.drew.cell hgr2 e3'
      have d4 := HM1.out.drew.cell hgr2 d4'
      have HM2 := Lib.hid hm2
      have HGR2 := Lib.hid (HGR.out.trans (drew_grown hgr2))
      clear HM1 HGR e1' e3' d4' d5' hm2 hgr2
      have hlk : ∀ m, (Instr.lookup 47 (.map (some b1)) (.int .i64 s.g) false).run Try.prog (w2.drewN m) = .ok (.int .i64 0) (w2.drewN m) := by
        intro m
        have := (HM2.out.drewN m).look (x := s.g) (by omega) (by omega)
        rw [putF_same] at this
        exact this
      have hr : (runsF f s s.g).getD 0 = 0 := by rw [HF.out, hsf, if_pos rfl, putF_same]; rfl
      have HR := Lib.hid hr
      clear hr
      go_wp2_with fail
      go_quiet (fail)
      go_wp2_with fail
      go_ret
      refine ⟨?_, ?_, grown_drewN HGR2.out⟩
      · rw [HR.out]; rfl
      · rw [HF.out, hsf, if_pos rfl]; exact HM2.out.drewN _
    | false =>
      rw [hsf] at d5'
      have hlk : ∀ m, (Instr.lookup 47 (.map (some b1)) (.int .i64 s.g) false).run Try.prog (w'.drewN m) = .ok (.int .i64 (x0 + 1)) (w'.drewN m) := by
        intro m
        have := (HM1.out.drewN m).look (x := s.g) (by omega) (by omega)
        rw [putF_same] at this
        exact this
      have hr : (runsF f s s.g).getD 0 = x0 + 1 := by rw [HF.out, hsf, if_neg Bool.false_ne_true, putF_same]; rfl
      have HR := Lib.hid hr
      clear hr
      go_wp2_with fail
      go_quiet (fail)
      go_wp2_with fail
      go_ret
      refine ⟨?_, ?_, grown_drewN HGR.out⟩
      · rw [HR.out]; rfl
      · rw [HF.out, hsf, if_neg Bool.false_ne_true]; exact (HM1.out.drewN _).mono (by omega)
end Go.Proofs.Ytciiihiklobkaaa.Meas
