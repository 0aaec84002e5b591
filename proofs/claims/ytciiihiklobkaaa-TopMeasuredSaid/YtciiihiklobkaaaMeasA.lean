/-
  unfair walks to the first bad sample.
-/
import Derived.Test.YtciiihiklobkaaaSl
import Derived.Test.YtciiihiklobkaaaMeasMath
import Derived.Deep.CutBlock
import Derived.Deep.DeepCutAuto
namespace Go.Proofs.Ytciiihiklobkaaa.Meas
open Go.RowKit
set_option linter.unusedVariables false
set_option linter.unusedSimpArgs false

/-- Samples in memory, from a cell on. -/
def RS (w : World) (g o n : Nat) (ss : List Smp) : Prop :=
  ss.length = n ∧ ∀ j, j < n → ∃ A c, w.cell? ⟨g, o + j * 6, none⟩ = some (.int .i64 (sm ss j).kind) ∧ w.cell? ⟨g, o + j * 6 + 1, none⟩ = some (.int .i64 (sm ss j).a) ∧
    w.cell? ⟨g, o + j * 6 + 2, none⟩ = some (.int .i64 (sm ss j).ns) ∧ w.cell? ⟨g, o + j * 6 + 3, none⟩ = some (.slice A (sm ss j).act.length c) ∧
    w.cell? ⟨g, o + j * 6 + 4, none⟩ = some (.int .i64 (sm ss j).g) ∧ w.cell? ⟨g, o + j * 6 + 5, none⟩ = some (.bool (sm ss j).safe) ∧ RI w A (sm ss j).act.length (sm ss j).act
theorem RS.below {w w1 : World} {g o n : Nat} {ss : List Smp} (h : RS w g o n ss) (hb : Below w.heap.size w w1) : RS w1 g o n ss :=
  ⟨h.1, fun j hj => by
    obtain ⟨A, c, c0, c1, c2, c3, c4, c5, hr⟩ := h.2 j hj
    exact ⟨A, c, cell_below hb c0, cell_below hb c1, cell_below hb c2, cell_below hb c3, cell_below hb c4, cell_below hb c5, hr.below hb⟩⟩

theorem RS.part {w : World} {g n i wd po : Nat} {ss : List Smp} (h : RS w g 0 n ss) (hi : i < n) (hp : po + wd = i + 1) : RS w g (po * 6) wd (partOf ss i wd) :=
  ⟨partOf_length (by rw [h.1]; exact hi) (by omega), fun j hj => by
    have := h.2 (po + j) (by omega)
    rw [sm_part (by rw [h.1]; exact hi) hp hj]
    rw [show 0 + (po + j) * 6 = po * 6 + j * 6 from by omega] at this
    exact this⟩

theorem below_succ {Q : Nat → Prop} {m : Nat} (h : ∀ k, k < m → Q k) (hm : Q m) : ∀ k, k < m + 1 → Q k := by
  intro k hk
  rcases Nat.lt_or_ge k m with h1 | h1
  · exact h k h1
  · obtain rfl : k = m := by omega
    exact hm
theorem decide_mem (xs : List Int) (x : Int) : decide (0 ≤ idxFrom xs x xs.length 0) = decide (x ∈ xs) := decide_eq_decide.2 (idx_mem xs x)

set_option maxHeartbeats 4000000 in
set_option maxRecDepth 1000000 in
theorem unfair_calls (g n cap l wd : Nat) (ss : List Smp) (w : World) (hr : RS w g 0 n ss) (hok : ∀ j, j < n → (sm ss j).ok) (hn : n ≤ 40) (hc : n ≤ cap) (hcm : cap ≤ maxLen) (hl : l ≤ 4) (hw1 : 1 ≤ wd) (hw8 : wd ≤ 8) :
    Calls Try.prog 6 #[.slice (some ⟨g, 0, none⟩) n cap, .int .i64 l, .int .i64 wd] w fun e w' => e = .returned (.int .i64 ((firstBad (bad ss l wd) n 0 : Nat) : Int)) ∧ Below w.heap.size w w' := by
  have HR := Lib.hid hr
  have HOK := Lib.hid hok
  clear hr hok
  unfold maxLen at hcm
  go_enter Try.func6, Try.ntmps6
  go_wp2
  go_loopg [24] n (fun gh v wr => ∃ i : Nat, i + gh = n ∧ v = .int .i64 i ∧ Aside (firstBad (bad ss l wd) gh i = firstBad (bad ss l wd) n 0) ∧ Below w.heap.size w wr)
  case atStart => exact ⟨0, by omega, rfl, rfl, Below.refl _ _⟩
  case round =>
    obtain ⟨i, hi, rfl, HA, hb⟩ := hrel
    have HB := Lib.hid hb
    clear hb
    cases gk with
    | zero =>
      have hge : ¬ ((i : Int) < (n : Int)) := by omega
      have hin : i = n := by omega
      have HIN := Lib.hid hin
      clear hin
      go_wp2
      go_ret
      exact ⟨ret_int (by rw [← HA.out]; show (n : Int) = ((i : Nat) : Int); rw [HIN.out]), HB.out⟩
    | succ gh =>
      have hlt : (i : Int) < (n : Int) := by omega
      have hltn : i < n := by omega
      go_upto_if 34 with fail
      go_cut [9] (fun v9 wx => Below w.heap.size w wx ∧ Aside (wd ≤ i + 1 → windowBad (partOf ss i wd) = false))
      case first =>
        by_cases hwd : wd ≤ i + 1
        · obtain ⟨po, hpo⟩ : ∃ po, po + wd = i + 1 := ⟨i + 1 - wd, by omega⟩
          have hpi : (i : Int) + 1 - (wd : Int) = (po : Int) := by omega
          have hwdi : (wd : Int) ≤ (i : Int) + 1 := by omega
          have hcp : ¬ cap = po := by omega
          rw [show decide ((wd : Int) ≤ (i : Int) + 1) = true from decide_eq_true hwdi]
          have HP := Lib.hid ((HR.out.below HB.out).part hltn hpo)
          have hpo2 : po ≤ i := by omega
          have HPO := Lib.hid hpo
          clear hpo
          have hlen : i + 1 - po = wd := by omega
          have hPl := partOf_length (ss := ss) (i := i) (w := wd) (by rw [HR.out.1]; exact hltn) (by omega)
          have HPL := Lib.hid hPl
          have hns : ∀ x ∈ partOf ss i wd, x.ns ≤ 46000000 := by
            intro x hx
            obtain ⟨j, hj, rfl⟩ := List.mem_iff_getElem.1 hx
            rw [HPL.out] at hj
            rw [← sm_at, sm_part (by rw [HR.out.1]; exact hltn) HPO.out hj]
            exact (HOK.out _ (by have := HPO.out; omega)).n1
          have HNS := Lib.hid hns
          clear hPl hns
          go_upto_block 2 with fail
          go_cut [10, 11] (fun v10 v11 wx => v10 = .bool (anyMon (partOf ss i wd)) ∧ v11 = .int .i64 (longOf (partOf ss i wd)) ∧ Below w.heap.size w wx)
          case first =>
            go_wp2
            go_loopg [10, 11, 43] wd (fun g2 v10 v11 v wy => ∃ j : Nat, j + g2 = wd ∧ v = .int .i64 j ∧ v10 = .bool (anyMon ((partOf ss i wd).take j)) ∧ v11 = .int .i64 (longOf ((partOf ss i wd).take j)) ∧ Below w.heap.size w wy)
            case atStart => exact ⟨0, by omega, rfl, rfl, rfl, HB.out⟩
            case round =>
              obtain ⟨j, hj, rfl, rfl, rfl, hb⟩ := hrel
              have HB2 := Lib.hid hb
              clear hb
              cases gk with
              | zero =>
                have hge : ¬ ((j : Int) < (wd : Int)) := by omega
                have hjw : j = wd := by omega
                have HJ := Lib.hid hjw
                clear hjw
                go_wp2
                go_meet
                exact ⟨by rw [HJ.out, List.take_of_length_le (by rw [HPL.out]; exact Nat.le_refl _)], by rw [HJ.out, List.take_of_length_le (by rw [HPL.out]; exact Nat.le_refl _)], HB2.out⟩
              | succ g2 =>
                have hltj : (j : Int) < (wd : Int) := by omega
                have hjw : j < wd := by omega
                obtain ⟨Aj, cj, c0, c1, c2, c3, c4, c5, hra⟩ := ((HR.out.below HB2.out).part hltn HPO.out).2 j hjw
                have hbd := longOf_bd ((partOf ss i wd).take j) (fun x hx => HNS.out x (List.mem_of_mem_take hx))
                have hlt2 : (((partOf ss i wd).take j).length : Int) ≤ 8 := by have := List.length_take_le j (partOf ss i wd); omega
                have hb0 : 0 ≤ longOf ((partOf ss i wd).take j) := hbd.1
                have hb1 : longOf ((partOf ss i wd).take j) ≤ 368000000 := by omega
                have hns1 : (sm (partOf ss i wd) j).ns ≤ 46000000 := HNS.out _ (by rw [sm_at (by rw [HPL.out]; exact hjw)]; exact List.getElem_mem _)
                have htk := take_sm (ss := partOf ss i wd) (j := j) (by rw [HPL.out]; exact hjw)
                have HTK := Lib.hid htk
                clear hbd hlt2 htk
                cases hm : anyMon ((partOf ss i wd).take j) with
                | true =>
                  have HM := Lib.hid hm
                  clear hm
                  go_wp2
                  all_goals
                    go_roundg g2
                    case measure => omega
                    case rel => exact ⟨j + 1, by omega, by go_num, by rw [HTK.out, anyMon_snoc, HM.out]; rfl, by rw [HTK.out, longOf_snoc]; exact congrArg (Value.int .i64) (by omega), HB2.out.alloc HB2.out.size _⟩
                | false =>
                  have HM := Lib.hid hm
                  clear hm
                  go_wp2
                  all_goals
                    go_roundg g2
                    case measure => omega
                    case rel => exact ⟨j + 1, by omega, by go_num, by rw [HTK.out, anyMon_snoc, HM.out]; rfl, by rw [HTK.out, longOf_snoc]; exact congrArg (Value.int .i64) (by omega), HB2.out.alloc HB2.out.size _⟩
          case rest =>
            obtain ⟨rfl, rfl, hb⟩ := hcut
            have HB3 := Lib.hid hb
            clear hb
            have hcase : windowBad (partOf ss i wd) = true → bad ss l wd i = true := fun h => by
              unfold bad
              rw [h, decide_eq_true (show wd ≤ i + 1 by have := HPO.out; omega)]
              rfl
            cases hmon : anyMon (partOf ss i wd) with
            | false =>
              have hbad := hcase (by unfold windowBad; rw [hmon]; rfl)
              have HF := Lib.hid (show i = firstBad (bad ss l wd) n 0 by rw [← HA.out, firstBad_yes hbad])
              clear hcase hmon hbad
              go_wp2
              go_ret
              exact ⟨ret_int (congrArg Int.ofNat HF.out), HB3.out⟩
            | true =>
              by_cases hlong : longOf (partOf ss i wd) < 10000000
              · have hbad := hcase (by unfold windowBad; rw [decide_eq_true hlong]; simp)
                have HF := Lib.hid (show i = firstBad (bad ss l wd) n 0 by rw [← HA.out, firstBad_yes hbad])
                clear hcase hmon hbad
                go_wp2
                go_ret
                exact ⟨ret_int (congrArg Int.ofNat HF.out), HB3.out⟩
              · have HMON := Lib.hid hmon
                have HCASE := Lib.hid hcase
                clear hmon hcase
                have hlong2 : decide (longOf (partOf ss i wd) < 10000000) = false := decide_eq_false hlong
                go_upto_block 4 with fail
                go_cut [14] (fun v14 wx => Below w.heap.size w wx ∧ Aside (∀ m : Nat, m < 16 → stuck (partOf ss i wd) m = false))
                case first =>
                  go_wp2
                  go_loopg [66] 16 (fun g3 v wy => ∃ m : Nat, m + g3 = 16 ∧ v = .int .i64 m ∧ Aside (∀ m' : Nat, m' < m → stuck (partOf ss i wd) m' = false) ∧ Below w.heap.size w wy)
                  case atStart => exact ⟨0, by omega, rfl, fun m' h => absurd h (by omega), HB3.out⟩
                  case round =>
                    rename_i wy
                    obtain ⟨m, hm, rfl, HST, hb⟩ := hrel
                    have HB4 := Lib.hid hb
                    clear hb
                    cases gk with
                    | zero =>
                      have hge : ¬ ((m : Int) < 16) := by omega
                      go_wp2
                      go_meet
                      exact ⟨HB4.out, fun m' h => HST.out m' (by omega)⟩
                    | succ g3 =>
                      have hltm : (m : Int) < 16 := by omega
                      go_upto_block 6 with fail
                      go_cut [15, 16] (fun v15 v16 wx => v15 = .bool (allAct (partOf ss i wd) m) ∧ v16 = .bool (anyStep (partOf ss i wd) m) ∧ Below w.heap.size w wx)
                      case first =>
                        go_wp2
                        go_loopg [15, 16, 71] wd (fun g2 v15 v16 v wz => ∃ j : Nat, j + g2 = wd ∧ v = .int .i64 j ∧ v15 = .bool (allAct ((partOf ss i wd).take j) m) ∧ v16 = .bool (anyStep ((partOf ss i wd).take j) m) ∧ Below w.heap.size w wz)
                        case atStart => exact ⟨0, by omega, rfl, rfl, rfl, HB4.out⟩
                        case round =>
                          obtain ⟨j, hj, rfl, rfl, rfl, hb⟩ := hrel
                          have HB5 := Lib.hid hb
                          clear hb
                          cases gk with
                          | zero =>
                            have hge : ¬ ((j : Int) < (wd : Int)) := by omega
                            have hjw : j = wd := by omega
                            have HJ := Lib.hid hjw
                            clear hjw
                            go_wp2
                            go_meet
                            exact ⟨by rw [HJ.out, List.take_of_length_le (by rw [HPL.out]; exact Nat.le_refl _)], by rw [HJ.out, List.take_of_length_le (by rw [HPL.out]; exact Nat.le_refl _)], HB5.out⟩
                          | succ g2 =>
                            have hltj : (j : Int) < (wd : Int) := by omega
                            have hjw : j < wd := by omega
                            obtain ⟨Aj, cj, c0, c1, c2, c3, c4, c5, hra⟩ := ((HR.out.below HB5.out).part hltn HPO.out).2 j hjw
                            have htk := take_sm (ss := partOf ss i wd) (j := j) (by rw [HPL.out]; exact hjw)
                            have HTK := Lib.hid htk
                            have HRA := Lib.hid hra
                            clear htk hra
                            go_upto_region 23 with fail
                            go_cut [15] (fun v15 wx => v15 = .bool (allAct ((partOf ss i wd).take (j + 1)) m) ∧ ∃ q, wx = (wr.alloc (.cells #[.int .i64 (sm (partOf ss i wd) j).kind, .int .i64 (sm (partOf ss i wd) j).a, .int .i64 (sm (partOf ss i wd) j).ns, .slice Aj (sm (partOf ss i wd) j).act.length cj, .int .i64 (sm (partOf ss i wd) j).g, .bool (sm (partOf ss i wd) j).safe] 28)).drewN q)
                            case first =>
                              cases ha : allAct ((partOf ss i wd).take j) m with
                              | false =>
                                have HA2 := Lib.hid ha
                                clear ha
                                go_wp2_with fail
                                go_meet
                                exact ⟨by rw [HTK.out, allAct_snoc, HA2.out]; rfl, 0, rfl⟩
                              | true =>
                                have HA2 := Lib.hid ha
                                clear ha
                                go_wp2_with fail
                                refine (Contains_calls _ _ _ _ _ _ (HRA.out.below ((Below.refl _ _).alloc (Nat.le_refl _) _))).mono ?_
                                rintro e w' ⟨rfl, q, rfl⟩
                                rw [decide_mem (sm (partOf ss i wd) j).act m]
                                go_wp2_with fail
                                go_meet
                                exact ⟨by rw [HTK.out, allAct_snoc, HA2.out, Bool.true_and], q, rfl⟩
                            case rest =>
                              obtain ⟨rfl, q, rfl⟩ := hcut
                              cases hst : anyStep ((partOf ss i wd).take j) m with
                              | true =>
                                have HST2 := Lib.hid hst
                                clear hst
                                go_wp2
                                go_roundg g2
                                case measure => omega
                                case rel => exact ⟨j + 1, by omega, by go_num, rfl, by rw [HTK.out, anyStep_snoc, HST2.out]; rfl, below_drewN (HB5.out.alloc HB5.out.size _) q⟩
                              | false =>
                                have HST2 := Lib.hid hst
                                clear hst
                                cases hk : ((sm (partOf ss i wd) j).kind == 0) with
                                | false =>
                                  go_wp2
                                  go_roundg g2
                                  case measure => omega
                                  case rel => exact ⟨j + 1, by omega, by go_num, rfl, by rw [HTK.out, anyStep_snoc, HST2.out, hk]; rfl, below_drewN (HB5.out.alloc HB5.out.size _) q⟩
                                | true =>
                                  go_wp2
                                  go_roundg g2
                                  case measure => omega
                                  case rel => exact ⟨j + 1, by omega, by go_num, rfl, by rw [HTK.out, anyStep_snoc, HST2.out, hk]; rfl, below_drewN (HB5.out.alloc HB5.out.size _) q⟩
                      case rest =>
                        obtain ⟨rfl, rfl, hb⟩ := hcut
                        have HB6 := Lib.hid hb
                        clear hb
                        have hcase : stuck (partOf ss i wd) m = true → bad ss l wd i = true := fun h => HCASE.out (by
                          unfold windowBad
                          rw [show ((List.range 16).any fun m => stuck (partOf ss i wd) (m : Int)) = true from List.any_eq_true.2 ⟨m, by simp; omega, h⟩]
                          simp)
                        have HCS := Lib.hid hcase
                        clear hcase
                        cases ha : allAct (partOf ss i wd) m with
                        | false =>
                          have hns : stuck (partOf ss i wd) m = false := by unfold stuck; rw [ha]; rfl
                          have HNS2 := Lib.hid hns
                          clear ha hns
                          go_wp2
                          go_roundg g3
                          case measure => omega
                          case rel => exact ⟨m + 1, by omega, by go_num, below_succ HST.out HNS2.out, HB6.out⟩
                        | true =>
                          cases hst : anyStep (partOf ss i wd) m with
                          | true =>
                            have hns : stuck (partOf ss i wd) m = false := by unfold stuck; rw [hst]; simp
                            have HNS2 := Lib.hid hns
                            clear ha hst hns
                            go_wp2
                            go_roundg g3
                            case measure => omega
                            case rel => exact ⟨m + 1, by omega, by go_num, below_succ HST.out HNS2.out, HB6.out⟩
                          | false =>
                            have hbad := HCS.out (by unfold stuck; rw [ha, hst]; rfl)
                            have HF := Lib.hid (show i = firstBad (bad ss l wd) n 0 by rw [← HA.out, firstBad_yes hbad])
                            clear ha hst hbad
                            go_wp2
                            go_ret
                            exact ⟨ret_int (congrArg Int.ofNat HF.out), HB6.out⟩
                case rest =>
                  obtain ⟨hb, HST⟩ := hcut
                  have HB7 := Lib.hid hb
                  clear hb
                  go_wp2_with fail
                  go_meet
                  refine ⟨HB7.out, fun _ => ?_⟩
                  unfold windowBad
                  rw [HMON.out, hlong2, Bool.not_true, Bool.false_or, Bool.false_or, List.any_eq_false]
                  intro m hm
                  rw [HST.out m (by simpa using hm)]
                  exact Bool.false_ne_true
        · have hwdi : ¬ (wd : Int) ≤ (i : Int) + 1 := by omega
          rw [show decide ((wd : Int) ≤ (i : Int) + 1) = false from decide_eq_false hwdi]
          go_wp2_with fail
          go_meet
          exact ⟨HB.out, fun h => absurd h hwd⟩
      case rest =>
        obtain ⟨hb, HW⟩ := hcut
        have HB8 := Lib.hid hb
        clear hb
        have hseg : ∀ j, j < i + 1 → j < n := fun j h => by omega
        have hssl : ss.length = n := HR.out.1
        have HSSL := Lib.hid hssl
        clear hssl hseg
        go_upto_block 8 with fail
        go_cut [19] (fun v19 wx => v19 = .int .i64 ((manyOf (sm ss i).g (ss.take (i + 1)) : Nat) : Int) ∧ Below w.heap.size w wx)
        case first =>
          go_wp2
          go_loopg [19, 104] (i + 1) (fun g2 v19 v wy => ∃ k : Nat, k + g2 = i + 1 ∧ v = .int .i64 k ∧ v19 = .int .i64 ((manyOf (sm ss i).g (ss.take k) : Nat) : Int) ∧ Below w.heap.size w wy)
          case atStart => exact ⟨0, by omega, rfl, rfl, HB8.out⟩
          case round =>
            obtain ⟨k, hk, rfl, rfl, hb⟩ := hrel
            have HB9 := Lib.hid hb
            clear hb
            cases gk with
            | zero =>
              have hge : ¬ ((k : Int) < (i : Int) + 1) := by omega
              have hki : k = i + 1 := by omega
              have HK := Lib.hid hki
              clear hki
              go_wp2
              go_meet
              exact ⟨by rw [HK.out], HB9.out⟩
            | succ g2 =>
              have hltk : (k : Int) < (i : Int) + 1 := by omega
              have hkn : k < n := by omega
              obtain ⟨Ak, ck, c0, c1, c2, c3, c4, c5, hrk⟩ := (HR.out.below HB9.out).2 k hkn
              obtain ⟨Ai, ci, _, _, _, _, d4, _, _⟩ := (HR.out.below HB9.out).2 i hltn
              simp only [Nat.zero_add] at c0 c1 c2 c3 c4 c5 d4
              have d4' : ∀ o, (wr.alloc o).cell? ⟨g, i * 6 + 4, none⟩ = some (.int .i64 (sm ss i).g) := fun o => cell_below ((Below.refl _ _).alloc (Nat.le_refl _) _) d4
              have htk := take_sm (ss := ss) (j := k) (by rw [HSSL.out]; exact hkn)
              have HTK := Lib.hid htk
              have hml : manyOf (sm ss i).g (ss.take k) ≤ 40 := Nat.le_trans (manyOf_le _ _) (Nat.le_trans (List.length_take_le _ _) (by omega))
              clear htk hrk
              cases hg : ((sm ss k).g == (sm ss i).g) with
              | false =>
                have hg2 : ¬ (sm ss k).g = (sm ss i).g := by simpa using hg
                have HG := Lib.hid hg2
                clear hg2
                go_wp2
                go_quiet (fail)
                go_wp2
                go_roundg g2
                case measure => omega
                case rel => exact ⟨k + 1, by omega, by go_num, by rw [HTK.out, manyOf_snoc, if_neg HG.out], below_drewN (HB9.out.alloc HB9.out.size _) _⟩
              | true =>
                have hg2 : (sm ss k).g = (sm ss i).g := by simpa using hg
                have HG := Lib.hid hg2
                clear hg2
                cases hsf : (sm ss k).safe with
                | true =>
                  go_wp2
                  go_quiet (fail)
                  go_wp2
                  go_roundg g2
                  case measure => omega
                  case rel => exact ⟨k + 1, by omega, by go_num, by rw [HTK.out, manyOf_snoc, if_pos HG.out, if_pos hsf]; rfl, below_drewN (HB9.out.alloc HB9.out.size _) _⟩
                | false =>
                  go_wp2
                  go_quiet (fail)
                  go_wp2
                  go_roundg g2
                  case measure => omega
                  case rel => exact ⟨k + 1, by omega, by go_num, by rw [HTK.out, manyOf_snoc, if_pos HG.out, if_neg (by rw [hsf]; exact Bool.false_ne_true)]; rfl, below_drewN (HB9.out.alloc HB9.out.size _) _⟩
        case rest =>
          obtain ⟨rfl, hb⟩ := hcut
          have HB10 := Lib.hid hb
          clear hb
          obtain ⟨Ai, ci, _, _, _, _, d4, _, _⟩ := (HR.out.below HB10.out).2 i hltn
          simp only [Nat.zero_add] at d4
          have hwin : (decide (wd ≤ i + 1) && windowBad (partOf ss i wd)) = false := by
            by_cases h : wd ≤ i + 1
            · rw [HW.out h, Bool.and_false]
            · rw [decide_eq_false h, Bool.false_and]
          have hbad : bad ss l wd i = (decide ((sm ss i).g ≠ -1) && decide (l < manyOf (sm ss i).g (ss.take (i + 1)))) := by
            unfold bad
            rw [hwin, Bool.false_or]
          have hml : manyOf (sm ss i).g (ss.take (i + 1)) ≤ 40 := Nat.le_trans (manyOf_le _ _) (Nat.le_trans (List.length_take_le _ _) (by omega))
          generalize hmany : manyOf (sm ss i).g (ss.take (i + 1)) = many at *
          have HBAD := Lib.hid hbad
          clear hbad hwin hmany
          cases hG : ((sm ss i).g != -1) with
          | false =>
            have hG2 : decide ((sm ss i).g ≠ -1) = false := by simpa using hG
            have HN := Lib.hid (firstBad_no (b := bad ss l wd) (d := gh) (i := i) (by rw [HBAD.out, hG2, Bool.false_and]))
            clear hG2
            go_wp2
            go_roundg gh
            case measure => omega
            case rel => exact ⟨i + 1, by omega, by go_num, by rw [← HN.out]; exact HA, HB10.out⟩
          | true =>
            have hG2 : decide ((sm ss i).g ≠ -1) = true := by simpa using hG
            by_cases hlm : l < many
            · have hlmi : (l : Int) < (many : Int) := by omega
              have HF := Lib.hid (show i = firstBad (bad ss l wd) n 0 by rw [← HA.out, firstBad_yes (by rw [HBAD.out, hG2, decide_eq_true hlm]; rfl)])
              clear hG2
              go_wp2
              go_ret
              exact ⟨ret_int (congrArg Int.ofNat HF.out), HB10.out⟩
            · have hlmi : ¬ (l : Int) < (many : Int) := by omega
              have HN := Lib.hid (firstBad_no (b := bad ss l wd) (d := gh) (i := i) (by rw [HBAD.out, decide_eq_false hlm, Bool.and_false]))
              clear hG2
              go_wp2
              go_roundg gh
              case measure => omega
              case rel => exact ⟨i + 1, by omega, by go_num, by rw [← HN.out]; exact HA, HB10.out⟩
end Go.Proofs.Ytciiihiklobkaaa.Meas
