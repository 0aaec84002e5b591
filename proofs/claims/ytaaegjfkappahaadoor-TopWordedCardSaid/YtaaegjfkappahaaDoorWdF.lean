/-
  worded by a walk.
-/
import Derived.Test.YtaaegjfkappahaaDoorWdE
import Derived.Deep.RegionHeld3
import Derived.Deep.DrawnRows
namespace Go.Proofs.YtaaegjfkappahaaDoor
open Go.RowKit
set_option linter.unusedVariables false
set_option linter.unusedSimpArgs false

/-- Small numbers in memory. -/
def RB (w : World) (A : Option Addr) (n : Nat) (x : Nat → Nat) : Prop := (∀ i, x i < 256) ∧ (0 < n → ∃ b o, A = some ⟨b, o, none⟩ ∧ ∀ j, j < n → w.cell? ⟨b, o + j, none⟩ = some (.int .u8 (x j : Nat)))

theorem room_of (r : Nat) : ∃ q : Nat, isRoom (q : Int) ∧ wrap64 (2 * 2 ^ (r % 6)) = (q : Int) := by
  have : r % 6 < 6 := Nat.mod_lt _ (by omega)
  generalize r % 6 = m at this
  rcases (by omega : m = 0 ∨ m = 1 ∨ m = 2 ∨ m = 3 ∨ m = 4 ∨ m = 5) with rfl | rfl | rfl | rfl | rfl | rfl
  · exact ⟨2, .inl rfl, by simp [wrap64]⟩
  · exact ⟨4, .inr (.inl rfl), by simp [wrap64]⟩
  · exact ⟨8, .inr (.inr (.inl rfl)), by simp [wrap64]⟩
  · exact ⟨16, .inr (.inr (.inr (.inl rfl))), by simp [wrap64]⟩
  · exact ⟨32, .inr (.inr (.inr (.inr (.inl rfl)))), by simp [wrap64]⟩
  · exact ⟨64, .inr (.inr (.inr (.inr (.inr rfl)))), by simp [wrap64]⟩

def Gives2 (w : World) (h n : Nat) (e : Ending) (w' : World) : Prop := ∃ A c, e = .returned (.slice A n c) ∧ n ≤ c ∧ c ≤ maxLen ∧ RU w' A n h ∧ Below w.heap.size w w'

set_option maxHeartbeats 4000000 in
set_option maxRecDepth 1000000 in
theorem worded_calls (hd room : Nat) (h1 : hd < 4294967296) (h2 : room < 256) (A : Option Addr) (len cap : Nat) (x : Nat → Nat) (w : World) (hx : RB w A len x) (hl : len ≤ 300)
    (htab : Lib.TabBelow Tryd.prog w.heap.size w "internal/strconv.uint64pow10" .u64 Lib.pow10Tab) :
    Calls Tryd.prog 6 #[.int .u32 hd, .int .u8 room, .slice A len cap] w fun e w' => e = .returned (.bool true) ∧ Below w.heap.size w w' := by
  have HX := Lib.hid hx
  have HT := Lib.hid htab
  have hpk : (hd : Int) * 4294967296 + (hd : Int) = pk hd 0 := by unfold pk pl; omega
  have hpl : (hd : Int) = pl hd 0 := by unfold pl; omega
  have HPL := Lib.hid hpl
  have HPK := Lib.hid hpk
  clear hx htab hpl hpk
  go_enter Tryd.func6, Tryd.ntmps6
  go_upto_region 2 with fail
  obtain ⟨q, hq, hqe⟩ := room_of room
  rw [hqe]
  have hq2 : 2 ≤ q := by unfold isRoom at hq; omega
  have hq64 : q ≤ 64 := by unfold isRoom at hq; omega
  have HQ := Lib.hid hq
  clear hq hqe
  go_upto_region 4 with (go_at_call 23; refine (Pack_calls _ _ _ (by omega) (by omega) (by omega) (by omega)).mono ?_; rintro e w' ⟨rfl, rfl⟩)
  rw [HPK.out]
  go_wp2
  go_loopg [8, 9, 10, 28] len (fun gh v8 v9 v10 v28 wr => ∃ (i H n : Nat) (A' : Option Addr) (c : Nat), i + gh = len ∧ v28 = .int .i64 i ∧ v8 = .int .u64 (pk H n) ∧ v9 = .slice A' n c ∧ v10 = .int .u32 (pl H n) ∧ n ≤ q ∧ n ≤ c ∧ c ≤ maxLen ∧ RU wr A' n H ∧ Below w.heap.size w wr)
  case atStart => exact ⟨0, hd, 0, none, 0, by omega, rfl, rfl, rfl, by rw [HPL.out], by omega, Nat.le_refl _, by unfold maxLen; omega, RU.nil _ _, Below.refl _ _⟩
  case round =>
    obtain ⟨i, H, n, A', c, hi, rfl, rfl, rfl, rfl, hnq, hnc, hcm, hru, hb⟩ := hrel
    have HRU := Lib.hid hru
    have HB := Lib.hid hb
    clear hru hb
    unfold maxLen at hcm
    cases gk with
    | zero =>
      have hge : ¬ ((i : Int) < (len : Int)) := by omega
      go_wp2_with (go_at_call 25; refine (Do0_calls _ q _ HQ.out).mono ?_; rintro e w' ⟨rfl, rfl⟩)
      go_ret
      exact ⟨rfl, HB.out⟩
    | succ gh =>
      have hlt : (i : Int) < (len : Int) := by omega
      obtain ⟨b, o, rfl, hc⟩ := HX.out.2 (by omega)
      have hci := cell_below HB.out (hc i (by omega))
      have hx256 := HX.out.1 i
      clear hc
      go_upto_block 2 with fail
      obtain ⟨k, hk⟩ : ∃ k, k = x i % 6 := ⟨_, rfl⟩
      have hki : ((x i : Nat) : Int) % 6 = (k : Int) := by omega
      have hk6 : k < 6 := by omega
      rw [hki]
      have HK := Lib.hid hki
      clear hk hki hci
      go_cut [9, 10] (fun v9 v10 wx => ∃ (A2 : Option Addr) (c2 : Nat), v9 = .slice A2 (stepN k q n) c2 ∧ v10 = .int .u32 (pl (stepH k n H) (stepN k q n)) ∧ stepN k q n ≤ c2 ∧ c2 ≤ maxLen ∧ RU wx A2 (stepN k q n) (stepH k n H) ∧ Below w.heap.size w wx)
      case first =>
        rcases (by omega : k = 0 ∨ k = 1 ∨ k = 2 ∨ k = 3 ∨ k = 4 ∨ k = 5) with rfl | rfl | rfl | rfl | rfl | rfl
        · as_aux_lemma =>
            go_wp2
            go_meet
            exact ⟨A', c, rfl, rfl, hnc, hcm, HRU.out, HB.out⟩
        · as_aux_lemma =>
            obtain ⟨d, hd⟩ : ∃ d, d = min 1 n := ⟨_, rfl⟩
            have hdi : min 1 (n : Int) = (d : Int) := by omega
            have hsl := slice_l A' n c d (n - d) (by omega) rfl
            have HR2 := Lib.hid (HRU.out.part (c := c) (lo := d) (hi := n) (by omega) (Nat.le_refl _) hnc)
            have HD := Lib.hid hd
            clear hd
            go_wp2
            go_meet
            have eN : stepN 1 q n = n - d := by have := HD.out; simp only [stepN, if_true]; omega
            have eH : stepH 1 n H = H + d := by have := HD.out; simp only [stepH, if_true]; omega
            rw [eN, eH]
            exact ⟨_, _, rfl, congrArg (Value.int .u32) (pl_eq (by have := HD.out; omega)), by have := HD.out; omega, by unfold maxLen; omega, HR2.out, HB.out⟩
        · as_aux_lemma =>
            obtain ⟨d, hd⟩ : ∃ d, d = n - n / 2 := ⟨_, rfl⟩
            have hdi : (n : Int) - (n : Int) / 2 = (d : Int) := by omega
            have hsl := slice_l A' n c d (n - d) (by omega) rfl
            have HR2 := Lib.hid (HRU.out.part (c := c) (lo := d) (hi := n) (by omega) (Nat.le_refl _) hnc)
            have HD := Lib.hid hd
            clear hd
            go_wp2
            go_meet
            have eN : stepN 2 q n = n - d := by have := HD.out; simp [stepN]; omega
            have eH : stepH 2 n H = H + d := by have := HD.out; simp [stepH]; omega
            rw [eN, eH]
            exact ⟨_, _, rfl, congrArg (Value.int .u32) (pl_eq (by have := HD.out; omega)), by have := HD.out; omega, by unfold maxLen; omega, HR2.out, HB.out⟩
        · as_aux_lemma =>
            by_cases hroom : n < q
            · have hri : (n : Int) < (q : Int) := by omega
              have eN : stepN 3 q n = n + 1 := by simp [stepN, hroom]
              have eH : stepH 3 n H = H := by simp [stepH]
              have EN := Lib.hid eN
              have EH := Lib.hid eH
              have HPN := Lib.hid (pl_next H n)
              have hp := pl_bd H n
              obtain ⟨hp0, hp1⟩ := hp
              have hsz := HB.out.size
              clear eN eH hroom
              go_wp2_with (first
                | (go_at_call 24; refine (Clone_calls A' n c H _ HRU.out (by omega)).mono ?_; rintro e w2 ⟨v2, rfl, ho2, hb2⟩; have HO2 := Lib.hid ho2; have HB2 := Lib.hid (below_then HB.out hsz hb2); have hsz2 := hb2.size; clear ho2 hb2)
                | (at_builtin; refine wpList_app32 rfl _ _ rfl w2 wr.heap.size H n _ HO2.out rfl rfl ?b1 hsz2 ?_))
              case b1 => omega
              intro v3 w3 ho3 hg3
              have HB3 := Lib.hid (HB2.out.grown hg3 HB2.out.size (fun j e => Nat.le_trans hsz (HO2.out.lt j e).1))
              obtain ⟨A3, c3, rfl, hc3, hcm3, hru3⟩ := own_RU ho3
              have HR3 := Lib.hid hru3
              clear ho3 hg3 hru3
              go_wp2
              go_meet
              rw [EN.out, EH.out]
              exact ⟨A3, c3, rfl, congrArg (Value.int .u32) HPN.out, hc3, hcm3, HR3.out, HB3.out⟩
            · have hri : ¬ (n : Int) < (q : Int) := by omega
              have EN := Lib.hid (show stepN 3 q n = n by simp [stepN, hroom])
              have EH := Lib.hid (show stepH 3 n H = H by simp [stepH])
              clear hroom
              go_wp2
              go_meet
              rw [EN.out, EH.out]
              exact ⟨A', c, rfl, rfl, hnc, hcm, HRU.out, HB.out⟩
        · as_aux_lemma =>
            by_cases hroom : q ≤ n
            · have hri : (q : Int) ≤ (n : Int) := by omega
              obtain ⟨d, hd⟩ : ∃ d, d = q / 2 := ⟨_, rfl⟩
              obtain ⟨m, hm⟩ : ∃ m, m = n - d := ⟨_, rfl⟩
              have hdi : (q : Int) / 2 = (d : Int) := by omega
              have hmi : (n : Int) - (d : Int) = (m : Int) := by omega
              have hd64 : d ≤ 64 := by omega
              have hps := pl_sub H n d (by omega)
              rw [← hm] at hps
              have hp := pl_bd H n
              obtain ⟨hp0, hp1⟩ := hp
              have hsl := slice_h A' n c m (by omega)
              have HR2 := Lib.hid (show RU wr A' m H from by
                obtain ⟨b', o', ha, hcc⟩ := HRU.out
                refine ⟨b', o', ?_, fun j hj => hcc j (by omega)⟩
                rcases ha with ⟨rfl, h0⟩ | rfl
                · exact .inl ⟨rfl, by omega⟩
                · exact .inr rfl)
              have EN := Lib.hid (show stepN 4 q n = m by rw [hm, hd]; simp [stepN, hroom])
              have EH := Lib.hid (show stepH 4 n H = H by simp [stepH])
              have hmc : m ≤ c := by omega
              have HPS := Lib.hid hps
              clear hroom hd hm hps
              go_wp2
              go_meet
              rw [EN.out, EH.out]
              exact ⟨_, _, rfl, congrArg (Value.int .u32) HPS.out, hmc, by unfold maxLen; omega, HR2.out, HB.out⟩
            · have hri : ¬ (q : Int) ≤ (n : Int) := by omega
              have EN := Lib.hid (show stepN 4 q n = n by simp [stepN, hroom])
              have EH := Lib.hid (show stepH 4 n H = H by simp [stepH])
              clear hroom
              go_wp2
              go_meet
              rw [EN.out, EH.out]
              exact ⟨A', c, rfl, rfl, hnc, hcm, HRU.out, HB.out⟩
        · as_aux_lemma =>
            go_wp2
            go_meet
            exact ⟨A', c, rfl, rfl, hnc, hcm, HRU.out, HB.out⟩
      case rest =>
        obtain ⟨A2, c2, rfl, rfl, hnc2, hcm2, hru2, hb2⟩ := hcut
        have hnq2 : stepN k q n ≤ q := stepN_le hnq
        have HDO := Lib.hid (fun w1 g c hc => Do_calls H n q k g c w1 HQ.out hnq hk6 hc)
        generalize stepN k q n = n2 at *
        generalize stepH k n H = H2 at *
        have HRU2 := Lib.hid hru2
        have HB2 := Lib.hid hb2
        clear hru2 hb2
        unfold maxLen at hcm2
        have hX := pk_bd H2 n2
        have htl : ∀ w1, Calls Tryd.prog 26 #[.int .u64 (pk H2 n2)] w1 fun e w' => e = .returned (.int .u32 (pl H2 n2)) ∧ w1 = w' := fun w1 => (Tail_calls _ w1 hX.1 hX.2).mono fun e w' hh => ⟨hh.1.trans (ret_int (pk_tail H2 n2)), hh.2⟩
        have hln : ∀ w1, Calls Tryd.prog 27 #[.int .u64 (pk H2 n2)] w1 fun e w' => e = .returned (.int .u32 n2) ∧ w1 = w' := fun w1 => (Len_calls _ w1 hX.1 hX.2).mono fun e w' hh => ⟨hh.1.trans (ret_int (pk_len H2 n2 (by omega)).symm), hh.2⟩
        have hhd : ∀ w1, Calls Tryd.prog 28 #[.int .u64 (pk H2 n2)] w1 fun e w' => e = .returned (.int .u32 (pl H2 0)) ∧ w1 = w' := fun w1 => (Head_calls _ w1 hX.1 hX.2).mono fun e w' hh => ⟨hh.1.trans (ret_int (pk_head H2 n2)), hh.2⟩
        have HTL := Lib.hid htl
        have HLN := Lib.hid hln
        have HHD := Lib.hid hhd
        clear htl hln hhd hX
        have hback := pl_back H2 n2 (by omega)
        have hpt := pl_bd H2 n2
        obtain ⟨hpt0, hpt1⟩ := hpt
        obtain ⟨fr, hfr⟩ : ∃ fr, fr = x i / 6 % 5 := ⟨_, rfl⟩
        obtain ⟨m, hm⟩ : ∃ m, m = x i / 30 := ⟨_, rfl⟩
        obtain ⟨lo, hlo⟩ : ∃ lo, lo = min fr n2 := ⟨_, rfl⟩
        obtain ⟨hi2, hhi⟩ : ∃ hi2, hi2 = min n2 (lo + m) := ⟨_, rfl⟩
        obtain ⟨d, hd⟩ : ∃ d, d = hi2 - lo := ⟨_, rfl⟩
        have hfri : ((x i : Nat) : Int) / 6 % 5 = (fr : Int) := by omega
        have hmi : ((x i : Nat) : Int) / 30 = (m : Int) := by omega
        have hloi : min (fr : Int) (n2 : Int) = (lo : Int) := by omega
        have hhii : min (n2 : Int) ((lo : Int) + (m : Int)) = (hi2 : Int) := by omega
        have hfr5 : fr < 5 := by omega
        have hm9 : m < 9 := by omega
        have hdm : d = min m (n2 - fr) := by omega
        have hlo1 : lo ≤ fr := by omega
        have hlo2 : lo ≤ n2 := by omega
        have hhi1 : lo ≤ hi2 := by omega
        have hhi2 : hi2 ≤ n2 := by omega
        have hsl := slice_lh A2 n2 c2 lo hi2 d hhi1 hhi2 hnc2 hd.symm
        have HD := Lib.hid hd
        have HDM := Lib.hid hdm
        have HLO := Lib.hid hlo
        have HHI := Lib.hid hhi
        clear hfr hm hlo hhi hd hdm
        go_upto_region 22 with (first
          | (go_at_call 25; refine (HDO.out _ _ _ (by simp)).mono ?_; rintro e w1 ⟨rfl, hb1⟩; have HB3 := Lib.hid (below_then (below_then HB2.out HB2.out.size ((Below.refl _ _).alloc (Nat.le_refl _) _)) (by have := HB2.out.size; simp; omega) hb1); have HR3 := Lib.hid ((HRU2.out.below ((Below.refl _ _).alloc (Nat.le_refl _) _)).below hb1); clear hb1)
          | (go_at_call 26; refine (HTL.out _).mono ?_; rintro e w' ⟨rfl, rfl⟩)
          | (go_at_call 27; refine (HLN.out _).mono ?_; rintro e w' ⟨rfl, rfl⟩)
          | (go_at_call 28; refine (HHD.out _).mono ?_; rintro e w' ⟨rfl, rfl⟩))
        clear HB2 HRU2 HDO
        go_upto_region 24 with fail
        rw [hfri]
        have HSL := Lib.hid (fun (w2 : World) (hb : Below w1.heap.size w1 w2) => show RU w2 (adv A2 c2 lo) d (H2 + fr) from by
          have h1 := (HR3.out.below hb).part (c := c2) hhi1 hhi2 hnc2
          rw [← HD.out] at h1
          obtain ⟨b', o', ha, hcc⟩ := h1
          refine ⟨b', o', ha, fun j hj => ?_⟩
          have e : fr = lo := by have := HLO.out; have := HD.out; have := HHI.out; omega
          rw [e]
          exact hcc j hj)
        have HPLC := Lib.hid (fun (w2 : World) => (Places_calls H2 n2 fr m (by omega) (by omega) (by omega) w2).mono fun e w' (h : GivesRow w2 (H2 + fr) (min m (n2 - fr)) e w') => show Gives2 w2 (H2 + fr) d e w' by
          obtain ⟨A, k, c, he, hk, h1, h2, h3, h4⟩ := h
          rw [← HDM.out] at hk
          subst hk
          exact ⟨A, c, he, h1, h2, h3, h4⟩)
        obtain ⟨ol, hol⟩ : ∃ ol : Nat, ol = n2 - n2 / 2 := ⟨_, rfl⟩
        have hol1 : (n2 : Int) - (n2 : Int) / 2 = (ol : Int) := by omega
        have hol2 : ((n2 : Int) + 1) / 2 = (ol : Int) := by omega
        have hol3 : ((n2 : Int) + 1).tdiv 2 = (ol : Int) := by rw [Int.tdiv_eq_ediv_of_nonneg (by omega)]; exact hol2
        have hw1 : IntKind.i64.wrap ((lo : Int) + (m : Int)) = (lo : Int) + (m : Int) := IntWalk.i64_in _ (by omega)
        have hw2 : IntKind.i64.wrap ((n2 : Int) + 1) = (n2 : Int) + 1 := IntWalk.i64_in _ (by omega)
        have hw3 : IntKind.u32.wrap (fr : Int) = (fr : Int) := by rw [IntKind.wrap_u32]; omega
        have hw4 : IntKind.u32.wrap (m : Int) = (m : Int) := by rw [IntKind.wrap_u32]; omega
        have hw5 : IntKind.u32.wrap (n2 : Int) = (n2 : Int) := by rw [IntKind.wrap_u32]; omega
        have hw6 : IntKind.i64.wrap (ol : Int) = (ol : Int) := IntWalk.i64_in _ (by omega)
        have hd64 : d ≤ 64 := by have := HD.out; omega
        have hn64 : n2 ≤ 64 := by omega
        have holr : ol ≤ 64 := by omega
        clear hol HRU
        go_cut [150] (fun v150 wx => v150 = .bool false ∧ Below w1.heap.size w1 wx)
        case first =>
          as_aux_lemma =>
            go_region_held3 (fun w' => True) (trivial)
             (first
              | (go_at_call 30; (with_reducible refine (HPLC.out _).mono ?_); rintro e w2 ⟨A3, c3, rfl, hkc3, hcm3, hru3, hb2⟩)
              | (go_at_call 29; refine (Equal_calls _ _ d _ _ (H2 + fr) _ hru3 (HSL.out _ (((Below.refl w1.heap.size w1).drew).trans hb2)) hd64).mono ?_; rintro e w3 ⟨rfl, q3, rfl⟩)
              | (go_at_call 31; refine (Older_calls n2 _ (by omega) (by omega)).mono ?_; rintro e w' ⟨rfl, rfl⟩))
            all_goals
              go_wp2_with fail
              go_meet
              exact ⟨rfl, below_drewN (((Below.refl w1.heap.size w1).drew).trans hb2) q3⟩
        case rest =>
          obtain ⟨rfl, hb3⟩ := hcut
          have HB4 := Lib.hid (below_then HB3.out HB3.out.size hb3)
          have HR4 := Lib.hid (HR3.out.below hb3)
          obtain ⟨S0, S1, hTX⟩ := texts_of H2 n2
          have hz0 := hTX.z0
          have hz1 := hTX.z1
          have HTX := Lib.hid hTX
          have HTB := Lib.hid (tab_later HT.out HB4.out)
          have hp0 := pl_bd H2 0
          obtain ⟨hp00, hp01⟩ := hp0
          clear hb3 HB3 HR3 HSL HPLC hol1 hol2 hol3 hw1 hw2 hw3 hw4 hw5 hw6 hsl HLO HHI HD HDM hTX
          go_upto_region 28 with (first
            | (go_at_call 32; refine (HTX.out.all _ HTB.out).mono ?_; rintro e w3 ⟨rfl, hb5⟩; have HB5 := Lib.hid hb5; clear hb5)
            | (go_at_call 33; refine (HTX.out.one _ (tab_later HTB.out HB5.out)).mono ?_; rintro e w4 ⟨rfl, hb6⟩; have HB6 := Lib.hid (HB5.out.trans (hb6.mono HB5.out.size)); clear hb6)
            | (go_at_call 33; refine (HTX.out.two _ (tab_later HTB.out HB6.out)).mono ?_; rintro e w5 ⟨rfl, hb7⟩; have HB7 := Lib.hid (HB6.out.trans (hb7.mono HB6.out.size)); clear hb7)
            | (go_at_call 34; refine (HasT_calls H2 n2 (by omega) _).mono ?_; rintro e w' ⟨rfl, rfl⟩))
          have HR5 := Lib.hid (HR4.out.below HB7.out)
          have HB8 := Lib.hid (below_then HB4.out HB4.out.size HB7.out)
          clear HB5 HB6 HB7 HB4 HR4 HTX HTB hback hfri hmi hloi hhii hfr5 hm9 hlo1 hlo2 hhi1 hhi2 hz0 hz1 hd64 holr hp00 hp01 hpt0 hpt1
          go_wp2
          go_loopg [17, 18, 173] n2 (fun g2 v17 v18 v173 wy => ∃ j : Nat, j + g2 = n2 ∧ v173 = .int .i64 j ∧ Below w5.heap.size w5 wy)
          case atStart => exact ⟨0, by omega, rfl, Below.refl _ _⟩
          case round =>
            rename World => wy
            obtain ⟨j, hj, rfl, hby⟩ := hrel
            have HBY := Lib.hid hby
            clear hby
            cases gk with
            | zero =>
              have hge : ¬ ((j : Int) < (n2 : Int)) := by omega
              go_wp2
              go_roundg gh
              case measure => omega
              case rel => exact ⟨i + 1, H2, n2, A2, c2, by omega, by go_num, rfl, rfl, rfl, hnq2, hnc2, by unfold maxLen; omega, HR5.out.below HBY.out, below_then HB8.out HB8.out.size HBY.out⟩
            | succ g2 =>
              have hltj : (j : Int) < (n2 : Int) := by omega
              have hjn : j < n2 := by omega
              obtain ⟨b2, o2, rfl, hcc⟩ := HR5.out.some (by omega)
              have hcj := cell_below HBY.out (hcc j hjn)
              have hpj := pl_bd H2 j
              obtain ⟨hpj0, hpj1⟩ := hpj
              have HHI := Lib.hid (fun w1 => HasI_calls H2 n2 j (by omega) hjn w1)
              have HSL := Lib.hid (fun w1 => Slot_calls (pl H2 j) q w1 HQ.out hpj0 hpj1)
              have HMD := Lib.hid (show (pl H2 j).tmod (q : Int) = pl H2 j % (q : Int) from Int.tmod_eq_emod_of_nonneg hpj0)
              have hqz : ¬ (q : Int) = 0 := by omega
              by_cases hj0 : j = 0
              · as_aux_lemma =>
                  have hg0 : decide ((0 : Int) < (j : Int)) = false := decide_eq_false (by omega)
                  have hg1 : decide (0 < j) = false := decide_eq_false (by omega)
                  clear hcc hj0
                  go_upto_region 31 with fail
                  go_quiet (first | (go_at_call 34; exact Calls.quiet_of_same ((HHI.out _).mono fun e w' hh => ⟨hh.1, hh.2.symm⟩)) | (go_at_call 35; exact Calls.quiet_of_same ((HSL.out _).mono fun e w' hh => ⟨hh.1, hh.2.symm⟩)))
                  go_wp2
                  go_roundg g2
                  case measure => omega
                  case rel => exact ⟨j + 1, by omega, by go_num, below_drewN HBY.out _⟩
              · as_aux_lemma =>
                  obtain ⟨jj, hjj⟩ : ∃ jj, jj = j - 1 := ⟨_, rfl⟩
                  have HCP := Lib.hid (cell_below HBY.out (hcc jj (by omega)))
                  have hw1 : IntKind.i64.wrap ((j : Int) - 1) = (jj : Int) := by rw [IntWalk.i64_in _ (by omega)]; omega
                  have hg0 : decide ((0 : Int) < (j : Int)) = true := decide_eq_true (by omega)
                  have hg1 : decide (0 < j) = true := decide_eq_true (by omega)
                  have hpp := pl_bd H2 jj
                  obtain ⟨hpp0, hpp1⟩ := hpp
                  have hw2 : IntKind.u32.wrap (pl H2 jj + 1) = pl H2 j := by rw [IntKind.wrap_u32]; exact (pl_next H2 jj).trans (by rw [show jj + 1 = j by omega])
                  have HW1 := Lib.hid hw1
                  have HW2 := Lib.hid hw2
                  have hjlt : (jj : Int) < (n2 : Int) := by omega
                  have hjge : (0 : Int) ≤ (jj : Int) := by omega
                  have hjlt' : jj < n2 := by omega
                  clear hcc hj0 hjj hw1 hw2
                  go_upto_region 31 with fail
                  have hcp := HCP.out
                  have hw1 := HW1.out
                  have hw2 := HW2.out
                  go_quiet (first | (go_at_call 34; exact Calls.quiet_of_same ((HHI.out _).mono fun e w' hh => ⟨hh.1, hh.2.symm⟩)) | (go_at_call 35; exact Calls.quiet_of_same ((HSL.out _).mono fun e w' hh => ⟨hh.1, hh.2.symm⟩)))
                  go_wp2
                  go_roundg g2
                  case measure => omega
                  case rel => exact ⟨j + 1, by omega, by go_num, below_drewN HBY.out _⟩
end Go.Proofs.YtaaegjfkappahaaDoor
