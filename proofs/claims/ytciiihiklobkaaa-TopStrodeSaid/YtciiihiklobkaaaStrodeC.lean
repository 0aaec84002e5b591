/-
  strode: the law's body, in parts.
-/
import Derived.Test.YtciiihiklobkaaaStrodeB
import Derived.Test.YtciiihiklobkaaaStrodeD
import Derived.Deep.CutBlock
namespace Go.Proofs.Ytciiihiklobkaaa.Strode
open Go.RowKit
set_option linter.unusedVariables false
set_option linter.unusedSimpArgs false

def okB (n k j : Nat) : Bool := (List.range (j + 1)).all fun d => decide (d < 2) || !(n % d == 0) || !(k % d == 0)
theorem okB_self (n k : Nat) : okB n k k = okN n k := rfl
theorem okB_one (n k : Nat) : okB n k 1 = true := by unfold okB; simp [List.range_succ]
theorem okB_succ (n k j : Nat) (h : 1 ≤ j) : okB n k (j + 1) = (okB n k j && (!(k % (j + 1) == 0) || !(n % (j + 1) == 0))) := by
  unfold okB
  rw [List.range_succ, List.all_append]
  congr 1
  simp only [List.all_cons, List.all_nil, Bool.and_true]
  rw [show decide (j + 1 < 2) = false from by simp; omega, Bool.false_or, Bool.or_comm]

/-- A slice of bytes that is read. -/
def RB (w : World) (A : Option Addr) (n : Nat) (bs : List Int) : Prop :=
  bs.length = n ∧ (0 < n → ∃ ad, A = some ad ∧ ∀ j, j < n → w.cell? (ad.add j) = some (.int .u8 (rd bs j)) ∧ 0 ≤ rd bs j ∧ rd bs j ≤ 255)
theorem RB.below {w w1 : World} {A : Option Addr} {n : Nat} {xs : List Int} (h : RB w A n xs) (hb : Below w.heap.size w w1) : RB w1 A n xs :=
  ⟨h.1, fun hn => by
    obtain ⟨ad, e, hc⟩ := h.2 hn
    exact ⟨ad, e, fun j hj => ⟨cell_below hb (hc j hj).1, (hc j hj).2⟩⟩⟩
theorem RB.at_ {w : World} {A : Option Addr} {n : Nat} {xs : List Int} (h : RB w A n xs) (i : Nat) (h1 : i < n) : ∃ ad, A = some ad ∧ w.cell? (ad.add i) = some (.int .u8 (rd xs i)) ∧ 0 ≤ rd xs i ∧ rd xs i ≤ 255 := by
  obtain ⟨ad, e, hc⟩ := h.2 (by omega)
  exact ⟨ad, e, hc _ h1⟩
theorem mod_ne (a b : Nat) : ((a : Int) % (b : Int) != 0) = !(a % b == 0) := by
  rw [Bool.eq_iff_iff]
  simp only [bne_iff_ne, ne_eq, Bool.not_eq_true', beq_eq_false_iff_ne]
  constructor
  · intro h h2; exact h (by exact_mod_cast h2)
  · intro h h2; exact h (by exact_mod_cast h2)

/-- What is left out, by hand. -/
def lessI (bs : List Int) : List Int := bs.map fun x => x % 80 - 8
theorem lessI_take {bs : List Int} {k : Nat} (h : k < bs.length) : lessI (bs.take (k + 1)) = lessI (bs.take k) ++ [rd bs k % 80 - 8] := by
  unfold lessI
  rw [take_rd h, List.map_append]
  rfl
def restI (xs less : List Int) : List Int := xs.filter fun x => !isIn less x
theorem restI_yes {xs less : List Int} {k : Nat} (h : k < xs.length) (hi : isIn less (rd xs k) = false) : restI (xs.take (k + 1)) less = restI (xs.take k) less ++ [rd xs k] := by
  unfold restI
  rw [take_rd h, List.filter_append]
  simp [hi]
theorem restI_no {xs less : List Int} {k : Nat} (h : k < xs.length) (hi : isIn less (rd xs k) = true) : restI (xs.take (k + 1)) less = restI (xs.take k) less := by
  unfold restI
  rw [take_rd h, List.filter_append]
  simp [hi]
theorem restI_le (xs less : List Int) : (restI xs less).length ≤ xs.length := List.length_filter_le _ _
theorem own_slice {w : World} {base n : Nat} {e : TypeId} {size : Nat} {v : Value} {xs : List Value} (h : w.ownsRow base e size v n xs) : ∃ A c, v = .slice A n c := by
  rcases h.2 with ⟨rfl, rfl⟩ | ⟨g, cap, cur, rfl, _⟩
  · exact ⟨none, 0, rfl⟩
  · exact ⟨_, cap, rfl⟩
theorem place_eq (n start step k p : Nat) (hp : k * step = p) : ((start : Int) + (p : Int)) % (n : Int) = (place n start step k : Int) := by
  unfold place
  rw [hp]
  exact_mod_cast rfl

set_option maxHeartbeats 4000000 in
set_option maxRecDepth 1000000 in
theorem strode_calls (n : Nat) (draw r : Int) (at' start q : Nat) (h1 : 1 ≤ n) (h64 : n ≤ 64) (hd1 : -32768 ≤ draw) (hd2 : draw ≤ 32767)
    (hr : draw.tmod (ordersN n) = r) (hr1 : -4096 ≤ r) (hr2 : r ≤ 4096) (hr3 : 0 ≤ r + (ordersN n : Int)) (hs : (r + (ordersN n : Int)) % (ordersN n : Int) = at') (h0 : 0 < ordersN n)
    (hst : (at' : Int) % (n : Int) = start) (hq : (at' : Int) / (n : Int) = q) (hqs : q < (strides n).length) (step : Nat) (hstep : rd (strides n) q = step) (hstepl : (step : Int) ≤ 64)
    (hidx : idxFrom (strides n) step (strides n).length 0 = q) (hback : q * n + start = at') (hco : Nat.Coprime step n)
    (AW : Option Addr) (len cw : Nat) (bs : List Int) (w : World) (hbs : RB w AW len bs) (hlen : len ≤ 20) :
    Calls Try.prog 11 #[.int .i64 n, .int .i64 draw, .slice AW len cw] w fun e w' => e = .returned (.bool true) ∧ Below w.heap.size w w' := by
  have HBS := Lib.hid hbs
  have HO45 := Lib.hid (Order_calls n draw r at' start q h1 h64 hd1 hd2 hr hr1 hr2 hr3 hs h0 hst hq hqs step hstep hstepl)
  have HO46 := Lib.hid (Others_calls n draw r at' start q h1 h64 hd1 hd2 hr hr1 hr2 hr3 hs h0 hst hq hqs step hstep hstepl)
  have hstn : start < n := by have := Int.emod_lt_of_pos (at' : Int) (b := (n : Int)) (by omega); omega
  have HIDX := Lib.hid hidx
  have HBACK := Lib.hid hback
  clear hbs hidx hback
  go_enter Try.func11, Try.ntmps11
  go_upto_block 0 with fail
  go_cut [7] (fun v7 wx => ∃ A c, v7 = .slice A (strides n).length c ∧ wx.ownsRow w.heap.size 3 1 v7 (strides n).length (ints (strides n)) ∧ Below w.heap.size w wx)
  case first =>
    go_wp2
    go_loopg [7, 8] n (fun g v i wr => ∃ k : Nat, k + g = n ∧ i = .int .i64 ((k : Int) + 1) ∧ wr.ownsRow w.heap.size 3 1 v (stridesTo n k).length (ints (stridesTo n k)) ∧ Below w.heap.size w wr)
    case atStart => exact ⟨0, by omega, rfl, World.ownsRow_nil _ _ _ _, Below.refl _ _⟩
    case round =>
      obtain ⟨k, hk, rfl, hown, hb⟩ := hrel
      have HO := Lib.hid hown
      have HB := Lib.hid hb
      clear hown hb
      cases gk with
      | zero =>
        have hge : ¬ (((k : Int) + 1) ≤ (n : Int)) := by omega
        have hkn : k = n := by omega
        have HK := Lib.hid hkn
        clear hkn
        go_wp2
        go_meet
        have h := HO.out
        rw [HK.out] at h
        obtain ⟨A', c', e, _⟩ := own_RI h
        exact ⟨A', c', e, h, HB.out⟩
      | succ g =>
        have hlt : ((k : Int) + 1) ≤ (n : Int) := by omega
        have hk64 : k < 64 := by omega
        go_wp2
        go_loopg [9, 10] k (fun g2 b i wy => ∃ j : Nat, j + g2 = k ∧ i = .int .i64 ((j : Int) + 2) ∧ b = .bool (okB n (k + 1) (j + 1)) ∧ wr = wy)
        case atStart => exact ⟨0, by omega, rfl, by rw [okB_one], rfl⟩
        case round =>
          obtain ⟨j, hj, rfl, rfl, rfl⟩ := hrel
          cases gk with
          | zero =>
            have hge : ¬ (((j : Int) + 2) ≤ ((k : Int) + 1)) := by omega
            have hjk : j = k := by omega
            subst hjk
            cases hok : okB n (j + 1) (j + 1) with
            | true =>
              go_wp2_with (at_builtin; refine wpList_app1 rfl _ _ rfl wr w.heap.size _ _ _ _ HO.out rfl rfl ?b1 HB.out.size ?_)
              case b1 => have := stridesTo_le n j; omega
              intro v' w' hown hgr
              have hb := below_app HB.out (Nat.le_refl _) HB.out.size HO.out hgr
              have hown2 : w'.ownsRow w.heap.size 3 1 v' (stridesTo n (j + 1)).length (ints (stridesTo n (j + 1))) := by
                rw [stridesTo_yes hok, List.length_append]; exact hown
              have HO2 := Lib.hid hown2
              have HB2 := Lib.hid hb
              clear hown hown2 hb hgr hok
              go_wp2
              go_roundg g
              case measure => omega
              case rel => exact ⟨j + 1, by omega, by go_num, HO2.out, HB2.out⟩
            | false =>
              go_wp2
              go_roundg g
              case measure => omega
              case rel => exact ⟨j + 1, by omega, by go_num, by rw [stridesTo_no hok]; exact HO.out, HB.out⟩
          | succ g2 =>
            have hltj : ((j : Int) + 2) ≤ ((k : Int) + 1) := by omega
            have hs := okB_succ n (k + 1) (j + 1) (by omega)
            cases hok : okB n (k + 1) (j + 1) with
            | false =>
              rw [hok, Bool.false_and] at hs
              have HS := Lib.hid hs
              clear hs
              go_wp2
              go_roundg g2
              case measure => omega
              case rel => exact ⟨j + 1, by omega, by go_num, by rw [HS.out], rfl⟩
            | true =>
              rw [hok, Bool.true_and] at hs
              have e2 := mod_ne (k + 1) (j + 1 + 1)
              have e1 := mod_ne n (j + 1 + 1)
              rw [show ((k + 1 : Nat) : Int) = (k : Int) + 1 from rfl, show ((j + 1 + 1 : Nat) : Int) = (j : Int) + 2 from by omega] at e2
              rw [show ((j + 1 + 1 : Nat) : Int) = (j : Int) + 2 from by omega] at e1
              generalize (n % (j + 1 + 1) == 0) = bn at e1 hs
              generalize ((k + 1) % (j + 1 + 1) == 0) = bk at e2 hs
              have HS := Lib.hid hs
              clear hs
              cases bk
              · rw [Bool.not_false] at e2
                clear e1
                go_wp2
                go_roundg g2
                case measure => omega
                case rel => exact ⟨j + 1, by omega, by go_num, by rw [HS.out]; rfl, rfl⟩
              · rw [Bool.not_true] at e2
                cases bn
                · rw [Bool.not_false] at e1
                  go_wp2
                  go_roundg g2
                  case measure => omega
                  case rel => exact ⟨j + 1, by omega, by go_num, by rw [HS.out]; rfl, rfl⟩
                · rw [Bool.not_true] at e1
                  go_wp2
                  go_roundg g2
                  case measure => omega
                  case rel => exact ⟨j + 1, by omega, by go_num, by rw [HS.out]; rfl, rfl⟩
  case rest =>
    obtain ⟨A7, c7, rfl, hown, hb⟩ := hcut
    obtain ⟨A7', c7', e7, hc7, hr7⟩ := own_RI hown
    cases e7
    have HB := Lib.hid hb
    have HR := Lib.hid hr7
    clear hown hb hr7 hc7
    have hl := ordersN_le h64
    have hm : (n : Int) * ((strides n).length : Int) = ((ordersN n : Nat) : Int) := by simp [ordersN]
    have hb0 : ((ordersN n : Int) == 0) = false := by simp; omega
    have hn0 : ((n : Int) == 0) = false := by simp; omega
    have hneq : (((ordersN n : Nat) : Int) != ((ordersN n : Nat) : Int)) = false := by simp
    go_wp2_with fail
    refine (Strides_calls n h1 h64 _).mono ?_
    rintro e w1 ⟨v, rfl, hown, hb⟩
    obtain ⟨A, c, rfl, hc, hri⟩ := own_RI hown
    have HB1 := Lib.hid hb
    have HR1 := Lib.hid hri
    clear hown hri hb hc
    go_wp2_with fail
    refine (Equal_calls _ _ _ _ _ _ _ _ _ HR1.out (HR.out.below HB1.out)).mono ?_
    rintro e w2 ⟨rfl, m, rfl⟩
    rw [show eqI (strides n) (strides n) = true from (eqI_iff _ _).2 rfl]
    have HB2 := Lib.hid (below_drewN HB1.out m)
    clear HB1 HR1
    go_wp2_with fail
    refine (Orders_calls n h1 h64 _).mono ?_
    rintro e w3 ⟨rfl, hb3⟩
    have HB3 := Lib.hid (below_then HB.out HB.out.size (below_then HB2.out HB2.out.size hb3))
    have HR3 := Lib.hid (HR.out.below (below_then HB2.out HB2.out.size hb3))
    clear HB2 hb3 HB HR
    go_upto_region 16 with fail
    rw [hs]
    have hst2 : (at' : Int).tmod (n : Int) = start := by rw [Int.tmod_eq_emod_of_nonneg (by omega)]; exact hst
    have hq2 : (at' : Int).tdiv (n : Int) = q := by rw [Int.tdiv_eq_ediv_of_nonneg (by omega)]; exact hq
    have hwq : IntKind.i64.wrap (q : Int) = q := IntWalk.i64_in _ (by have := stridesN_le n; rw [strides_len] at hqs; omega)
    have hq0 : 0 ≤ (q : Int) := by omega
    have hqlt : (q : Int) < ((strides n).length : Int) := by omega
    go_cut [13, 14] (fun s13 s14 wx => s13 = .int .i64 start ∧ s14 = .int .i64 step ∧ ∃ m, wx = w3.drewN m)
    case first =>
      obtain ⟨ad, rfl, hcell⟩ := HR3.out.at_ q hqs
      rw [hstep] at hcell
      clear hs
      go_quiet (fail)
      go_wp2_with fail
      go_meet
      exact ⟨rfl, rfl, _, rfl⟩
    case rest =>
      obtain ⟨rfl, rfl, m4, rfl⟩ := hcut
      have HB4 := Lib.hid (below_drewN HB3.out m4)
      clear hst2 hq2 hwq hq0 hqlt hs hst hq hstep hr hneq hm HR3 HB3 hb0
      go_upto_block 4 with fail
      go_cut [15] (fun v15 wx => ∃ A c, v15 = .slice A n c ∧ wx.ownsRow w.heap.size 3 1 v15 n (ints (due n start step)) ∧ Below w.heap.size w wx)
      case first =>
        go_wp2
        go_loopg [15, 90] n (fun g v i wr => ∃ k : Nat, k + g = n ∧ i = .int .i64 k ∧ wr.ownsRow w.heap.size 3 1 v k (ints (dueTo n start step k)) ∧ Below w.heap.size w wr)
        case atStart => exact ⟨0, by omega, rfl, World.ownsRow_nil _ _ _ _, HB4.out⟩
        case round =>
          obtain ⟨k, hk, rfl, hown, hb⟩ := hrel
          have HO := Lib.hid hown
          have HB := Lib.hid hb
          clear hown hb
          cases gk with
          | zero =>
            have hge : ¬ ((k : Int) < (n : Int)) := by omega
            have hkn : k = n := by omega
            have HK := Lib.hid hkn
            clear hkn
            go_wp2
            go_meet
            have h := HO.out
            rw [HK.out] at h
            obtain ⟨A', c', e⟩ := own_slice h
            exact ⟨A', c', e, h, HB.out⟩
          | succ g =>
            have hlt : (k : Int) < (n : Int) := by omega
            have hk64 : k < 64 := by omega
            obtain ⟨pp, hpp⟩ : ∃ pp, k * step = pp := ⟨_, rfl⟩
            have hpl := place_eq n start step k pp hpp
            have hmul : (k : Int) * (step : Int) = (pp : Int) := by rw [← hpp]; simp
            have hppl : pp ≤ 4096 := by rw [← hpp]; exact Nat.le_trans (Nat.mul_le_mul (Nat.le_of_lt hk64) (by omega : step ≤ 64)) (Nat.le_refl _)
            clear hpp
            go_wp2_with (at_builtin; refine wpList_app1 rfl _ _ rfl wr w.heap.size _ _ _ _ HO.out rfl rfl ?b1 HB.out.size ?_)
            case b1 => omega
            intro v' w' hown hgr
            have hb := below_app HB.out (Nat.le_refl _) HB.out.size HO.out hgr
            rw [← dueTo_succ] at hown
            have HO2 := Lib.hid hown
            have HB2 := Lib.hid hb
            clear hown hb hgr
            go_wp2
            go_roundg g
            case measure => omega
            case rel => exact ⟨k + 1, by omega, by go_num, HO2.out, HB2.out⟩
      case rest =>
        obtain ⟨A15, c15, rfl, hown, hb⟩ := hcut
        have HO15 := Lib.hid hown
        have HB5 := Lib.hid hb
        clear hown hb HB4
        go_upto_block 6 with fail
        go_cut [18] (fun v18 wx => ∃ A c, v18 = .slice A len c ∧ wx.ownsRow wc.heap.size 3 1 v18 len (ints (lessI bs)) ∧ Below wc.heap.size wc wx)
        case first =>
          go_wp2
          go_loopg [18, 106] len (fun g v i wr => ∃ k : Nat, k + g = len ∧ i = .int .i64 k ∧ wr.ownsRow wc.heap.size 3 1 v k (ints (lessI (bs.take k))) ∧ Below wc.heap.size wc wr)
          case atStart => exact ⟨0, by omega, rfl, World.ownsRow_nil _ _ _ _, Below.refl _ _⟩
          case round =>
            obtain ⟨k, hk, rfl, hown, hb⟩ := hrel
            have HO := Lib.hid hown
            have HB := Lib.hid hb
            clear hown hb
            cases gk with
            | zero =>
              have hge : ¬ ((k : Int) < (len : Int)) := by omega
              have hkn : k = len := by omega
              have HK := Lib.hid hkn
              clear hkn
              go_wp2
              go_meet
              have h := HO.out
              rw [HK.out, List.take_of_length_le (by rw [HBS.out.1]; exact Nat.le_refl _)] at h
              obtain ⟨A', c', e⟩ := own_slice h
              exact ⟨A', c', e, h, HB.out⟩
            | succ g =>
              have hlt : (k : Int) < (len : Int) := by omega
              obtain ⟨ad, rfl, hcell, hx0, hx1⟩ := ((HBS.out.below HB5.out).below HB.out).at_ k (by omega)
              go_wp2_with (at_builtin; refine wpList_app1 rfl _ _ rfl wr wc.heap.size _ _ _ _ HO.out rfl rfl ?b1 HB.out.size ?_)
              case b1 => omega
              intro v' w' hown hgr
              have hb := below_app HB.out (Nat.le_refl _) HB.out.size HO.out hgr
              rw [← lessI_take (by rw [HBS.out.1]; omega)] at hown
              have HO2 := Lib.hid hown
              have HB2 := Lib.hid hb
              clear hown hb hgr
              go_wp2
              go_roundg g
              case measure => omega
              case rel => exact ⟨k + 1, by omega, by go_num, HO2.out, HB2.out⟩
        case rest =>
          rename_i wd
          obtain ⟨A18, c18, rfl, hown, hb⟩ := hcut
          obtain ⟨A', c', e', hc', hr18⟩ := own_RI hown
          cases e'
          obtain ⟨A', c', e', hc'', hr15⟩ := own_RI (own_below HO15.out hb)
          cases e'
          have HR18 := Lib.hid hr18
          have HR15 := Lib.hid hr15
          have HB6 := Lib.hid (below_then HB5.out HB5.out.size hb)
          clear hown hb hr18 hr15 hc' hc'' HO15 HB5 HBS
          have hdl := due_length n start step
          have HDL := Lib.hid hdl
          clear hdl
          go_upto_block 8 with fail
          go_cut [16] (fun v16 wx => ∃ A c, v16 = .slice A (restI (due n start step) (lessI bs)).length c ∧ wx.ownsRow wc.heap.size 3 1 v16 (restI (due n start step) (lessI bs)).length (ints (restI (due n start step) (lessI bs))) ∧ Below wc.heap.size wc wx)
          case first =>
            go_wp2
            go_loopg [16, 120] n (fun g v i wr => ∃ k : Nat, k + g = n ∧ i = .int .i64 k ∧ wr.ownsRow wc.heap.size 3 1 v (restI ((due n start step).take k) (lessI bs)).length (ints (restI ((due n start step).take k) (lessI bs))) ∧ Below wc.heap.size wc wr)
            case atStart => exact ⟨0, by omega, rfl, World.ownsRow_nil _ _ _ _, Below.refl _ _⟩
            case round =>
              obtain ⟨k, hk, rfl, hown, hb⟩ := hrel
              have HO := Lib.hid hown
              have HB := Lib.hid hb
              clear hown hb
              cases gk with
              | zero =>
                have hge : ¬ ((k : Int) < (n : Int)) := by omega
                have hkn : k = n := by omega
                have HK := Lib.hid hkn
                clear hkn
                go_wp2
                go_meet
                have h := HO.out
                rw [HK.out, List.take_of_length_le (by rw [HDL.out]; exact Nat.le_refl _)] at h
                obtain ⟨A', c', e⟩ := own_slice h
                exact ⟨A', c', e, h, HB.out⟩
              | succ g =>
                have hlt : (k : Int) < (n : Int) := by omega
                have hkn : k < n := by omega
                obtain ⟨ad, rfl, hcell⟩ := (HR15.out.below HB.out).at_ k hkn
                have hle : (restI ((due n start step).take k) (lessI bs)).length ≤ k := Nat.le_trans (restI_le _ _) (List.length_take_le _ _)
                go_wp2_with fail
                refine (Contains_calls _ _ _ _ _ _ (HR18.out.below HB.out)).mono ?_
                rintro e w' ⟨rfl, q2, rfl⟩
                cases hin : isIn (lessI bs) (rd (due n start step) k) with
                | true =>
                  have hin2 : decide (0 ≤ idxFrom (lessI bs) (rd (due n start step) k) len 0) = true := by
                    rw [← hin]; unfold isIn; rw [HR18.out.1]
                  rw [hin2]
                  have HIN := Lib.hid hin
                  clear hin hin2
                  go_wp2
                  go_roundg g
                  case measure => omega
                  case rel => exact ⟨k + 1, by omega, by go_num, by rw [restI_no (by rw [HDL.out]; exact hkn) HIN.out]; exact HO.out, below_drewN HB.out q2⟩
                | false =>
                  have hin2 : decide (0 ≤ idxFrom (lessI bs) (rd (due n start step) k) len 0) = false := by
                    rw [← hin]; unfold isIn; rw [HR18.out.1]
                  rw [hin2]
                  have HIN := Lib.hid hin
                  clear hin hin2
                  go_wp2_with (at_builtin; refine wpList_app1 rfl _ _ rfl (wr.drewN q2) wc.heap.size _ _ _ _ HO.out rfl rfl ?b1 HB.out.size ?_)
                  case b1 => omega
                  intro v' w' hown hgr
                  have hb := below_app (below_drewN HB.out q2) (Nat.le_refl _) HB.out.size (w := wr.drewN q2) HO.out hgr
                  have hown2 : w'.ownsRow wc.heap.size 3 1 v' (restI ((due n start step).take (k + 1)) (lessI bs)).length (ints (restI ((due n start step).take (k + 1)) (lessI bs))) := by
                    rw [restI_yes (by rw [HDL.out]; exact hkn) HIN.out, List.length_append]; exact hown
                  have HO2 := Lib.hid hown2
                  have HB2 := Lib.hid hb
                  clear hown hown2 hb hgr
                  go_wp2
                  go_roundg g
                  case measure => omega
                  case rel => exact ⟨k + 1, by omega, by go_num, HO2.out, HB2.out⟩
          case rest =>
            obtain ⟨A16, c16, rfl, hown, hb⟩ := hcut
            obtain ⟨A', c', e', hc', hr16⟩ := own_RI hown
            cases e'
            have HR16 := Lib.hid hr16
            have HR15b := Lib.hid (HR15.out.below hb)
            have HR18b := Lib.hid (HR18.out.below hb)
            have HB7 := Lib.hid (below_then HB6.out HB6.out.size hb)
            clear hown hb hr16 hc' HR15 HR18 HB6
            go_wp2_with fail
            refine (Clone_calls _ _ _ _ _ HR15b.out (by omega)).mono ?_
            rintro e w5 ⟨v, rfl, hown, hb⟩
            have hsort := Sort_calls hown h1 (by omega)
            obtain ⟨Av, cv, rfl⟩ := own_slice hown
            have HSORT := Lib.hid hsort
            have HOV := Lib.hid hown
            have HBV := Lib.hid hb
            clear hown hb hsort
            go_wp2_with fail
            refine HSORT.out.mono ?_
            rintro e w6 ⟨rfl, hown, hgr⟩
            have hb67 : Below wc.heap.size wc w6 := HBV.out.trans ((Below.refl _ _).grown hgr HBV.out.size (fun k hk => (HOV.out.lt k hk).1))
            obtain ⟨A', c', e', hc', hrv⟩ := own_RI hown
            cases e'
            have HRV := Lib.hid hrv
            have HR15c := Lib.hid (HR15b.out.below hb67)
            have HR16c := Lib.hid (HR16.out.below hb67)
            have HR18c := Lib.hid (HR18b.out.below hb67)
            have HB8 := Lib.hid (below_then HB7.out HB7.out.size hb67)
            clear hown hb67 hgr hrv hc' HR15b HR16 HR18b HSORT HOV HBV HB7
            go_upto_block 10 with fail
            go_cut [6] (fun v6 wx => wx = w6)
            case first =>
              go_wp2
              go_loopg [139] n (fun g i wr => ∃ k : Nat, k + g = n ∧ i = .int .i64 k ∧ wr = w6)
              case atStart => exact ⟨0, by omega, rfl, rfl⟩
              case round =>
                obtain ⟨k, hk, rfl, rfl⟩ := hrel
                cases gk with
                | zero =>
                  have hge : ¬ ((k : Int) < (n : Int)) := by omega
                  go_wp2
                  go_meet
                  rfl
                | succ g =>
                  have hlt : (k : Int) < (n : Int) := by omega
                  have hkn : k < n := by omega
                  obtain ⟨ad, rfl, hcell⟩ := HRV.out.at_ k hkn
                  have hsd : rd (sortI (due n start step)) k = (k : Int) := sorted_due h1 hco k hkn
                  rw [hsd] at hcell
                  clear hsd
                  have hkk : ((k : Int) != (k : Int)) = false := by simp
                  go_wp2
                  go_roundg g
                  case measure => omega
                  case rel => exact ⟨k + 1, by omega, by go_num, rfl⟩
            case rest =>
              obtain rfl := hcut
              clear HRV
              go_wp2_with fail
              refine (Draw_calls n start step q h1 h64 HIDX.out hstn _).mono ?_
              rintro e w7 ⟨rfl, hb7⟩
              rw [HBACK.out]
              have HB9 := Lib.hid hb7
              clear hb7
              go_wp2_with fail
              refine (Draw_past n step q h1 h64 HIDX.out _).mono ?_
              rintro e w8 ⟨rfl, hb8⟩
              have HB10 := Lib.hid (below_then HB9.out HB9.out.size hb8)
              clear hb8 HB9
              go_wp2_with fail
              refine (HO45.out _).mono ?_
              rintro e w9 ⟨v, rfl, hown, hb9⟩
              obtain ⟨Ao, co, rfl, hco', hro⟩ := own_RI hown
              have HRO := Lib.hid hro
              have HB11 := Lib.hid (below_then HB10.out HB10.out.size hb9)
              clear hown hco' hro hb9 HB10
              go_wp2_with fail
              refine (Equal_calls _ _ _ _ _ _ _ _ _ HRO.out (HR15c.out.below HB11.out)).mono ?_
              rintro e w10 ⟨rfl, m10, rfl⟩
              rw [show eqI (due n start step) (due n start step) = true from (eqI_iff _ _).2 rfl]
              have HB12 := Lib.hid (below_drewN HB11.out m10)
              clear HB11 HRO
              go_wp2_with fail
              refine (HO46.out _ _ _ _ _ (HR18c.out.below HB12.out)).mono ?_
              rintro e w11 ⟨v, rfl, hown, hb11⟩
              obtain ⟨Ap, cp, rfl, hcp, hrp⟩ := own_RI hown
              have HRP := Lib.hid hrp
              have HB13 := Lib.hid (below_then HB12.out HB12.out.size hb11)
              clear hown hcp hrp hb11 HB12
              go_wp2_with fail
              refine (Equal_calls _ _ _ _ _ _ _ _ _ HRP.out (HR16c.out.below HB13.out)).mono ?_
              rintro e w12 ⟨rfl, m12, rfl⟩
              rw [show eqI ((due n start step).filter fun x => !isIn (lessI bs) x) (restI (due n start step) (lessI bs)) = true from (eqI_iff _ _).2 rfl]
              have HB14 := Lib.hid (below_drewN (below_then HB8.out HB8.out.size HB13.out) m12)
              have haa : ((at' : Int) == (at' : Int)) = true := by simp
              go_wp2
              go_ret
              exact ⟨rfl, HB14.out⟩
end Go.Proofs.Ytciiihiklobkaaa.Strode
