/-
  Rows of places in memory; word.Places, slices.Equal and word.Do over them.
-/
import Derived.Test.YtaaegjfkappahaaDoorWdC
import Derived.Below
namespace Go.Proofs.YtaaegjfkappahaaDoor
open Go.RowKit
set_option linter.unusedVariables false
set_option linter.unusedSimpArgs false

/-- The i-th place behind h. -/
def pl (h i : Nat) : Int := (((h + i) % 4294967296 : Nat) : Int)
theorem pl_bd (h i : Nat) : 0 ≤ pl h i ∧ pl h i < 4294967296 := by unfold pl; omega
theorem pl_back (h n : Nat) (hn : n < 4294967296) : (pl h n - (n : Int)) % 4294967296 = pl h 0 := by unfold pl; omega
theorem pl_next (h i : Nat) : (pl h i + 1) % 4294967296 = pl h (i + 1) := by unfold pl; omega
theorem pl_shift (h k j : Nat) : pl h (k + j) = pl (h + k) j := by unfold pl; rw [Nat.add_assoc]
/-- The word of h and n. -/
def pk (h n : Nat) : Int := pl h 0 * 4294967296 + pl h n
theorem pk_bd (h n : Nat) : 0 ≤ pk h n ∧ pk h n < 18446744073709551616 := by unfold pk pl; omega
theorem pk_head (h n : Nat) : pk h n / 4294967296 = pl h 0 := by unfold pk pl; omega
theorem pk_tail (h n : Nat) : pk h n % 4294967296 = pl h n := by unfold pk pl; omega
theorem pk_len (h n : Nat) (hn : n < 4294967296) : (n : Int) = (pk h n % 4294967296 - pk h n / 4294967296) % 4294967296 := by unfold pk pl; omega

/-- A row of n places from h on, in memory. -/
def RU (w : World) (A : Option Addr) (n h : Nat) : Prop :=
  ∃ b o, (A = none ∧ n = 0 ∨ A = some ⟨b, o, none⟩) ∧ ∀ j, j < n → w.cell? ⟨b, o + j, none⟩ = some (.int .u32 (pl h j))
theorem RU.nil (w : World) (h : Nat) : RU w none 0 h := ⟨0, 0, .inl ⟨rfl, rfl⟩, fun j h => absurd h (by omega)⟩
theorem cell_below {w w1 : World} (h : Below w.heap.size w w1) {a : Addr} {v : Value} (hc : w.cell? a = some v) : w1.cell? a = some v := (h.cell (World.block_lt_of_cell? w a hc)).trans hc
theorem RU.below {w w1 : World} {A : Option Addr} {n h : Nat} (hr : RU w A n h) (hb : Below w.heap.size w w1) : RU w1 A n h := by
  obtain ⟨b, o, ha, hc⟩ := hr
  exact ⟨b, o, ha, fun j hj => cell_below hb (hc j hj)⟩
theorem RU.drew {w : World} {A : Option Addr} {n h : Nat} (hr : RU w A n h) (k : Nat) : RU (w.drewN k) A n h := hr
/-- With something in it the row has an address. -/
theorem RU.some {w : World} {A : Option Addr} {n h : Nat} (hr : RU w A n h) (hn : 0 < n) : ∃ b o, A = some ⟨b, o, none⟩ ∧ ∀ j, j < n → w.cell? ⟨b, o + j, none⟩ = some (.int .u32 (pl h j)) := by
  obtain ⟨b, o, ha | ha, hc⟩ := hr
  · exact absurd ha.2 (by omega)
  · exact ⟨b, o, ha, hc⟩
theorem below_then {B : Nat} {w w1 w2 : World} (h : Below B w w1) (hB : B ≤ w1.heap.size) (k : Below w1.heap.size w1 w2) : Below B w w2 := h.trans (k.mono hB)

def plv (h n : Nat) : List Value := (List.range n).map fun i => .int .u32 (pl h i)
theorem plv_length (h n : Nat) : (plv h n).length = n := by simp [plv]
theorem plv_succ (h n : Nat) : plv h (n + 1) = plv h n ++ [.int .u32 (pl h n)] := by simp [plv, List.range_succ]
theorem plv_at {h n j : Nat} (hj : j < n) : (plv h n)[j]? = some (.int .u32 (pl h j)) := by simp [plv, hj]
theorem plv_one (h n : Nat) : ∀ u ∈ plv h n, u.oneCell' = true := by
  intro u hu
  obtain ⟨i, _, rfl⟩ := List.mem_map.1 hu
  rfl
/-- What is owned can be read. -/
theorem own_RU {w : World} {base n h : Nat} {v : Value} (ho : w.ownsRow base 22 1 v n (plv h n)) : ∃ A c, v = .slice A n c ∧ n ≤ c ∧ c ≤ maxLen ∧ RU w A n h := by
  rcases ho.2 with ⟨rfl, rfl⟩ | ⟨g, cap, cur, rfl, hb, hg, hnc, hcm, hcs, htake⟩
  · exact ⟨none, 0, rfl, Nat.le_refl _, by unfold maxLen; omega, RU.nil _ _⟩
  · refine ⟨_, cap, rfl, hnc, hcm, g, 0, .inr rfl, fun j hj => ?_⟩
    have := ho.cells (g := g) rfl j _ (plv_at hj)
    rw [show (⟨g, 0 + j, none⟩ : Addr) = (⟨g, 0, none⟩ : Addr).add j from by unfold Addr.add; split <;> simp_all]
    exact this
theorem info22 : (Tryd.prog.info? 22).map (fun i => (i.zero, i.size, i.bytes)) = some (some (.int .u32 0), 1, 4) := by kernel_rfl
theorem grown_alloc {w w' : World} {o : Obj} {row : Option Nat} (h : (w.alloc o).grownBy w' row) : w.grownBy w' row :=
  ⟨h.os, h.tape, h.output, by have := h.size; simp at this; omega, fun k hk hne => (h.block k (by simp; omega) hne).trans (Below.heap_alloc w o k hk)⟩
/-- An append of the next place onto a row of the call's own. -/
theorem wpList_app32 {ops : Array Oper} {rest : List Oper} {o : Oper} {a : Act} {Q : Exit → Act → World → Prop} (hgd : o.guard = none) (s x : Operand)
    (ho : o.op = .call { callee := .builtin .append, args := #[s, x], argTypes := #[25, 25] }) (w : World) (base h n : Nat) (v : Value)
    (hown : w.ownsRow base 22 1 v n (plv h n)) (hs : a.eval s = v) (hx : a.eval x = .slice (some ⟨w.heap.size, 0, none⟩) 1 1) (hn : n < 17592186044415) (hbase : base ≤ w.heap.size)
    (hk : ∀ v' w', w'.ownsRow base 22 1 v' (n + 1) (plv h (n + 1)) → w.grownBy w' v.ownBlock → wpList Tryd.prog ops Q rest (a.put o.dst v') w') :
    wpList Tryd.prog ops Q (o :: rest) a (w.alloc (.cells #[.int .u32 (pl h n)] 22)) := by
  obtain ⟨i0, hi, hz0, hz1, hz2⟩ := info_parts info22
  refine wpList_append_own _ hgd s x 25 ho base 22 i0 (.int .u32 0) 1 4 Tryd.underlying25 hi hz0 hz1 hz2 rfl (by decide) v n (plv h n) hs (hown.alloc _) ⟨w.heap.size, 0, none⟩ 1 1 [.int .u32 (pl h n)] hx rfl (cell_one_new _ _ _) (fun u hu => by simp at hu; subst hu; rfl) (by unfold maxLen; omega) (by omega) (by simp; omega) ?_
  intro v' w' hown' hgr _
  exact hk v' w' (by rw [plv_succ]; exact hown') (grown_alloc hgr)

def GivesRow (w : World) (h n : Nat) (e : Ending) (w' : World) : Prop := ∃ A k c, e = .returned (.slice A k c) ∧ k = n ∧ k ≤ c ∧ c ≤ maxLen ∧ RU w' A k h ∧ Below w.heap.size w w'
set_option maxHeartbeats 1600000 in
set_option maxRecDepth 100000 in
theorem Places_calls (h n f m : Nat) (hn : n ≤ 64) (hf : f ≤ 255) (hm : m ≤ 255) (w : World) : Calls Tryd.prog 30 #[.int .u64 (pk h n), .int .u32 f, .int .u32 m] w (GivesRow w (h + f) (min m (n - f))) := by
  have hb := pk_bd h n
  have hlen : ∀ w1, Calls Tryd.prog 27 #[.int .u64 (pk h n)] w1 fun e w' => e = .returned (.int .u32 n) ∧ w1 = w' := fun w1 => (Len_calls _ w1 hb.1 hb.2).mono fun e w' hh => ⟨hh.1.trans (ret_int (pk_len h n (by omega)).symm), hh.2⟩
  have hhead : ∀ w1, Calls Tryd.prog 28 #[.int .u64 (pk h n)] w1 fun e w' => e = .returned (.int .u32 (pl h 0)) ∧ w1 = w' := fun w1 => (Head_calls _ w1 hb.1 hb.2).mono fun e w' hh => ⟨hh.1.trans (ret_int (pk_head h n)), hh.2⟩
  have HL := Lib.hid hlen
  have HH := Lib.hid hhead
  generalize pk h n = X at *
  obtain ⟨hb0, hb1⟩ := hb
  clear hlen hhead
  by_cases hfn : f < n
  · obtain ⟨d, hd⟩ : ∃ d, d = n - f := ⟨_, rfl⟩
    obtain ⟨q, hq⟩ : ∃ q, q = min m d := ⟨_, rfl⟩
    have hqi : min (m : Int) (d : Int) = (q : Int) := by omega
    have hdi : (n : Int) - (f : Int) = (d : Int) := by omega
    have hq64 : q ≤ 64 := by omega
    have hfi : ¬ (n : Int) ≤ (f : Int) := by omega
    have HQ := Lib.hid (show q = min m (n - f) by omega)
    have hdf : decide (n ≤ f) = false := decide_eq_false (by omega)
    have hdg : decide (65536 < (n : Int)) = false := decide_eq_false (by omega)
    clear hq hd
    go_enter Tryd.func30, Tryd.ntmps30
    go_wp2_with (go_at_call 27; refine (HL.out _).mono ?_; rintro e w' ⟨rfl, rfl⟩)
    go_loopw [6, 8, 23] (fun v6 v8 v23 wr => ∃ k : Nat, k ≤ q ∧ v23 = .int .u32 k ∧ wr.ownsRow w.heap.size 22 1 v6 k (plv (h + f) k) ∧ Below w.heap.size w wr) (fun _ _ v _ => q - (intOf v).toNat)
    case atStart => exact ⟨0, Nat.zero_le _, rfl, World.ownsRow_nil _ _ _ _, Below.refl _ _⟩
    case round =>
      obtain ⟨k, hk, rfl, ho, hb⟩ := hrel
      have HO := Lib.hid ho
      have HB := Lib.hid hb
      clear ho hb
      by_cases hlt : k < q
      · have hlt' : (k : Int) < (q : Int) := by omega
        have hsz := HB.out.size
        have hv : (pl h 0 + (f : Int) + (k : Int)) % 4294967296 = pl (h + f) k := by unfold pl; omega
        have hp := pl_bd h 0
        obtain ⟨hp0, hp1⟩ := hp
        have hpk := pl_bd (h + f) k
        obtain ⟨hpk0, hpk1⟩ := hpk
        generalize pl h 0 = H0 at *
        go_wp2_with (first
          | (go_at_call 28; refine (HH.out _).mono ?_; rintro e w' ⟨rfl, rfl⟩)
          | (at_builtin; refine wpList_app32 rfl _ _ rfl wr w.heap.size (h + f) k _ HO.out rfl rfl ?b1 hsz ?_))
        case b1 => omega
        intro v' w' hown hgr
        have hb2 := HB.out.grown hgr HB.out.size (fun j e => (HO.out.lt j e).1)
        have HO2 := Lib.hid hown
        have HB2 := Lib.hid hb2
        clear hown hb2 hgr
        go_wp2
        go_roundw
        case rel => exact ⟨k + 1, by omega, by go_num, HO2.out, HB2.out⟩
        case measure => simp [intOf]; omega
      · have hge : ¬ (k : Int) < (q : Int) := by omega
        have hkq : k = q := by omega
        have HKQ := Lib.hid hkq
        clear hkq
        obtain ⟨A, c, rfl, hkc, hcm, hru⟩ := own_RU HO.out
        go_wp2
        go_ret
        exact ⟨A, k, c, rfl, HKQ.out.trans HQ.out, hkc, hcm, hru, HB.out⟩
  · have hfi : (n : Int) ≤ (f : Int) := by omega
    go_enter Tryd.func30, Tryd.ntmps30
    go_wp2_with (go_at_call 27; refine (HL.out _).mono ?_; rintro e w' ⟨rfl, rfl⟩)
    go_ret
    exact ⟨none, 0, 0, rfl, by omega, Nat.le_refl _, by unfold maxLen; omega, RU.nil _ _, Below.refl _ _⟩
end Go.Proofs.YtaaegjfkappahaaDoor
