/-
  A map of whole numbers to whole numbers, as a function: what a call's own map holds.
-/
import Derived.Test.YtciiihiklobkaaaWd
import Derived.Maps.OwnSet
import Derived.Maps.OwnOps
import Derived.Maps.RangeWalk
namespace Go.Proofs.Ytciiihiklobkaaa
open Go.RowKit Go.Maps
set_option linter.unusedVariables false
set_option linter.unusedSimpArgs false

theorem law3 : Keyed Try.prog 3 := int_keyed Try.underlying3
theorem zero3 (w : World) : (zeroValue 3).run Try.prog w = .ok (.int .i64 0) w := by kernel_rfl
theorem wf64 {x : Int} (h0 : -9223372036854775808 ≤ x) (h1 : x ≤ 9223372036854775807) : (Lit.int .i64 x).wf = true := by
  simp [Lit.wf, IntKind.min, IntKind.max, IntKind.signed, IntKind.bits]; omega
theorem key64 {x : Int} (h0 : -9223372036854775808 ≤ x) (h1 : x ≤ 9223372036854775807) : keyOf Try.prog 3 (.int .i64 x) = some (.int .i64 x) := keyOf_int_mk Try.underlying3 (wf64 h0 h1)

/-- The datum, as a function. -/
def MV (D : DataW Unit) (f : Int → Option Int) : Prop :=
  Maps.IsMap D ∧ ∀ x, Maps.has D (.int .i64 x) = (f x).isSome ∧ D.atKey (.int .i64 x) (.lit (.int .i64 0)) = .lit (.int .i64 ((f x).getD 0))
theorem MV.empty : MV (.map []) (fun _ => none) := ⟨⟨[], rfl⟩, fun x => ⟨rfl, rfl⟩⟩
theorem ne_lit {x y : Int} (h : y ≠ x) : (Lit.int IntKind.i64 y) ≠ Lit.int IntKind.i64 x := fun e => by cases e; exact h rfl
def putF (f : Int → Option Int) (x v : Int) : Int → Option Int := fun y => if y = x then some v else f y
def delF (f : Int → Option Int) (x : Int) : Int → Option Int := fun y => if y = x then none else f y
theorem MV.put {D : DataW Unit} {f : Int → Option Int} (h : MV D f) (x v : Int) : MV (D.put (.int .i64 x) (.lit (.int .i64 v))) (putF f x v) := by
  refine ⟨h.1.put _ _, fun y => ?_⟩
  unfold putF
  by_cases e : y = x
  · subst e
    rw [if_pos rfl]
    exact ⟨has_put_same h.1 (by simp [WideAt.IsKeyLit]) _, atKey_put_same h.1 (by simp [WideAt.IsKeyLit]) _ _⟩
  · rw [if_neg e, has_put_other (ne_lit e), atKey_put_other (ne_lit e)]
    exact h.2 y
theorem MV.del {D : DataW Unit} {f : Int → Option Int} (h : MV D f) (x : Int) : MV (D.del (.int .i64 x)) (delF f x) := by
  refine ⟨h.1.del _, fun y => ?_⟩
  unfold delF
  by_cases e : y = x
  · subst e
    rw [if_pos rfl]
    exact ⟨has_del_same, atKey_del_same _⟩
  · rw [if_neg e, has_del_other (ne_lit e), atKey_del_other (ne_lit e)]
    exact h.2 y

/-- Block b is a map that holds f, of at most n entries. -/
def MapI (w : World) (b n : Nat) (f : Int → Option Int) : Prop := ∃ D : DataW Unit, w.ownsMap Try.prog 3 (plainElem Try.prog 3) b n D ∧ MV D f
section
variable {w w' : World} {b n : Nat} {f : Int → Option Int}
theorem MapI.made (w : World) : MapI (w.alloc (.map #[] 0)) w.heap.size 0 (fun _ => none) := ⟨_, World.ownsMap_made w _ _ _, MV.empty⟩
theorem MapI.lt (h : MapI w b n f) : b < w.heap.size := by obtain ⟨D, h, _⟩ := h; exact h.lt
theorem MapI.ne_cell (h : MapI w b n f) {a : Addr} {v : Value} (hc : w.cell? a = some v) : b ≠ a.block := by
  intro e
  obtain ⟨D, ⟨es, l, h1, h2⟩, hv⟩ := h
  subst e
  simp [World.cell?, h1] at hc
/-- A cell beside a map that was written. -/
theorem MapI.cell (h : MapI w b n f) (hg : w.grownBy w' (some b)) {a : Addr} {v : Value} (hc : w.cell? a = some v) : w'.cell? a = some v := by
  have hb := hg.block a.block (World.block_lt_of_cell? w a hc) (by intro e; injection e with e; exact h.ne_cell hc e.symm)
  simpa [World.cell?, hb] using hc
theorem MapI.kept {row : Option Nat} (h : MapI w b n f) (hg : w.grownBy w' row) (hne : some b ≠ row) : MapI w' b n f := by
  obtain ⟨D, h, hv⟩ := h; exact ⟨D, h.kept hg hne, hv⟩
theorem MapI.below (h : MapI w b n f) (hb : Below w.heap.size w w') : MapI w' b n f := h.kept (grown_of_below hb none) (by simp)
theorem MapI.alloc (h : MapI w b n f) (o : Obj) : MapI (w.alloc o) b n f := by obtain ⟨D, h, hv⟩ := h; exact ⟨D, h.alloc o, hv⟩
theorem MapI.drewN (h : MapI w b n f) (m : Nat) : MapI (w.drewN m) b n f := h
theorem MapI.drew (h : MapI w b n f) : MapI w.drew b n f := h
theorem MapI.setCell (h : MapI w b n f) {a : Addr} (ha : b ≠ a.block) (u : Value) : MapI (w.setCell a u) b n f := by
  obtain ⟨D, h, hv⟩ := h; exact ⟨D, h.setCell ha u, hv⟩
theorem MapI.mono {n' : Nat} (h : MapI w b n f) (hn : n ≤ n') : MapI w b n' f := by obtain ⟨D, h, hv⟩ := h; exact ⟨D, h.mono hn, hv⟩
theorem MapI.look (h : MapI w b n f) {x : Int} (h0 : -9223372036854775808 ≤ x) (h1 : x ≤ 9223372036854775807) :
    (Instr.lookup 47 (.map (some b)) (.int .i64 x) false).run Try.prog w = .ok (.int .i64 ((f x).getD 0)) w := by
  obtain ⟨D, h, hv⟩ := h
  obtain ⟨c, hrun, hat, _⟩ := h.lookup_int law3 Try.underlying47 Try.underlying3 (zero3 w) (key64 h0 h1)
  have e : c = (f x).getD 0 := by
    have h2 := (hv.2 x).2.symm.trans hat
    cases h2
    rfl
  subst e
  exact hrun
theorem MapI.lookok (h : MapI w b n f) {x : Int} (h0 : -9223372036854775808 ≤ x) (h1 : x ≤ 9223372036854775807) :
    (Instr.lookup 47 (.map (some b)) (.int .i64 x) true).run Try.prog w = .ok (.tuple #[.int .i64 ((f x).getD 0), .bool (f x).isSome]) w := by
  obtain ⟨D, h, hv⟩ := h
  obtain ⟨v, ps, hrun, hR⟩ := h.look_ok law3 Try.underlying47 (zero3 w) (plainElem_int Try.underlying3 (by decide)) (key64 h0 h1)
  have hR2 : plainElem Try.prog 3 v = some (.lit (.int .i64 ((f x).getD 0)), ps) := hR.trans (congrArg (fun d => some (d, ps)) (hv.2 x).2)
  obtain ⟨c, rfl, hc, _⟩ := plainElem_int_inv Try.underlying3 hR2
  have e : c = (f x).getD 0 := by
    have h2 := congrArg Prod.fst hc
    cases h2
    rfl
  subst e
  have hrun2 := hrun
  rw [(hv.2 x).1] at hrun2
  exact hrun2
end

theorem w64 {x : Int} (h0 : -9223372036854775808 ≤ x) (h1 : x ≤ 9223372036854775807) : IntKind.i64.wrap x = x := by
  have e : (2 : Int) ^ 64 = 18446744073709551616 := by decide
  have e2 : (2 : Int) ^ (64 - 1) = 9223372036854775808 := by decide
  simp only [IntKind.wrap, IntKind.bits, IntKind.signed, Bool.true_and, decide_eq_true_eq, e, e2]
  split <;> omega
theorem drew_grown {w w' : World} {row : Option Nat} (h : w.drew.grownBy w' row) : w.grownBy w' row := ⟨h.os, h.tape, h.output, h.size, h.block⟩
theorem drewN_grown {w w' : World} {m : Nat} {row : Option Nat} (h : (w.drewN m).grownBy w' row) : w.grownBy w' row := ⟨h.os, h.tape, h.output, h.size, h.block⟩
theorem grown_drewN {w w' : World} {m : Nat} {row : Option Nat} (h : w.grownBy w' row) : w.grownBy (w'.drewN m) row := ⟨h.os, h.tape, h.output, h.size, h.block⟩
/-- 'm[x] = v' at the operation. -/
theorem wpList_putI {ops : Array Oper} {rest : List Oper} {o : Oper} {a : Act} {Q : Exit → Act → World → Prop} (hg : o.guard = none) (m x v : Operand) (hop : o.op = Op.mapUpdate 47 m x v)
    (w : World) (b n : Nat) (f : Int → Option Int) (hown : MapI w b n f) (key val : Int) (hm : a.eval m = .map (some b)) (hx : a.eval x = .int .i64 key) (hv : a.eval v = .int .i64 val) (hn : n < 9223372036854775807)
    (h0 : -9223372036854775808 ≤ key) (h1 : key ≤ 9223372036854775807) (h2 : -9223372036854775808 ≤ val) (h3 : val ≤ 9223372036854775807)
    (h : ∀ w', MapI w' b (n + 1) (putF f key val) → w.grownBy w' (some b) → wpList Try.prog ops Q rest (a.put o.dst undef) w') : wpList Try.prog ops Q (o :: rest) a w := by
  obtain ⟨D, hown, hvw⟩ := hown
  refine wpList_mapUpdate_own w hg m x v 47 hop 3 3 law3 Try.underlying47 _ b n D hm hown (by unfold maxLen; omega) _ _ _ hx hv (key64 h0 h1) _ [] (plainElem_int Try.underlying3 (wf64 h2 h3)) ?_
  intro w' hown' hgr
  exact h w' ⟨_, hown', hvw.put key val⟩ hgr

/-- A range over the map, on its way: what is still to come. -/
def RangeI (w : World) (b r n : Nat) (f : Int → Option Int) (left : Int → Bool) (cnt : Nat) : Prop :=
  ∃ (D : DataW Unit) (lf : Lit → Bool), w.ranges Try.prog 3 (plainElem Try.prog 3) b r n D lf cnt ∧ MV D f ∧ ∀ x, left x = lf (.int .i64 x)
section
variable {w w' : World} {b r n cnt : Nat} {f : Int → Option Int} {left : Int → Bool}
theorem RangeI.owns (h : RangeI w b r n f left cnt) : MapI w b n f := by obtain ⟨D, lf, h, hv, _⟩ := h; exact ⟨D, h.owns, hv⟩
theorem RangeI.ne (h : RangeI w b r n f left cnt) : r ≠ b := by obtain ⟨D, lf, h, hv, _⟩ := h; exact h.ne
theorem RangeI.lt (h : RangeI w b r n f left cnt) : r < w.heap.size := by obtain ⟨D, lf, h, hv, _⟩ := h; exact h.lt
theorem RangeI.kept {row : Option Nat} (h : RangeI w b r n f left cnt) (hg : w.grownBy w' row) (hb' : some b ≠ row) (hr' : some r ≠ row) : RangeI w' b r n f left cnt := by
  obtain ⟨D, lf, h, hv, hl⟩ := h; exact ⟨D, lf, h.kept hg hb' hr', hv, hl⟩
theorem RangeI.drewN (h : RangeI w b r n f left cnt) (m : Nat) : RangeI (w.drewN m) b r n f left cnt := h
theorem RangeI.mem (h : RangeI w b r n f left cnt) : True := trivial
end
theorem wpList_rangeI {ops : Array Oper} {rest : List Oper} {o : Oper} {a : Act} {Q : Exit → Act → World → Prop} (hg : o.guard = none) (m : Operand) (hop : o.op = Op.range 47 m)
    (w : World) (b n : Nat) (f : Int → Option Int) (hown : MapI w b n f) (hm : a.eval m = .map (some b))
    (h : ∀ w' cnt, RangeI w' b w.heap.size n f (fun x => (f x).isSome) cnt → w.grownBy w' none → w'.heap.size = w.heap.size + 1 → wpList Try.prog ops Q rest (a.put o.dst (.pointer (some ⟨w.heap.size, 0, none⟩))) w') : wpList Try.prog ops Q (o :: rest) a w := by
  obtain ⟨D, hown, hvw⟩ := hown
  refine wpList_range_own w hg m 47 hop 3 3 law3 Try.underlying47 _ b n D hm hown ?_
  intro w' hr hgr hs
  exact h w' _ ⟨D, _, hr, hvw, fun x => (hvw.2 x).1.symm⟩ hgr hs
theorem same_lit (x y : Int) : (Lit.int IntKind.i64 y).sameKey (Lit.int IntKind.i64 x) = decide (y = x) := by simp [Lit.sameKey]
theorem wpList_nextI {ops : Array Oper} {rest : List Oper} {o : Oper} {a : Act} {Q : Exit → Act → World → Prop} (hg : o.guard = none) (it : Operand) (hop : o.op = Op.next it false)
    (w : World) (b r n : Nat) (f : Int → Option Int) (left : Int → Bool) (cnt : Nat) (hr : RangeI w b r n f left cnt) (hit : a.eval it = .pointer (some ⟨r, 0, none⟩))
    (hDone : (∀ x, left x = false) → wpList Try.prog ops Q rest (a.put o.dst (.tuple #[.bool false])) w)
    (hMore : ∀ (x c : Int) (w' : World) (cnt' : Nat), -9223372036854775808 ≤ x → x ≤ 9223372036854775807 → left x = true → f x = some c → RangeI w' b r n f (fun z => left z && !decide (z = x)) cnt' → cnt' < cnt → w.grownBy w' (some r) → w'.heap.size = w.heap.size →
      (Instr.entry (.pointer (some ⟨r, 0, none⟩))).run Try.prog w' = .ok (.tuple #[.int .i64 x, .int .i64 c]) w' → wpList Try.prog ops Q rest (a.put o.dst (.tuple #[.bool true, .int .i64 x, .int .i64 c])) w') : wpList Try.prog ops Q (o :: rest) a w := by
  obtain ⟨D, lf, hr, hvw, hl⟩ := hr
  refine wpList_next_ranges_ii w hg it hop 3 3 .i64 .i64 law3 Try.underlying3 Try.underlying3 b r n D lf cnt hit hr (fun _ h0 => hDone fun x => by rw [hl]; exact h0 _) ?_
  intro x c w' cnt' hwx hwc hlx hat hr' hlt hgr hs hen
  have hx : -9223372036854775808 ≤ x ∧ x ≤ 9223372036854775807 := by
    simp [Lit.wf, IntKind.min, IntKind.max, IntKind.signed, IntKind.bits] at hwx; omega
  have hfx : f x = some c := by
    have h1 := (hvw.2 x).2
    rw [hat] at h1
    injection h1 with h1
    injection h1 with _ h1
    have h2 := has_true_of_atKey hat
    rw [(hvw.2 x).1] at h2
    cases hf : f x with
    | none => rw [hf] at h2; cases h2
    | some d => rw [hf] at h1; rw [h1]; rfl
  exact hMore x c w' cnt' hx.1 hx.2 (by rw [hl]; exact hlx) hfx ⟨D, _, hr', hvw, fun z => by show (left z && _) = _; rw [hl, same_lit]⟩ hlt hgr hs hen
theorem wpList_delI {ops : Array Oper} {rest : List Oper} {o : Oper} {a : Act} {Q : Exit → Act → World → Prop} (hg : o.guard = none) (m x : Operand) (hop : o.op = Op.call { callee := Callee.builtin Builtin.delete, args := #[m, x], argTypes := #[47, 3] })
    (w : World) (b r n : Nat) (f : Int → Option Int) (left : Int → Bool) (cnt : Nat) (hr : RangeI w b r n f left cnt) (key : Int) (hm : a.eval m = .map (some b)) (hx : a.eval x = .int .i64 key)
    (h0 : -9223372036854775808 ≤ key) (h1 : key ≤ 9223372036854775807)
    (h : ∀ w' cnt', RangeI w' b r n (delF f key) (fun z => left z && !decide (z = key)) cnt' → cnt' ≤ cnt → w.grownBy w' (some b) → wpList Try.prog ops Q rest (a.put o.dst (.tuple #[])) w') : wpList Try.prog ops Q (o :: rest) a w := by
  obtain ⟨D, lf, hr, hvw, hl⟩ := hr
  refine wpList_delete_ranges w hg m x 47 3 hop 3 law3 Try.underlying47 _ b r n D lf cnt hm hr _ _ hx (key64 h0 h1) ?_
  intro w' cnt' hr' hle ht
  exact h w' cnt' ⟨_, _, hr', hvw.del key, fun z => by show (left z && _) = _; rw [hl, same_lit]⟩ hle ht.grown
end Go.Proofs.Ytciiihiklobkaaa
