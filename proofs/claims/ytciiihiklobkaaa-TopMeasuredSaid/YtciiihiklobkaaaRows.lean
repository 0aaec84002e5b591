/-
  No cell of these rows narrows 'for every input' (looked for: loops, veiled, ifaces, maps, wideKeys, modest, calm, conditions, laid).
  DERIVED. THE GIVEN ROWS OF THIS SEAT. 3 by the template 'for every input the law returns true; each argument reads behind the call as it read before'; 0 by the template 'total and deterministic' (their statements: YtciiihiklobkaaaTotals.lean).
  GIVEN WITH THE SEED: the statements are not yours to turn. If you find one false, say at which input.
  Laid BY PROGRAM, IN A SANDBOX (cutbox-rows.mjs): the forced cells as the released guide's own fill.sh prints them over the translation 0b2ccf6f31720e61… (all of the seat's roots in one cut). By AI agents, Wed Nov 11 2026. No macro, syntax, notation, axiom, sorry.
-/
import Derived.Test.YtciiihiklobkaaaChecked
import GoSem.Claim
import GoSem.ClaimJoined
import GoSem.ClaimMapViews
import Derived.JoinedTies
import Derived.KernelRfl
namespace Go.Proofs.Ytciiihiklobkaaa
/- THE CELL 'sum', in the pinned program and in every row, IS THE sha256 OF THE DUMP (.gsa) THAT YtciiihiklobkaaaProg.lean LOADS. Nothing in Lean hashes anything: it is a label: what it is worth is what the hold of that sum in a sandbox is worth. -/
noncomputable def Try.pinned : Pinned := { name := "ytciiihiklobkaaa", sum := "0b2ccf6f31720e614781e93bfa057a74f3a79a37da221648ec5d2f1027007828", checked := Try.checked }
namespace Rows
def none {H : Type} : Left H := { results := [], args := [] }

/-- 'distafftop.TopMeasured': WHATEVER THE INPUT: true; the input reads as it did. -/
def topMeasuredSpec : ChangeSpec := { name := "topMeasured", fn := fun _ => fun
  | [d1, d2, d3] => { results := [.lit (.bool true)], args := [d1, d2, d3] }
  | _ => none }
def topMeasuredRow : OpenClaim := { program := "ytciiihiklobkaaa", sum := "0b2ccf6f31720e614781e93bfa057a74f3a79a37da221648ec5d2f1027007828", func := "distaff/distafftop.TopMeasured", spec := "topMeasured", plainKeys := false, apart := false }
def TopMeasuredSaid : Prop := topMeasuredRow.holds Try.pinned (OpenSpec.ofChange topMeasuredSpec)

/-- ITS FALSE NEIGHBOUR: 'it returns false'. Refute it at one input. -/
def topMeasuredWrong : ChangeSpec := { name := "topMeasured", fn := fun _ => fun
  | [d1, d2, d3] => { results := [.lit (.bool false)], args := [d1, d2, d3] }
  | _ => none }
def TopMeasuredWrongFalsely : Prop := topMeasuredRow.holds Try.pinned (OpenSpec.ofChange topMeasuredWrong)

/-- 'distafftop.TopTabled': WHATEVER THE INPUT: true; the input reads as it did. -/
def topTabledSpec : ChangeSpec := { name := "topTabled", fn := fun _ => fun
  | [d1, d2, d3] => { results := [.lit (.bool true)], args := [d1, d2, d3] }
  | _ => none }
def topTabledRow : OpenClaim := { program := "ytciiihiklobkaaa", sum := "0b2ccf6f31720e614781e93bfa057a74f3a79a37da221648ec5d2f1027007828", func := "distaff/distafftop.TopTabled", spec := "topTabled", unfollowed := true, recurses := true, plainKeys := false, apart := false }
def TopTabledSaid : Prop := topTabledRow.holds Try.pinned (OpenSpec.ofChange topTabledSpec)

/-- ITS FALSE NEIGHBOUR: 'it returns false'. Refute it at one input. -/
def topTabledWrong : ChangeSpec := { name := "topTabled", fn := fun _ => fun
  | [d1, d2, d3] => { results := [.lit (.bool false)], args := [d1, d2, d3] }
  | _ => none }
def TopTabledWrongFalsely : Prop := topTabledRow.holds Try.pinned (OpenSpec.ofChange topTabledWrong)

/-- 'distafftop.TopStrode': WHATEVER THE INPUT: true; the input reads as it did. -/
def topStrodeSpec : ChangeSpec := { name := "topStrode", fn := fun _ => fun
  | [d1, d2, d3] => { results := [.lit (.bool true)], args := [d1, d2, d3] }
  | _ => none }
def topStrodeRow : OpenClaim := { program := "ytciiihiklobkaaa", sum := "0b2ccf6f31720e614781e93bfa057a74f3a79a37da221648ec5d2f1027007828", func := "distaff/distafftop.TopStrode", spec := "topStrode", unfollowed := true, recurses := true, plainKeys := false, apart := false }
def TopStrodeSaid : Prop := topStrodeRow.holds Try.pinned (OpenSpec.ofChange topStrodeSpec)

/-- ITS FALSE NEIGHBOUR: 'it returns false'. Refute it at one input. -/
def topStrodeWrong : ChangeSpec := { name := "topStrode", fn := fun _ => fun
  | [d1, d2, d3] => { results := [.lit (.bool false)], args := [d1, d2, d3] }
  | _ => none }
def TopStrodeWrongFalsely : Prop := topStrodeRow.holds Try.pinned (OpenSpec.ofChange topStrodeWrong)

/- THE SECOND FORM. 'bulk': how many values and letters a reading holds, each counted each time it is reached (what is shared counts as often as it is met; a slice's spare places count too). A statement '..UptoSaid' is the law's where the arguments, and the package variables that the reading takes, are together of bulk at most 1048576: NARROWER than '..Said'. Prove '..Said' where nothing that the law and all that it calls make is longer than what came in: it says more and counts as full. Else prove '..UptoSaid'. A law counts once. -/
mutual
def uptoBulk {H : Type} : DataW H → Nat
  | .lit (.string bytes) => bytes.length + 1
  | .lit _ => 1
  | .nil => 1
  | .ptr d => uptoBulk d + 1
  | .slice elems spare => uptoBulkAll elems + uptoBulkAll spare + 1
  | .agg parts => uptoBulkAll parts + 1
  | .iface _ d => uptoBulk d + 1
  | .map entries => uptoBulkEntries entries + 1
  | .held _ => 1
def uptoBulkAll {H : Type} : List (DataW H) → Nat
  | [] => 0
  | d :: r => uptoBulk d + uptoBulkAll r
def uptoBulkEntries {H : Type} : List (Lit × DataW H) → Nat
  | [] => 0
  | x :: r => uptoBulkEntry x + uptoBulkEntries r
def uptoBulkEntry {H : Type} : Lit × DataW H → Nat
  | (.string bytes, d) => bytes.length + uptoBulk d + 1
  | (_, d) => uptoBulk d + 1
 end
def uptoSmall : (H : Type) → List (DataW H) → Bool := fun _ ds => decide (uptoBulkAll ds ≤ 1048576)
def OpenSpec.upto (s : _root_.Go.ChangeSpec) : _root_.Go.OpenSpec := { _root_.Go.OpenSpec.ofChange s with cond := some uptoSmall }

/-- 'distafftop.TopMeasured', WHERE WHAT IT READS IS OF BULK AT MOST 1048576: true; the input reads as it did. -/
def topMeasuredUptoRow : OpenClaim := { program := "ytciiihiklobkaaa", sum := "0b2ccf6f31720e614781e93bfa057a74f3a79a37da221648ec5d2f1027007828", func := "distaff/distafftop.TopMeasured", spec := "topMeasured", plainKeys := false, apart := false, narrowed := true }
def TopMeasuredUptoSaid : Prop := topMeasuredUptoRow.holds Try.pinned (OpenSpec.upto topMeasuredSpec)

/-- 'distafftop.TopTabled', WHERE WHAT IT READS IS OF BULK AT MOST 1048576: true; the input reads as it did. -/
def topTabledUptoRow : OpenClaim := { program := "ytciiihiklobkaaa", sum := "0b2ccf6f31720e614781e93bfa057a74f3a79a37da221648ec5d2f1027007828", func := "distaff/distafftop.TopTabled", spec := "topTabled", unfollowed := true, recurses := true, plainKeys := false, apart := false, narrowed := true }
def TopTabledUptoSaid : Prop := topTabledUptoRow.holds Try.pinned (OpenSpec.upto topTabledSpec)

/-- 'distafftop.TopStrode', WHERE WHAT IT READS IS OF BULK AT MOST 1048576: true; the input reads as it did. -/
def topStrodeUptoRow : OpenClaim := { program := "ytciiihiklobkaaa", sum := "0b2ccf6f31720e614781e93bfa057a74f3a79a37da221648ec5d2f1027007828", func := "distaff/distafftop.TopStrode", spec := "topStrode", unfollowed := true, recurses := true, plainKeys := false, apart := false, narrowed := true }
def TopStrodeUptoSaid : Prop := topStrodeUptoRow.holds Try.pinned (OpenSpec.upto topStrodeSpec)

end Rows
end Go.Proofs.Ytciiihiklobkaaa
