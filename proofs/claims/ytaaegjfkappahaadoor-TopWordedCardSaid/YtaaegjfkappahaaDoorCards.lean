/-
  DERIVED. GIVEN WITH THE SEED: THE CARDS: each row of YtaaegjfkappahaaDoorRows.lean that lists a variable, with what it lists TIED to the program's text (the seventh form; the later family's looks); each row that meets fmt, with fmt's text TOLD by the authors' own Lean function (tested against real Go, not proved from fmt's source: count such statements apart). THE CARD IS WHAT COUNTS. Prove the row's statement (the work); the ties are given (YtaaegjfkappahaaDoorTie.lean); close each card by the builder's one call (the guide's Derived/Test/ToyasCard.lean, 'card_holds'). Laid BY PROGRAM, IN A SANDBOX (cutbox-door.mjs). By AI agents, Wed Nov 11 2026. No macro, syntax, notation, axiom, sorry.
-/
import Derived.Test.YtaaegjfkappahaaDoorRows
import GoSem.ClaimSeven
namespace Go.Proofs.YtaaegjfkappahaaDoor
namespace Rows

/-- THE TIED CARD OF 'distafftop.TopWorded'. -/
def topWordedCard : Claim7 := { stood := { row := topWordedRow, standIns := [], harness := (true, "249ac6bf3d82f80285ce4c77912a8750db7382cd321eb32acfc0f17b36b496f4"), looks := true }, kinds := [], alts := [], laidByText := true, laidKinds := [.data, .data, .data], laidTests := true, laidLooks := .later }
def TopWordedCardSaid : Prop := Claim7.holds Tryd.pinned (.plain (OpenSpec.ofChange topWordedSpec)) topWordedCard

/-- THE TIED CARD OF 'distafftop.TopClocked'. -/
def topClockedCard : Claim7 := { stood := { row := topClockedRow, standIns := [], harness := (true, "249ac6bf3d82f80285ce4c77912a8750db7382cd321eb32acfc0f17b36b496f4"), looks := true }, kinds := [], alts := [], laidByText := true, laidKinds := [.data, .data, .data, .sentinel, .sentinel], laidTests := true, laidLooks := .later }
def TopClockedCardSaid : Prop := Claim7.holds Tryd.pinned (.plain (OpenSpec.ofChange topClockedSpec)) topClockedCard

/-- THE TIED CARD OF 'distafftop.TopNamed'. -/
def topNamedCard : Claim7 := { stood := { row := topNamedRow, standIns := [], harness := (true, "249ac6bf3d82f80285ce4c77912a8750db7382cd321eb32acfc0f17b36b496f4"), looks := true }, kinds := [], alts := [], laidByText := true, laidKinds := [.data, .data, .data, .data, .sentinel, .sentinel, .pinned], laidTests := true, laidLooks := .later }
def TopNamedCardSaid : Prop := Claim7.holds Tryd.pinned (.plain (OpenSpec.ofChange topNamedSpec)) topNamedCard

/-- THE SECOND FORM's CARD OF 'distafftop.TopWorded'. -/
def topWordedUptoCard : Claim7 := { stood := { row := topWordedUptoRow, standIns := [], harness := (true, "249ac6bf3d82f80285ce4c77912a8750db7382cd321eb32acfc0f17b36b496f4"), looks := true }, kinds := [], alts := [], laidByText := true, laidKinds := [.data, .data, .data], laidTests := true, laidLooks := .later }
def TopWordedUptoCardSaid : Prop := Claim7.holds Tryd.pinned (.plain (OpenSpec.upto topWordedSpec)) topWordedUptoCard

/-- THE SECOND FORM's CARD OF 'distafftop.TopClocked'. -/
def topClockedUptoCard : Claim7 := { stood := { row := topClockedUptoRow, standIns := [], harness := (true, "249ac6bf3d82f80285ce4c77912a8750db7382cd321eb32acfc0f17b36b496f4"), looks := true }, kinds := [], alts := [], laidByText := true, laidKinds := [.data, .data, .data, .sentinel, .sentinel], laidTests := true, laidLooks := .later }
def TopClockedUptoCardSaid : Prop := Claim7.holds Tryd.pinned (.plain (OpenSpec.upto topClockedSpec)) topClockedUptoCard

/-- THE SECOND FORM's CARD OF 'distafftop.TopNamed'. -/
def topNamedUptoCard : Claim7 := { stood := { row := topNamedUptoRow, standIns := [], harness := (true, "249ac6bf3d82f80285ce4c77912a8750db7382cd321eb32acfc0f17b36b496f4"), looks := true }, kinds := [], alts := [], laidByText := true, laidKinds := [.data, .data, .data, .data, .sentinel, .sentinel, .pinned], laidTests := true, laidLooks := .later }
def TopNamedUptoCardSaid : Prop := Claim7.holds Tryd.pinned (.plain (OpenSpec.upto topNamedSpec)) topNamedUptoCard
end Rows
end Go.Proofs.YtaaegjfkappahaaDoor
