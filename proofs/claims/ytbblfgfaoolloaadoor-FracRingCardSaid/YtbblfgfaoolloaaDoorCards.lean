/-
  DERIVED. GIVEN WITH THE SEED: THE CARDS: each row of YtbblfgfaoolloaaDoorRows.lean that lists a variable, with what it lists TIED to the program's text (the seventh form; the later family's looks); each row that meets fmt, with fmt's text TOLD by the authors' own Lean function (tested against real Go, not proved from fmt's source: count such statements apart). THE CARD IS WHAT COUNTS. Prove the row's statement (the work); the ties are given (YtbblfgfaoolloaaDoorTie.lean); close each card by the builder's one call (the guide's Derived/Test/ToyasCard.lean, 'card_holds'). Laid BY PROGRAM, IN A SANDBOX (cutbox-door.mjs). By AI agents, Wed Nov 11 2026. No macro, syntax, notation, axiom, sorry.
-/
import Derived.Test.YtbblfgfaoolloaaDoorRows
import GoSem.ClaimSeven
namespace Go.Proofs.YtbblfgfaoolloaaDoor
namespace Rows

/-- THE TIED CARD OF 'finesselaw01.FracReads'. -/
def fracReadsCard : Claim7 := { stood := { row := fracReadsRow, standIns := [], harness := (true, "c839619d8e0d3d1b33417ff85ab73d1350b14267ef6a31660af687abee6b1771"), looks := true }, kinds := [], alts := [], laidByText := true, laidKinds := [.data, .data, .data, .sentinel, .sentinel], laidTests := true, laidLooks := .later }
def FracReadsCardSaid : Prop := Claim7.holds Tryd.pinned (.plain (OpenSpec.ofChange fracReadsSpec)) fracReadsCard

/-- THE TIED CARD OF 'finesselaw01.FracOrder'. -/
def fracOrderCard : Claim7 := { stood := { row := fracOrderRow, standIns := [], harness := (true, "c839619d8e0d3d1b33417ff85ab73d1350b14267ef6a31660af687abee6b1771"), looks := true }, kinds := [], alts := [], laidByText := true, laidKinds := [.data, .data, .data, .sentinel, .sentinel], laidTests := true, laidLooks := .later }
def FracOrderCardSaid : Prop := Claim7.holds Tryd.pinned (.plain (OpenSpec.ofChange fracOrderSpec)) fracOrderCard

/-- THE TIED CARD OF 'finesselaw01.FracBack'. -/
def fracBackCard : Claim7 := { stood := { row := fracBackRow, standIns := [], harness := (true, "c839619d8e0d3d1b33417ff85ab73d1350b14267ef6a31660af687abee6b1771"), looks := true }, kinds := [], alts := [], laidByText := true, laidKinds := [.data, .data, .data, .sentinel, .sentinel], laidTests := true, laidLooks := .later }
def FracBackCardSaid : Prop := Claim7.holds Tryd.pinned (.plain (OpenSpec.ofChange fracBackSpec)) fracBackCard

/-- THE TIED CARD OF 'finesselaw01.FracWide'. -/
def fracWideCard : Claim7 := { stood := { row := fracWideRow, standIns := [], harness := (true, "c839619d8e0d3d1b33417ff85ab73d1350b14267ef6a31660af687abee6b1771"), looks := true }, kinds := [], alts := [], laidByText := true, laidKinds := [.data, .data, .data, .sentinel, .sentinel], laidTests := true, laidLooks := .later }
def FracWideCardSaid : Prop := Claim7.holds Tryd.pinned (.plain (OpenSpec.ofChange fracWideSpec)) fracWideCard

/-- THE TIED CARD OF 'finesselaw01.FracNear'. -/
def fracNearCard : Claim7 := { stood := { row := fracNearRow, standIns := [], harness := (true, "c839619d8e0d3d1b33417ff85ab73d1350b14267ef6a31660af687abee6b1771"), looks := true }, kinds := [], alts := [], laidByText := true, laidKinds := [.data, .data, .data, .sentinel, .sentinel], laidTests := true, laidLooks := .later }
def FracNearCardSaid : Prop := Claim7.holds Tryd.pinned (.plain (OpenSpec.ofChange fracNearSpec)) fracNearCard

/-- THE TIED CARD OF 'finesselaw01.FracRing'. -/
def fracRingCard : Claim7 := { stood := { row := fracRingRow, standIns := [], harness := (true, "c839619d8e0d3d1b33417ff85ab73d1350b14267ef6a31660af687abee6b1771"), looks := true }, kinds := [], alts := [], laidByText := true, laidKinds := [.data, .data, .data, .sentinel, .sentinel], laidTests := true, laidLooks := .later }
def FracRingCardSaid : Prop := Claim7.holds Tryd.pinned (.plain (OpenSpec.ofChange fracRingSpec)) fracRingCard

/-- THE TIED CARD OF 'finesselaw01.FracWrong'. -/
def fracWrongCard : Claim7 := { stood := { row := fracWrongRow, standIns := [], harness := (true, "c839619d8e0d3d1b33417ff85ab73d1350b14267ef6a31660af687abee6b1771"), looks := true }, kinds := [], alts := [], laidByText := true, laidKinds := [.data, .data, .data, .sentinel, .sentinel], laidTests := true, laidLooks := .later }
def FracWrongCardSaid : Prop := Claim7.holds Tryd.pinned (.plain (OpenSpec.ofChange fracWrongSpec)) fracWrongCard

/-- THE SECOND FORM's CARD OF 'finesselaw01.FracReads'. -/
def fracReadsUptoCard : Claim7 := { stood := { row := fracReadsUptoRow, standIns := [], harness := (true, "c839619d8e0d3d1b33417ff85ab73d1350b14267ef6a31660af687abee6b1771"), looks := true }, kinds := [], alts := [], laidByText := true, laidKinds := [.data, .data, .data, .sentinel, .sentinel], laidTests := true, laidLooks := .later }
def FracReadsUptoCardSaid : Prop := Claim7.holds Tryd.pinned (.plain (OpenSpec.upto fracReadsSpec)) fracReadsUptoCard

/-- THE SECOND FORM's CARD OF 'finesselaw01.FracOrder'. -/
def fracOrderUptoCard : Claim7 := { stood := { row := fracOrderUptoRow, standIns := [], harness := (true, "c839619d8e0d3d1b33417ff85ab73d1350b14267ef6a31660af687abee6b1771"), looks := true }, kinds := [], alts := [], laidByText := true, laidKinds := [.data, .data, .data, .sentinel, .sentinel], laidTests := true, laidLooks := .later }
def FracOrderUptoCardSaid : Prop := Claim7.holds Tryd.pinned (.plain (OpenSpec.upto fracOrderSpec)) fracOrderUptoCard

/-- THE SECOND FORM's CARD OF 'finesselaw01.FracBack'. -/
def fracBackUptoCard : Claim7 := { stood := { row := fracBackUptoRow, standIns := [], harness := (true, "c839619d8e0d3d1b33417ff85ab73d1350b14267ef6a31660af687abee6b1771"), looks := true }, kinds := [], alts := [], laidByText := true, laidKinds := [.data, .data, .data, .sentinel, .sentinel], laidTests := true, laidLooks := .later }
def FracBackUptoCardSaid : Prop := Claim7.holds Tryd.pinned (.plain (OpenSpec.upto fracBackSpec)) fracBackUptoCard

/-- THE SECOND FORM's CARD OF 'finesselaw01.FracWide'. -/
def fracWideUptoCard : Claim7 := { stood := { row := fracWideUptoRow, standIns := [], harness := (true, "c839619d8e0d3d1b33417ff85ab73d1350b14267ef6a31660af687abee6b1771"), looks := true }, kinds := [], alts := [], laidByText := true, laidKinds := [.data, .data, .data, .sentinel, .sentinel], laidTests := true, laidLooks := .later }
def FracWideUptoCardSaid : Prop := Claim7.holds Tryd.pinned (.plain (OpenSpec.upto fracWideSpec)) fracWideUptoCard

/-- THE SECOND FORM's CARD OF 'finesselaw01.FracNear'. -/
def fracNearUptoCard : Claim7 := { stood := { row := fracNearUptoRow, standIns := [], harness := (true, "c839619d8e0d3d1b33417ff85ab73d1350b14267ef6a31660af687abee6b1771"), looks := true }, kinds := [], alts := [], laidByText := true, laidKinds := [.data, .data, .data, .sentinel, .sentinel], laidTests := true, laidLooks := .later }
def FracNearUptoCardSaid : Prop := Claim7.holds Tryd.pinned (.plain (OpenSpec.upto fracNearSpec)) fracNearUptoCard

/-- THE SECOND FORM's CARD OF 'finesselaw01.FracRing'. -/
def fracRingUptoCard : Claim7 := { stood := { row := fracRingUptoRow, standIns := [], harness := (true, "c839619d8e0d3d1b33417ff85ab73d1350b14267ef6a31660af687abee6b1771"), looks := true }, kinds := [], alts := [], laidByText := true, laidKinds := [.data, .data, .data, .sentinel, .sentinel], laidTests := true, laidLooks := .later }
def FracRingUptoCardSaid : Prop := Claim7.holds Tryd.pinned (.plain (OpenSpec.upto fracRingSpec)) fracRingUptoCard

/-- THE SECOND FORM's CARD OF 'finesselaw01.FracWrong'. -/
def fracWrongUptoCard : Claim7 := { stood := { row := fracWrongUptoRow, standIns := [], harness := (true, "c839619d8e0d3d1b33417ff85ab73d1350b14267ef6a31660af687abee6b1771"), looks := true }, kinds := [], alts := [], laidByText := true, laidKinds := [.data, .data, .data, .sentinel, .sentinel], laidTests := true, laidLooks := .later }
def FracWrongUptoCardSaid : Prop := Claim7.holds Tryd.pinned (.plain (OpenSpec.upto fracWrongSpec)) fracWrongUptoCard
end Rows
end Go.Proofs.YtbblfgfaoolloaaDoor
