/-
  DERIVED. GIVEN WITH THE SEED: THE CARDS: each row of YtfkpbchdapccmaaDoorRows.lean that lists a variable, with what it lists TIED to the program's text (the seventh form; the later family's looks); each row that meets fmt, with fmt's text TOLD by the authors' own Lean function (tested against real Go, not proved from fmt's source: count such statements apart). THE CARD IS WHAT COUNTS. Prove the row's statement (the work); the ties are given (YtfkpbchdapccmaaDoorTie.lean); close each card by the builder's one call (the guide's Derived/Test/ToyasCard.lean, 'card_holds'). Laid BY PROGRAM, IN A SANDBOX (cutbox-door.mjs). By AI agents, Wed Nov 11 2026. No macro, syntax, notation, axiom, sorry.
-/
import Derived.Test.YtfkpbchdapccmaaDoorRows
import GoSem.ClaimSeven
namespace Go.Proofs.YtfkpbchdapccmaaDoor
namespace Rows

/-- THE TIED CARD OF 'finesselaw17.ScoreTells'. -/
def scoreTellsCard : Claim7 := { stood := { row := scoreTellsRow, standIns := [], harness := (true, "7014be9d2f725d3a4499803a80c30dee25e4f449ac55d0eb5cc6c49f7b0024a1"), looks := true }, kinds := [], alts := [], laidByText := true, laidKinds := [.data, .data, .data, .sentinel, .sentinel], laidTests := true, laidLooks := .later }
def ScoreTellsCardSaid : Prop := Claim7.holds Tryd.pinned (.plain (OpenSpec.ofChange scoreTellsSpec)) scoreTellsCard

/-- THE TIED CARD OF 'finesselaw17.ScoreReads'. -/
def scoreReadsCard : Claim7 := { stood := { row := scoreReadsRow, standIns := [], harness := (true, "7014be9d2f725d3a4499803a80c30dee25e4f449ac55d0eb5cc6c49f7b0024a1"), looks := true }, kinds := [], alts := [], laidByText := true, laidKinds := [.data, .data, .data, .sentinel, .sentinel], laidTests := true, laidLooks := .later }
def ScoreReadsCardSaid : Prop := Claim7.holds Tryd.pinned (.plain (OpenSpec.ofChange scoreReadsSpec)) scoreReadsCard

/-- THE TIED CARD OF 'finesselaw17.ScoreSmall'. -/
def scoreSmallCard : Claim7 := { stood := { row := scoreSmallRow, standIns := [], harness := (true, "7014be9d2f725d3a4499803a80c30dee25e4f449ac55d0eb5cc6c49f7b0024a1"), looks := true }, kinds := [], alts := [], laidByText := true, laidKinds := [.data, .data, .data, .sentinel, .sentinel], laidTests := true, laidLooks := .later }
def ScoreSmallCardSaid : Prop := Claim7.holds Tryd.pinned (.plain (OpenSpec.ofChange scoreSmallSpec)) scoreSmallCard

/-- THE TIED CARD OF 'finesselaw17.ScoreGrows'. -/
def scoreGrowsCard : Claim7 := { stood := { row := scoreGrowsRow, standIns := [], harness := (true, "7014be9d2f725d3a4499803a80c30dee25e4f449ac55d0eb5cc6c49f7b0024a1"), looks := true }, kinds := [], alts := [], laidByText := true, laidKinds := [.data, .data, .data, .sentinel, .sentinel], laidTests := true, laidLooks := .later }
def ScoreGrowsCardSaid : Prop := Claim7.holds Tryd.pinned (.plain (OpenSpec.ofChange scoreGrowsSpec)) scoreGrowsCard

/-- THE TIED CARD OF 'finesselaw17.ScoreTurns'. -/
def scoreTurnsCard : Claim7 := { stood := { row := scoreTurnsRow, standIns := [], harness := (true, "7014be9d2f725d3a4499803a80c30dee25e4f449ac55d0eb5cc6c49f7b0024a1"), looks := true }, kinds := [], alts := [], laidByText := true, laidKinds := [.data, .data, .data, .sentinel, .sentinel], laidTests := true, laidLooks := .later }
def ScoreTurnsCardSaid : Prop := Claim7.holds Tryd.pinned (.plain (OpenSpec.ofChange scoreTurnsSpec)) scoreTurnsCard

/-- THE TIED CARD OF 'finesselaw17.ScoreParts'. -/
def scorePartsCard : Claim7 := { stood := { row := scorePartsRow, standIns := [], harness := (true, "7014be9d2f725d3a4499803a80c30dee25e4f449ac55d0eb5cc6c49f7b0024a1"), looks := true }, kinds := [], alts := [], laidByText := true, laidKinds := [.data, .data, .data, .sentinel, .sentinel], laidTests := true, laidLooks := .later }
def ScorePartsCardSaid : Prop := Claim7.holds Tryd.pinned (.plain (OpenSpec.ofChange scorePartsSpec)) scorePartsCard

/-- THE TIED CARD OF 'finesselaw17.ScoreBack'. -/
def scoreBackCard : Claim7 := { stood := { row := scoreBackRow, standIns := [], harness := (true, "7014be9d2f725d3a4499803a80c30dee25e4f449ac55d0eb5cc6c49f7b0024a1"), looks := true }, kinds := [], alts := [], laidByText := true, laidKinds := [.data, .data, .data, .sentinel, .sentinel], laidTests := true, laidLooks := .later }
def ScoreBackCardSaid : Prop := Claim7.holds Tryd.pinned (.plain (OpenSpec.ofChange scoreBackSpec)) scoreBackCard

/-- THE TIED CARD OF 'finesselaw17.ScoreWrong'. -/
def scoreWrongCard : Claim7 := { stood := { row := scoreWrongRow, standIns := [], harness := (true, "7014be9d2f725d3a4499803a80c30dee25e4f449ac55d0eb5cc6c49f7b0024a1"), looks := true }, kinds := [], alts := [], laidByText := true, laidKinds := [.data, .data, .data, .sentinel, .sentinel], laidTests := true, laidLooks := .later }
def ScoreWrongCardSaid : Prop := Claim7.holds Tryd.pinned (.plain (OpenSpec.ofChange scoreWrongSpec)) scoreWrongCard

/-- THE SECOND FORM's CARD OF 'finesselaw17.ScoreTells'. -/
def scoreTellsUptoCard : Claim7 := { stood := { row := scoreTellsUptoRow, standIns := [], harness := (true, "7014be9d2f725d3a4499803a80c30dee25e4f449ac55d0eb5cc6c49f7b0024a1"), looks := true }, kinds := [], alts := [], laidByText := true, laidKinds := [.data, .data, .data, .sentinel, .sentinel], laidTests := true, laidLooks := .later }
def ScoreTellsUptoCardSaid : Prop := Claim7.holds Tryd.pinned (.plain (OpenSpec.upto scoreTellsSpec)) scoreTellsUptoCard

/-- THE SECOND FORM's CARD OF 'finesselaw17.ScoreReads'. -/
def scoreReadsUptoCard : Claim7 := { stood := { row := scoreReadsUptoRow, standIns := [], harness := (true, "7014be9d2f725d3a4499803a80c30dee25e4f449ac55d0eb5cc6c49f7b0024a1"), looks := true }, kinds := [], alts := [], laidByText := true, laidKinds := [.data, .data, .data, .sentinel, .sentinel], laidTests := true, laidLooks := .later }
def ScoreReadsUptoCardSaid : Prop := Claim7.holds Tryd.pinned (.plain (OpenSpec.upto scoreReadsSpec)) scoreReadsUptoCard

/-- THE SECOND FORM's CARD OF 'finesselaw17.ScoreSmall'. -/
def scoreSmallUptoCard : Claim7 := { stood := { row := scoreSmallUptoRow, standIns := [], harness := (true, "7014be9d2f725d3a4499803a80c30dee25e4f449ac55d0eb5cc6c49f7b0024a1"), looks := true }, kinds := [], alts := [], laidByText := true, laidKinds := [.data, .data, .data, .sentinel, .sentinel], laidTests := true, laidLooks := .later }
def ScoreSmallUptoCardSaid : Prop := Claim7.holds Tryd.pinned (.plain (OpenSpec.upto scoreSmallSpec)) scoreSmallUptoCard

/-- THE SECOND FORM's CARD OF 'finesselaw17.ScoreGrows'. -/
def scoreGrowsUptoCard : Claim7 := { stood := { row := scoreGrowsUptoRow, standIns := [], harness := (true, "7014be9d2f725d3a4499803a80c30dee25e4f449ac55d0eb5cc6c49f7b0024a1"), looks := true }, kinds := [], alts := [], laidByText := true, laidKinds := [.data, .data, .data, .sentinel, .sentinel], laidTests := true, laidLooks := .later }
def ScoreGrowsUptoCardSaid : Prop := Claim7.holds Tryd.pinned (.plain (OpenSpec.upto scoreGrowsSpec)) scoreGrowsUptoCard

/-- THE SECOND FORM's CARD OF 'finesselaw17.ScoreTurns'. -/
def scoreTurnsUptoCard : Claim7 := { stood := { row := scoreTurnsUptoRow, standIns := [], harness := (true, "7014be9d2f725d3a4499803a80c30dee25e4f449ac55d0eb5cc6c49f7b0024a1"), looks := true }, kinds := [], alts := [], laidByText := true, laidKinds := [.data, .data, .data, .sentinel, .sentinel], laidTests := true, laidLooks := .later }
def ScoreTurnsUptoCardSaid : Prop := Claim7.holds Tryd.pinned (.plain (OpenSpec.upto scoreTurnsSpec)) scoreTurnsUptoCard

/-- THE SECOND FORM's CARD OF 'finesselaw17.ScoreParts'. -/
def scorePartsUptoCard : Claim7 := { stood := { row := scorePartsUptoRow, standIns := [], harness := (true, "7014be9d2f725d3a4499803a80c30dee25e4f449ac55d0eb5cc6c49f7b0024a1"), looks := true }, kinds := [], alts := [], laidByText := true, laidKinds := [.data, .data, .data, .sentinel, .sentinel], laidTests := true, laidLooks := .later }
def ScorePartsUptoCardSaid : Prop := Claim7.holds Tryd.pinned (.plain (OpenSpec.upto scorePartsSpec)) scorePartsUptoCard

/-- THE SECOND FORM's CARD OF 'finesselaw17.ScoreBack'. -/
def scoreBackUptoCard : Claim7 := { stood := { row := scoreBackUptoRow, standIns := [], harness := (true, "7014be9d2f725d3a4499803a80c30dee25e4f449ac55d0eb5cc6c49f7b0024a1"), looks := true }, kinds := [], alts := [], laidByText := true, laidKinds := [.data, .data, .data, .sentinel, .sentinel], laidTests := true, laidLooks := .later }
def ScoreBackUptoCardSaid : Prop := Claim7.holds Tryd.pinned (.plain (OpenSpec.upto scoreBackSpec)) scoreBackUptoCard

/-- THE SECOND FORM's CARD OF 'finesselaw17.ScoreWrong'. -/
def scoreWrongUptoCard : Claim7 := { stood := { row := scoreWrongUptoRow, standIns := [], harness := (true, "7014be9d2f725d3a4499803a80c30dee25e4f449ac55d0eb5cc6c49f7b0024a1"), looks := true }, kinds := [], alts := [], laidByText := true, laidKinds := [.data, .data, .data, .sentinel, .sentinel], laidTests := true, laidLooks := .later }
def ScoreWrongUptoCardSaid : Prop := Claim7.holds Tryd.pinned (.plain (OpenSpec.upto scoreWrongSpec)) scoreWrongUptoCard
end Rows
end Go.Proofs.YtfkpbchdapccmaaDoor
