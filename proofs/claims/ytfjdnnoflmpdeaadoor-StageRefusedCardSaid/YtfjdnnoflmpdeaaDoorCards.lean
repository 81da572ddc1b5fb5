/-
  DERIVED. GIVEN WITH THE SEED: THE CARDS: each row of YtfjdnnoflmpdeaaDoorRows.lean that lists a variable, with what it lists TIED to the program's text (the seventh form; the later family's looks); each row that meets fmt, with fmt's text TOLD by the authors' own Lean function (tested against real Go, not proved from fmt's source: count such statements apart). THE CARD IS WHAT COUNTS. Prove the row's statement (the work); the ties are given (YtfjdnnoflmpdeaaDoorTie.lean); close each card by the builder's one call (the guide's Derived/Test/ToyasCard.lean, 'card_holds'). Laid BY PROGRAM, IN A SANDBOX (cutbox-door.mjs). By AI agents, Wed Nov 11 2026. No macro, syntax, notation, axiom, sorry.
-/
import Derived.Test.YtfjdnnoflmpdeaaDoorRows
import GoSem.ClaimSeven
namespace Go.Proofs.YtfjdnnoflmpdeaaDoor
namespace Rows

/-- THE TIED CARD OF 'parrellaw14.StageBack'. -/
def stageBackCard : Claim7 := { stood := { row := stageBackRow, standIns := [], harness := (true, "409217584c03a1d1f92a63494b6b410164455f109648bc36f1e152cbab16eae2"), looks := false }, kinds := [], alts := [], laidByText := true, laidKinds := [.data, .pinned], laidTests := true, laidLooks := .later }
def StageBackCardSaid : Prop := Claim7.holds Tryd.pinned (.plain (OpenSpec.ofChange stageBackSpec)) stageBackCard

/-- THE TIED CARD OF 'parrellaw14.StagePlays'. -/
def stagePlaysCard : Claim7 := { stood := { row := stagePlaysRow, standIns := [], harness := (true, "409217584c03a1d1f92a63494b6b410164455f109648bc36f1e152cbab16eae2"), looks := false }, kinds := [], alts := [], laidByText := true, laidKinds := [.data, .pinned], laidTests := true, laidLooks := .later }
def StagePlaysCardSaid : Prop := Claim7.holds Tryd.pinned (.plain (OpenSpec.ofChange stagePlaysSpec)) stagePlaysCard

/-- THE TIED CARD OF 'parrellaw14.StageOwners'. -/
def stageOwnersCard : Claim7 := { stood := { row := stageOwnersRow, standIns := [], harness := (true, "409217584c03a1d1f92a63494b6b410164455f109648bc36f1e152cbab16eae2"), looks := false }, kinds := [], alts := [], laidByText := true, laidKinds := [.data, .pinned], laidTests := true, laidLooks := .later }
def StageOwnersCardSaid : Prop := Claim7.holds Tryd.pinned (.plain (OpenSpec.ofChange stageOwnersSpec)) stageOwnersCard

/-- THE TIED CARD OF 'parrellaw14.StageRefused'. -/
def stageRefusedCard : Claim7 := { stood := { row := stageRefusedRow, standIns := [], harness := (true, "409217584c03a1d1f92a63494b6b410164455f109648bc36f1e152cbab16eae2"), looks := false }, kinds := [], alts := [], laidByText := true, laidKinds := [.data, .pinned], laidTests := true, laidLooks := .later }
def StageRefusedCardSaid : Prop := Claim7.holds Tryd.pinned (.plain (OpenSpec.ofChange stageRefusedSpec)) stageRefusedCard

/-- THE SECOND FORM's CARD OF 'parrellaw14.StageBack'. -/
def stageBackUptoCard : Claim7 := { stood := { row := stageBackUptoRow, standIns := [], harness := (true, "409217584c03a1d1f92a63494b6b410164455f109648bc36f1e152cbab16eae2"), looks := false }, kinds := [], alts := [], laidByText := true, laidKinds := [.data, .pinned], laidTests := true, laidLooks := .later }
def StageBackUptoCardSaid : Prop := Claim7.holds Tryd.pinned (.plain (OpenSpec.upto stageBackSpec)) stageBackUptoCard

/-- THE SECOND FORM's CARD OF 'parrellaw14.StagePlays'. -/
def stagePlaysUptoCard : Claim7 := { stood := { row := stagePlaysUptoRow, standIns := [], harness := (true, "409217584c03a1d1f92a63494b6b410164455f109648bc36f1e152cbab16eae2"), looks := false }, kinds := [], alts := [], laidByText := true, laidKinds := [.data, .pinned], laidTests := true, laidLooks := .later }
def StagePlaysUptoCardSaid : Prop := Claim7.holds Tryd.pinned (.plain (OpenSpec.upto stagePlaysSpec)) stagePlaysUptoCard

/-- THE SECOND FORM's CARD OF 'parrellaw14.StageOwners'. -/
def stageOwnersUptoCard : Claim7 := { stood := { row := stageOwnersUptoRow, standIns := [], harness := (true, "409217584c03a1d1f92a63494b6b410164455f109648bc36f1e152cbab16eae2"), looks := false }, kinds := [], alts := [], laidByText := true, laidKinds := [.data, .pinned], laidTests := true, laidLooks := .later }
def StageOwnersUptoCardSaid : Prop := Claim7.holds Tryd.pinned (.plain (OpenSpec.upto stageOwnersSpec)) stageOwnersUptoCard

/-- THE SECOND FORM's CARD OF 'parrellaw14.StageRefused'. -/
def stageRefusedUptoCard : Claim7 := { stood := { row := stageRefusedUptoRow, standIns := [], harness := (true, "409217584c03a1d1f92a63494b6b410164455f109648bc36f1e152cbab16eae2"), looks := false }, kinds := [], alts := [], laidByText := true, laidKinds := [.data, .pinned], laidTests := true, laidLooks := .later }
def StageRefusedUptoCardSaid : Prop := Claim7.holds Tryd.pinned (.plain (OpenSpec.upto stageRefusedSpec)) stageRefusedUptoCard
end Rows
end Go.Proofs.YtfjdnnoflmpdeaaDoor
