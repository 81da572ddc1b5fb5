/-
  DERIVED. GIVEN WITH THE SEED: THE CARDS: each row of YtljjdeanilgloaaGreatDoorRows.lean that lists a variable, with what it lists TIED to the program's text (the seventh form; the later family's looks); each row that meets fmt, with fmt's text TOLD by the authors' own Lean function (tested against real Go, not proved from fmt's source: count such statements apart). THE CARD IS WHAT COUNTS. Prove the row's statement (the work); the ties are given (YtljjdeanilgloaaGreatDoorTie.lean); close each card by the builder's one call (the guide's Derived/Test/ToyasCard.lean, 'card_holds'). Laid BY PROGRAM, IN A SANDBOX (cutbox-door.mjs). By AI agents, Wed Nov 11 2026. No macro, syntax, notation, axiom, sorry.
-/
import Derived.Test.YtljjdeanilgloaaGreatDoorRows
import GoSem.ClaimSeven
namespace Go.Proofs.YtljjdeanilgloaaGreatDoor
namespace Rows

/-- THE TIED CARD OF 'parrellaw23.TxPuts'. -/
def txPutsCard : Claim7 := { stood := { row := txPutsRow, standIns := [], harness := (true, "1c99a4ec44b4b6458d081297f3f3244019842182f84bac77574e865773b25316"), looks := false }, kinds := [], alts := [], laidByText := true, laidKinds := [.data, .data, .pinned], laidTests := true, laidLooks := .later }
def TxPutsCardSaid : Prop := Claim7.holds Tryz.pinned (.plain (OpenSpec.ofChange txPutsSpec)) txPutsCard

/-- THE TIED CARD OF 'parrellaw23.TxNobody'. -/
def txNobodyCard : Claim7 := { stood := { row := txNobodyRow, standIns := [], harness := (true, "1c99a4ec44b4b6458d081297f3f3244019842182f84bac77574e865773b25316"), looks := false }, kinds := [], alts := [], laidByText := true, laidKinds := [.data, .data, .pinned], laidTests := true, laidLooks := .later }
def TxNobodyCardSaid : Prop := Claim7.holds Tryz.pinned (.plain (OpenSpec.ofChange txNobodySpec)) txNobodyCard

/-- THE SECOND FORM's CARD OF 'parrellaw23.TxPuts'. -/
def txPutsUptoCard : Claim7 := { stood := { row := txPutsUptoRow, standIns := [], harness := (true, "1c99a4ec44b4b6458d081297f3f3244019842182f84bac77574e865773b25316"), looks := false }, kinds := [], alts := [], laidByText := true, laidKinds := [.data, .data, .pinned], laidTests := true, laidLooks := .later }
def TxPutsUptoCardSaid : Prop := Claim7.holds Tryz.pinned (.plain (OpenSpec.upto txPutsSpec)) txPutsUptoCard

/-- THE SECOND FORM's CARD OF 'parrellaw23.TxNobody'. -/
def txNobodyUptoCard : Claim7 := { stood := { row := txNobodyUptoRow, standIns := [], harness := (true, "1c99a4ec44b4b6458d081297f3f3244019842182f84bac77574e865773b25316"), looks := false }, kinds := [], alts := [], laidByText := true, laidKinds := [.data, .data, .pinned], laidTests := true, laidLooks := .later }
def TxNobodyUptoCardSaid : Prop := Claim7.holds Tryz.pinned (.plain (OpenSpec.upto txNobodySpec)) txNobodyUptoCard
end Rows
end Go.Proofs.YtljjdeanilgloaaGreatDoor
