/-
  DERIVED. GIVEN WITH THE SEED: THE CARDS: each row of YtddgjfclpknkcaaGreatDoorRows.lean that lists a variable, with what it lists TIED to the program's text (the seventh form; the later family's looks); each row that meets fmt, with fmt's text TOLD by the authors' own Lean function (tested against real Go, not proved from fmt's source: count such statements apart). THE CARD IS WHAT COUNTS. Prove the row's statement (the work); the ties are given (YtddgjfclpknkcaaGreatDoorTie.lean); close each card by the builder's one call (the guide's Derived/Test/ToyasCard.lean, 'card_holds'). Laid BY PROGRAM, IN A SANDBOX (cutbox-door.mjs). By AI agents, Wed Nov 11 2026. No macro, syntax, notation, axiom, sorry.
-/
import Derived.Test.YtddgjfclpknkcaaGreatDoorRows
import GoSem.ClaimSeven
namespace Go.Proofs.YtddgjfclpknkcaaGreatDoor
namespace Rows

/-- THE TIED CARD OF 'parrellaw15.LockPrepared'. -/
def lockPreparedCard : Claim7 := { stood := { row := lockPreparedRow, standIns := [], harness := (true, "c2506ba0eb6fad4187667338e383c662457c67c92586dcb847127be322503243"), looks := false }, kinds := [], alts := [], laidByText := true, laidKinds := [.data, .pinned], laidTests := true, laidLooks := .later }
def LockPreparedCardSaid : Prop := Claim7.holds Tryz.pinned (.plain (OpenSpec.ofChange lockPreparedSpec)) lockPreparedCard

/-- THE TIED CARD OF 'parrellaw15.LockTogether'. -/
def lockTogetherCard : Claim7 := { stood := { row := lockTogetherRow, standIns := [], harness := (true, "c2506ba0eb6fad4187667338e383c662457c67c92586dcb847127be322503243"), looks := false }, kinds := [], alts := [], laidByText := true, laidKinds := [.data, .pinned], laidTests := true, laidLooks := .later }
def LockTogetherCardSaid : Prop := Claim7.holds Tryz.pinned (.plain (OpenSpec.ofChange lockTogetherSpec)) lockTogetherCard

/-- THE TIED CARD OF 'parrellaw15.LockFree'. -/
def lockFreeCard : Claim7 := { stood := { row := lockFreeRow, standIns := [], harness := (true, "c2506ba0eb6fad4187667338e383c662457c67c92586dcb847127be322503243"), looks := false }, kinds := [], alts := [], laidByText := true, laidKinds := [.data, .pinned], laidTests := true, laidLooks := .later }
def LockFreeCardSaid : Prop := Claim7.holds Tryz.pinned (.plain (OpenSpec.ofChange lockFreeSpec)) lockFreeCard

/-- THE TIED CARD OF 'parrellaw15.LockPlays'. -/
def lockPlaysCard : Claim7 := { stood := { row := lockPlaysRow, standIns := [], harness := (true, "c2506ba0eb6fad4187667338e383c662457c67c92586dcb847127be322503243"), looks := false }, kinds := [], alts := [], laidByText := true, laidKinds := [.data, .pinned], laidTests := true, laidLooks := .later }
def LockPlaysCardSaid : Prop := Claim7.holds Tryz.pinned (.plain (OpenSpec.ofChange lockPlaysSpec)) lockPlaysCard

/-- THE TIED CARD OF 'parrellaw15.LockAges'. -/
def lockAgesCard : Claim7 := { stood := { row := lockAgesRow, standIns := [], harness := (true, "c2506ba0eb6fad4187667338e383c662457c67c92586dcb847127be322503243"), looks := false }, kinds := [], alts := [], laidByText := true, laidKinds := [.data, .pinned], laidTests := true, laidLooks := .later }
def LockAgesCardSaid : Prop := Claim7.holds Tryz.pinned (.plain (OpenSpec.ofChange lockAgesSpec)) lockAgesCard

/-- THE TIED CARD OF 'parrellaw15.LockNobody'. -/
def lockNobodyCard : Claim7 := { stood := { row := lockNobodyRow, standIns := [], harness := (true, "c2506ba0eb6fad4187667338e383c662457c67c92586dcb847127be322503243"), looks := false }, kinds := [], alts := [], laidByText := true, laidKinds := [.data, .pinned], laidTests := true, laidLooks := .later }
def LockNobodyCardSaid : Prop := Claim7.holds Tryz.pinned (.plain (OpenSpec.ofChange lockNobodySpec)) lockNobodyCard

/-- THE SECOND FORM's CARD OF 'parrellaw15.LockPrepared'. -/
def lockPreparedUptoCard : Claim7 := { stood := { row := lockPreparedUptoRow, standIns := [], harness := (true, "c2506ba0eb6fad4187667338e383c662457c67c92586dcb847127be322503243"), looks := false }, kinds := [], alts := [], laidByText := true, laidKinds := [.data, .pinned], laidTests := true, laidLooks := .later }
def LockPreparedUptoCardSaid : Prop := Claim7.holds Tryz.pinned (.plain (OpenSpec.upto lockPreparedSpec)) lockPreparedUptoCard

/-- THE SECOND FORM's CARD OF 'parrellaw15.LockTogether'. -/
def lockTogetherUptoCard : Claim7 := { stood := { row := lockTogetherUptoRow, standIns := [], harness := (true, "c2506ba0eb6fad4187667338e383c662457c67c92586dcb847127be322503243"), looks := false }, kinds := [], alts := [], laidByText := true, laidKinds := [.data, .pinned], laidTests := true, laidLooks := .later }
def LockTogetherUptoCardSaid : Prop := Claim7.holds Tryz.pinned (.plain (OpenSpec.upto lockTogetherSpec)) lockTogetherUptoCard

/-- THE SECOND FORM's CARD OF 'parrellaw15.LockFree'. -/
def lockFreeUptoCard : Claim7 := { stood := { row := lockFreeUptoRow, standIns := [], harness := (true, "c2506ba0eb6fad4187667338e383c662457c67c92586dcb847127be322503243"), looks := false }, kinds := [], alts := [], laidByText := true, laidKinds := [.data, .pinned], laidTests := true, laidLooks := .later }
def LockFreeUptoCardSaid : Prop := Claim7.holds Tryz.pinned (.plain (OpenSpec.upto lockFreeSpec)) lockFreeUptoCard

/-- THE SECOND FORM's CARD OF 'parrellaw15.LockPlays'. -/
def lockPlaysUptoCard : Claim7 := { stood := { row := lockPlaysUptoRow, standIns := [], harness := (true, "c2506ba0eb6fad4187667338e383c662457c67c92586dcb847127be322503243"), looks := false }, kinds := [], alts := [], laidByText := true, laidKinds := [.data, .pinned], laidTests := true, laidLooks := .later }
def LockPlaysUptoCardSaid : Prop := Claim7.holds Tryz.pinned (.plain (OpenSpec.upto lockPlaysSpec)) lockPlaysUptoCard

/-- THE SECOND FORM's CARD OF 'parrellaw15.LockAges'. -/
def lockAgesUptoCard : Claim7 := { stood := { row := lockAgesUptoRow, standIns := [], harness := (true, "c2506ba0eb6fad4187667338e383c662457c67c92586dcb847127be322503243"), looks := false }, kinds := [], alts := [], laidByText := true, laidKinds := [.data, .pinned], laidTests := true, laidLooks := .later }
def LockAgesUptoCardSaid : Prop := Claim7.holds Tryz.pinned (.plain (OpenSpec.upto lockAgesSpec)) lockAgesUptoCard

/-- THE SECOND FORM's CARD OF 'parrellaw15.LockNobody'. -/
def lockNobodyUptoCard : Claim7 := { stood := { row := lockNobodyUptoRow, standIns := [], harness := (true, "c2506ba0eb6fad4187667338e383c662457c67c92586dcb847127be322503243"), looks := false }, kinds := [], alts := [], laidByText := true, laidKinds := [.data, .pinned], laidTests := true, laidLooks := .later }
def LockNobodyUptoCardSaid : Prop := Claim7.holds Tryz.pinned (.plain (OpenSpec.upto lockNobodySpec)) lockNobodyUptoCard
end Rows
end Go.Proofs.YtddgjfclpknkcaaGreatDoor
