/-
  DERIVED. GIVEN WITH THE SEED: THE CARDS: each row of YtgbhbcigjgcedaaDoorRows.lean that lists a variable, with what it lists TIED to the program's text (the seventh form; the later family's looks); each row that meets fmt, with fmt's text TOLD by the authors' own Lean function (tested against real Go, not proved from fmt's source: count such statements apart). THE CARD IS WHAT COUNTS. Prove the row's statement (the work); the ties are given (YtgbhbcigjgcedaaDoorTie.lean); close each card by the builder's one call (the guide's Derived/Test/ToyasCard.lean, 'card_holds'). Laid BY PROGRAM, IN A SANDBOX (cutbox-door.mjs). By AI agents, Wed Nov 11 2026. No macro, syntax, notation, axiom, sorry.
-/
import Derived.Test.YtgbhbcigjgcedaaDoorRows
import GoSem.ClaimSeven
namespace Go.Proofs.YtgbhbcigjgcedaaDoor
namespace Rows

/-- THE TIED CARD OF 'parrellaw21.ConfRise'. -/
def confRiseCard : Claim7 := { stood := { row := confRiseRow, standIns := [], harness := (true, "d54375d72c9b01572703a5dc3a93b70796cf1be7551825590f431a823bc5965b"), looks := false }, kinds := [], alts := [], laidByText := true, laidKinds := [.data, .pinned], laidTests := true, laidLooks := .later }
def ConfRiseCardSaid : Prop := Claim7.holds Tryd.pinned (.plain (OpenSpec.ofChange confRiseSpec)) confRiseCard

/-- THE TIED CARD OF 'parrellaw21.ConfLast'. -/
def confLastCard : Claim7 := { stood := { row := confLastRow, standIns := [], harness := (true, "d54375d72c9b01572703a5dc3a93b70796cf1be7551825590f431a823bc5965b"), looks := false }, kinds := [], alts := [], laidByText := true, laidKinds := [.data, .pinned], laidTests := true, laidLooks := .later }
def ConfLastCardSaid : Prop := Claim7.holds Tryd.pinned (.plain (OpenSpec.ofChange confLastSpec)) confLastCard

/-- THE TIED CARD OF 'parrellaw21.ConfPlays'. -/
def confPlaysCard : Claim7 := { stood := { row := confPlaysRow, standIns := [], harness := (true, "d54375d72c9b01572703a5dc3a93b70796cf1be7551825590f431a823bc5965b"), looks := false }, kinds := [], alts := [], laidByText := true, laidKinds := [.data, .pinned], laidTests := true, laidLooks := .later }
def ConfPlaysCardSaid : Prop := Claim7.holds Tryd.pinned (.plain (OpenSpec.ofChange confPlaysSpec)) confPlaysCard

/-- THE TIED CARD OF 'parrellaw21.ConfNobody'. -/
def confNobodyCard : Claim7 := { stood := { row := confNobodyRow, standIns := [], harness := (true, "d54375d72c9b01572703a5dc3a93b70796cf1be7551825590f431a823bc5965b"), looks := false }, kinds := [], alts := [], laidByText := true, laidKinds := [.data, .pinned], laidTests := true, laidLooks := .later }
def ConfNobodyCardSaid : Prop := Claim7.holds Tryd.pinned (.plain (OpenSpec.ofChange confNobodySpec)) confNobodyCard

/-- THE TIED CARD OF 'parrellaw21.ConfNext'. -/
def confNextCard : Claim7 := { stood := { row := confNextRow, standIns := [], harness := (true, "d54375d72c9b01572703a5dc3a93b70796cf1be7551825590f431a823bc5965b"), looks := false }, kinds := [], alts := [], laidByText := true, laidKinds := [.data, .pinned], laidTests := true, laidLooks := .later }
def ConfNextCardSaid : Prop := Claim7.holds Tryd.pinned (.plain (OpenSpec.ofChange confNextSpec)) confNextCard

/-- THE SECOND FORM's CARD OF 'parrellaw21.ConfRise'. -/
def confRiseUptoCard : Claim7 := { stood := { row := confRiseUptoRow, standIns := [], harness := (true, "d54375d72c9b01572703a5dc3a93b70796cf1be7551825590f431a823bc5965b"), looks := false }, kinds := [], alts := [], laidByText := true, laidKinds := [.data, .pinned], laidTests := true, laidLooks := .later }
def ConfRiseUptoCardSaid : Prop := Claim7.holds Tryd.pinned (.plain (OpenSpec.upto confRiseSpec)) confRiseUptoCard

/-- THE SECOND FORM's CARD OF 'parrellaw21.ConfLast'. -/
def confLastUptoCard : Claim7 := { stood := { row := confLastUptoRow, standIns := [], harness := (true, "d54375d72c9b01572703a5dc3a93b70796cf1be7551825590f431a823bc5965b"), looks := false }, kinds := [], alts := [], laidByText := true, laidKinds := [.data, .pinned], laidTests := true, laidLooks := .later }
def ConfLastUptoCardSaid : Prop := Claim7.holds Tryd.pinned (.plain (OpenSpec.upto confLastSpec)) confLastUptoCard

/-- THE SECOND FORM's CARD OF 'parrellaw21.ConfPlays'. -/
def confPlaysUptoCard : Claim7 := { stood := { row := confPlaysUptoRow, standIns := [], harness := (true, "d54375d72c9b01572703a5dc3a93b70796cf1be7551825590f431a823bc5965b"), looks := false }, kinds := [], alts := [], laidByText := true, laidKinds := [.data, .pinned], laidTests := true, laidLooks := .later }
def ConfPlaysUptoCardSaid : Prop := Claim7.holds Tryd.pinned (.plain (OpenSpec.upto confPlaysSpec)) confPlaysUptoCard

/-- THE SECOND FORM's CARD OF 'parrellaw21.ConfNobody'. -/
def confNobodyUptoCard : Claim7 := { stood := { row := confNobodyUptoRow, standIns := [], harness := (true, "d54375d72c9b01572703a5dc3a93b70796cf1be7551825590f431a823bc5965b"), looks := false }, kinds := [], alts := [], laidByText := true, laidKinds := [.data, .pinned], laidTests := true, laidLooks := .later }
def ConfNobodyUptoCardSaid : Prop := Claim7.holds Tryd.pinned (.plain (OpenSpec.upto confNobodySpec)) confNobodyUptoCard

/-- THE SECOND FORM's CARD OF 'parrellaw21.ConfNext'. -/
def confNextUptoCard : Claim7 := { stood := { row := confNextUptoRow, standIns := [], harness := (true, "d54375d72c9b01572703a5dc3a93b70796cf1be7551825590f431a823bc5965b"), looks := false }, kinds := [], alts := [], laidByText := true, laidKinds := [.data, .pinned], laidTests := true, laidLooks := .later }
def ConfNextUptoCardSaid : Prop := Claim7.holds Tryd.pinned (.plain (OpenSpec.upto confNextSpec)) confNextUptoCard
end Rows
end Go.Proofs.YtgbhbcigjgcedaaDoor
