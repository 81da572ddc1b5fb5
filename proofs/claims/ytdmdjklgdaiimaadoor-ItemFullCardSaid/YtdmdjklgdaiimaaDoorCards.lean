/-
  DERIVED. GIVEN WITH THE SEED: THE CARDS: each row of YtdmdjklgdaiimaaDoorRows.lean that lists a variable, with what it lists TIED to the program's text (the seventh form; the later family's looks); each row that meets fmt, with fmt's text TOLD by the authors' own Lean function (tested against real Go, not proved from fmt's source: count such statements apart). THE CARD IS WHAT COUNTS. Prove the row's statement (the work); the ties are given (YtdmdjklgdaiimaaDoorTie.lean); close each card by the builder's one call (the guide's Derived/Test/ToyasCard.lean, 'card_holds'). Laid BY PROGRAM, IN A SANDBOX (cutbox-door.mjs). By AI agents, Wed Nov 11 2026. No macro, syntax, notation, axiom, sorry.
-/
import Derived.Test.YtdmdjklgdaiimaaDoorRows
import GoSem.ClaimSeven
namespace Go.Proofs.YtdmdjklgdaiimaaDoor
namespace Rows

/-- THE TIED CARD OF 'parrellaw13.ItemPlays'. -/
def itemPlaysCard : Claim7 := { stood := { row := itemPlaysRow, standIns := [], harness := (true, "c79656dbdb561dfb1249758680d44ba84b8939032038e6485139d01405428339"), looks := false }, kinds := [], alts := [], laidByText := true, laidKinds := [.data, .pinned], laidTests := true, laidLooks := .later }
def ItemPlaysCardSaid : Prop := Claim7.holds Tryd.pinned (.plain (OpenSpec.ofChange itemPlaysSpec)) itemPlaysCard

/-- THE TIED CARD OF 'parrellaw13.ItemRise'. -/
def itemRiseCard : Claim7 := { stood := { row := itemRiseRow, standIns := [], harness := (true, "c79656dbdb561dfb1249758680d44ba84b8939032038e6485139d01405428339"), looks := false }, kinds := [], alts := [], laidByText := true, laidKinds := [.data, .pinned], laidTests := true, laidLooks := .later }
def ItemRiseCardSaid : Prop := Claim7.holds Tryd.pinned (.plain (OpenSpec.ofChange itemRiseSpec)) itemRiseCard

/-- THE TIED CARD OF 'parrellaw13.ItemLast'. -/
def itemLastCard : Claim7 := { stood := { row := itemLastRow, standIns := [], harness := (true, "c79656dbdb561dfb1249758680d44ba84b8939032038e6485139d01405428339"), looks := false }, kinds := [], alts := [], laidByText := true, laidKinds := [.data, .pinned], laidTests := true, laidLooks := .later }
def ItemLastCardSaid : Prop := Claim7.holds Tryd.pinned (.plain (OpenSpec.ofChange itemLastSpec)) itemLastCard

/-- THE TIED CARD OF 'parrellaw13.ItemFull'. -/
def itemFullCard : Claim7 := { stood := { row := itemFullRow, standIns := [], harness := (true, "c79656dbdb561dfb1249758680d44ba84b8939032038e6485139d01405428339"), looks := false }, kinds := [], alts := [], laidByText := true, laidKinds := [.data, .pinned], laidTests := true, laidLooks := .later }
def ItemFullCardSaid : Prop := Claim7.holds Tryd.pinned (.plain (OpenSpec.ofChange itemFullSpec)) itemFullCard

/-- THE TIED CARD OF 'parrellaw13.ItemMerges'. -/
def itemMergesCard : Claim7 := { stood := { row := itemMergesRow, standIns := [], harness := (true, "c79656dbdb561dfb1249758680d44ba84b8939032038e6485139d01405428339"), looks := false }, kinds := [], alts := [], laidByText := true, laidKinds := [.data, .pinned], laidTests := true, laidLooks := .later }
def ItemMergesCardSaid : Prop := Claim7.holds Tryd.pinned (.plain (OpenSpec.ofChange itemMergesSpec)) itemMergesCard

/-- THE SECOND FORM's CARD OF 'parrellaw13.ItemPlays'. -/
def itemPlaysUptoCard : Claim7 := { stood := { row := itemPlaysUptoRow, standIns := [], harness := (true, "c79656dbdb561dfb1249758680d44ba84b8939032038e6485139d01405428339"), looks := false }, kinds := [], alts := [], laidByText := true, laidKinds := [.data, .pinned], laidTests := true, laidLooks := .later }
def ItemPlaysUptoCardSaid : Prop := Claim7.holds Tryd.pinned (.plain (OpenSpec.upto itemPlaysSpec)) itemPlaysUptoCard

/-- THE SECOND FORM's CARD OF 'parrellaw13.ItemRise'. -/
def itemRiseUptoCard : Claim7 := { stood := { row := itemRiseUptoRow, standIns := [], harness := (true, "c79656dbdb561dfb1249758680d44ba84b8939032038e6485139d01405428339"), looks := false }, kinds := [], alts := [], laidByText := true, laidKinds := [.data, .pinned], laidTests := true, laidLooks := .later }
def ItemRiseUptoCardSaid : Prop := Claim7.holds Tryd.pinned (.plain (OpenSpec.upto itemRiseSpec)) itemRiseUptoCard

/-- THE SECOND FORM's CARD OF 'parrellaw13.ItemLast'. -/
def itemLastUptoCard : Claim7 := { stood := { row := itemLastUptoRow, standIns := [], harness := (true, "c79656dbdb561dfb1249758680d44ba84b8939032038e6485139d01405428339"), looks := false }, kinds := [], alts := [], laidByText := true, laidKinds := [.data, .pinned], laidTests := true, laidLooks := .later }
def ItemLastUptoCardSaid : Prop := Claim7.holds Tryd.pinned (.plain (OpenSpec.upto itemLastSpec)) itemLastUptoCard

/-- THE SECOND FORM's CARD OF 'parrellaw13.ItemFull'. -/
def itemFullUptoCard : Claim7 := { stood := { row := itemFullUptoRow, standIns := [], harness := (true, "c79656dbdb561dfb1249758680d44ba84b8939032038e6485139d01405428339"), looks := false }, kinds := [], alts := [], laidByText := true, laidKinds := [.data, .pinned], laidTests := true, laidLooks := .later }
def ItemFullUptoCardSaid : Prop := Claim7.holds Tryd.pinned (.plain (OpenSpec.upto itemFullSpec)) itemFullUptoCard

/-- THE SECOND FORM's CARD OF 'parrellaw13.ItemMerges'. -/
def itemMergesUptoCard : Claim7 := { stood := { row := itemMergesUptoRow, standIns := [], harness := (true, "c79656dbdb561dfb1249758680d44ba84b8939032038e6485139d01405428339"), looks := false }, kinds := [], alts := [], laidByText := true, laidKinds := [.data, .pinned], laidTests := true, laidLooks := .later }
def ItemMergesUptoCardSaid : Prop := Claim7.holds Tryd.pinned (.plain (OpenSpec.upto itemMergesSpec)) itemMergesUptoCard
end Rows
end Go.Proofs.YtdmdjklgdaiimaaDoor
