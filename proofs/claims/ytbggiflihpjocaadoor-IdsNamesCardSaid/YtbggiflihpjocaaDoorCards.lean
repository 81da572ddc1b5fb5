/-
  DERIVED. GIVEN WITH THE SEED: THE CARDS: each row of YtbggiflihpjocaaDoorRows.lean that lists a variable, with what it lists TIED to the program's text (the seventh form; the later family's looks); each row that meets fmt, with fmt's text TOLD by the authors' own Lean function (tested against real Go, not proved from fmt's source: count such statements apart). THE CARD IS WHAT COUNTS. Prove the row's statement (the work); the ties are given (YtbggiflihpjocaaDoorTie.lean); close each card by the builder's one call (the guide's Derived/Test/ToyasCard.lean, 'card_holds'). Laid BY PROGRAM, IN A SANDBOX (cutbox-door.mjs). By AI agents, Wed Nov 11 2026. No macro, syntax, notation, axiom, sorry.
-/
import Derived.Test.YtbggiflihpjocaaDoorRows
import GoSem.ClaimSeven
namespace Go.Proofs.YtbggiflihpjocaaDoor
namespace Rows

/-- THE TIED CARD OF 'parrellaw05.IdsKeys'. -/
def idsKeysCard : Claim7 := { stood := { row := idsKeysRow, standIns := [], harness := (true, "904cb23161395d43180ab34a53ec435111f550d0d9063a936b91e4a652e9614a"), looks := false }, kinds := [], alts := [], laidByText := true, laidKinds := [.data, .pinned], laidTests := true, laidLooks := .later }
def IdsKeysCardSaid : Prop := Claim7.holds Tryd.pinned (.plain (OpenSpec.ofChange idsKeysSpec)) idsKeysCard

/-- THE TIED CARD OF 'parrellaw05.IdsNames'. -/
def idsNamesCard : Claim7 := { stood := { row := idsNamesRow, standIns := [], harness := (true, "904cb23161395d43180ab34a53ec435111f550d0d9063a936b91e4a652e9614a"), looks := false }, kinds := [], alts := [], laidByText := true, laidKinds := [.data, .pinned], laidTests := true, laidLooks := .later }
def IdsNamesCardSaid : Prop := Claim7.holds Tryd.pinned (.plain (OpenSpec.ofChange idsNamesSpec)) idsNamesCard

/-- THE SECOND FORM's CARD OF 'parrellaw05.IdsKeys'. -/
def idsKeysUptoCard : Claim7 := { stood := { row := idsKeysUptoRow, standIns := [], harness := (true, "904cb23161395d43180ab34a53ec435111f550d0d9063a936b91e4a652e9614a"), looks := false }, kinds := [], alts := [], laidByText := true, laidKinds := [.data, .pinned], laidTests := true, laidLooks := .later }
def IdsKeysUptoCardSaid : Prop := Claim7.holds Tryd.pinned (.plain (OpenSpec.upto idsKeysSpec)) idsKeysUptoCard

/-- THE SECOND FORM's CARD OF 'parrellaw05.IdsNames'. -/
def idsNamesUptoCard : Claim7 := { stood := { row := idsNamesUptoRow, standIns := [], harness := (true, "904cb23161395d43180ab34a53ec435111f550d0d9063a936b91e4a652e9614a"), looks := false }, kinds := [], alts := [], laidByText := true, laidKinds := [.data, .pinned], laidTests := true, laidLooks := .later }
def IdsNamesUptoCardSaid : Prop := Claim7.holds Tryd.pinned (.plain (OpenSpec.upto idsNamesSpec)) idsNamesUptoCard
end Rows
end Go.Proofs.YtbggiflihpjocaaDoor
