/-
  DERIVED. GIVEN WITH THE SEED: THE CARDS: each row of YtffmmflapagkhaaDoorRows.lean that lists a variable, with what it lists TIED to the program's text (the seventh form; the later family's looks); each row that meets fmt, with fmt's text TOLD by the authors' own Lean function (tested against real Go, not proved from fmt's source: count such statements apart). THE CARD IS WHAT COUNTS. Prove the row's statement (the work); the ties are given (YtffmmflapagkhaaDoorTie.lean); close each card by the builder's one call (the guide's Derived/Test/ToyasCard.lean, 'card_holds'). Laid BY PROGRAM, IN A SANDBOX (cutbox-door.mjs). By AI agents, Wed Nov 11 2026. No macro, syntax, notation, axiom, sorry.
-/
import Derived.Test.YtffmmflapagkhaaDoorRows
import GoSem.ClaimSeven
namespace Go.Proofs.YtffmmflapagkhaaDoor
namespace Rows

/-- THE TIED CARD OF 'parrellaw19.GatherMeets'. -/
def gatherMeetsCard : Claim7 := { stood := { row := gatherMeetsRow, standIns := [], harness := (true, "1f0ae0980e682807b9939e5ea12f447ff300fadde112fd19951de0a5a86f9e2d"), looks := false }, kinds := [], alts := [], laidByText := true, laidKinds := [.data, .data, .pinned], laidTests := true, laidLooks := .later }
def GatherMeetsCardSaid : Prop := Claim7.holds Tryd.pinned (.plain (OpenSpec.ofChange gatherMeetsSpec)) gatherMeetsCard

/-- THE TIED CARD OF 'parrellaw19.GatherNewest'. -/
def gatherNewestCard : Claim7 := { stood := { row := gatherNewestRow, standIns := [], harness := (true, "1f0ae0980e682807b9939e5ea12f447ff300fadde112fd19951de0a5a86f9e2d"), looks := false }, kinds := [], alts := [], laidByText := true, laidKinds := [.data, .data, .pinned], laidTests := true, laidLooks := .later }
def GatherNewestCardSaid : Prop := Claim7.holds Tryd.pinned (.plain (OpenSpec.ofChange gatherNewestSpec)) gatherNewestCard

/-- THE TIED CARD OF 'parrellaw19.GatherEnds'. -/
def gatherEndsCard : Claim7 := { stood := { row := gatherEndsRow, standIns := [], harness := (true, "1f0ae0980e682807b9939e5ea12f447ff300fadde112fd19951de0a5a86f9e2d"), looks := false }, kinds := [], alts := [], laidByText := true, laidKinds := [.data, .data, .pinned], laidTests := true, laidLooks := .later }
def GatherEndsCardSaid : Prop := Claim7.holds Tryd.pinned (.plain (OpenSpec.ofChange gatherEndsSpec)) gatherEndsCard

/-- THE TIED CARD OF 'parrellaw19.GatherPlays'. -/
def gatherPlaysCard : Claim7 := { stood := { row := gatherPlaysRow, standIns := [], harness := (true, "1f0ae0980e682807b9939e5ea12f447ff300fadde112fd19951de0a5a86f9e2d"), looks := false }, kinds := [], alts := [], laidByText := true, laidKinds := [.data, .data, .pinned], laidTests := true, laidLooks := .later }
def GatherPlaysCardSaid : Prop := Claim7.holds Tryd.pinned (.plain (OpenSpec.ofChange gatherPlaysSpec)) gatherPlaysCard

/-- THE TIED CARD OF 'parrellaw19.GatherChains'. -/
def gatherChainsCard : Claim7 := { stood := { row := gatherChainsRow, standIns := [], harness := (true, "1f0ae0980e682807b9939e5ea12f447ff300fadde112fd19951de0a5a86f9e2d"), looks := false }, kinds := [], alts := [], laidByText := true, laidKinds := [.data, .data, .pinned], laidTests := true, laidLooks := .later }
def GatherChainsCardSaid : Prop := Claim7.holds Tryd.pinned (.plain (OpenSpec.ofChange gatherChainsSpec)) gatherChainsCard

/-- THE TIED CARD OF 'parrellaw19.GatherNobody'. -/
def gatherNobodyCard : Claim7 := { stood := { row := gatherNobodyRow, standIns := [], harness := (true, "1f0ae0980e682807b9939e5ea12f447ff300fadde112fd19951de0a5a86f9e2d"), looks := false }, kinds := [], alts := [], laidByText := true, laidKinds := [.data, .data, .pinned], laidTests := true, laidLooks := .later }
def GatherNobodyCardSaid : Prop := Claim7.holds Tryd.pinned (.plain (OpenSpec.ofChange gatherNobodySpec)) gatherNobodyCard

/-- THE SECOND FORM's CARD OF 'parrellaw19.GatherMeets'. -/
def gatherMeetsUptoCard : Claim7 := { stood := { row := gatherMeetsUptoRow, standIns := [], harness := (true, "1f0ae0980e682807b9939e5ea12f447ff300fadde112fd19951de0a5a86f9e2d"), looks := false }, kinds := [], alts := [], laidByText := true, laidKinds := [.data, .data, .pinned], laidTests := true, laidLooks := .later }
def GatherMeetsUptoCardSaid : Prop := Claim7.holds Tryd.pinned (.plain (OpenSpec.upto gatherMeetsSpec)) gatherMeetsUptoCard

/-- THE SECOND FORM's CARD OF 'parrellaw19.GatherNewest'. -/
def gatherNewestUptoCard : Claim7 := { stood := { row := gatherNewestUptoRow, standIns := [], harness := (true, "1f0ae0980e682807b9939e5ea12f447ff300fadde112fd19951de0a5a86f9e2d"), looks := false }, kinds := [], alts := [], laidByText := true, laidKinds := [.data, .data, .pinned], laidTests := true, laidLooks := .later }
def GatherNewestUptoCardSaid : Prop := Claim7.holds Tryd.pinned (.plain (OpenSpec.upto gatherNewestSpec)) gatherNewestUptoCard

/-- THE SECOND FORM's CARD OF 'parrellaw19.GatherEnds'. -/
def gatherEndsUptoCard : Claim7 := { stood := { row := gatherEndsUptoRow, standIns := [], harness := (true, "1f0ae0980e682807b9939e5ea12f447ff300fadde112fd19951de0a5a86f9e2d"), looks := false }, kinds := [], alts := [], laidByText := true, laidKinds := [.data, .data, .pinned], laidTests := true, laidLooks := .later }
def GatherEndsUptoCardSaid : Prop := Claim7.holds Tryd.pinned (.plain (OpenSpec.upto gatherEndsSpec)) gatherEndsUptoCard

/-- THE SECOND FORM's CARD OF 'parrellaw19.GatherPlays'. -/
def gatherPlaysUptoCard : Claim7 := { stood := { row := gatherPlaysUptoRow, standIns := [], harness := (true, "1f0ae0980e682807b9939e5ea12f447ff300fadde112fd19951de0a5a86f9e2d"), looks := false }, kinds := [], alts := [], laidByText := true, laidKinds := [.data, .data, .pinned], laidTests := true, laidLooks := .later }
def GatherPlaysUptoCardSaid : Prop := Claim7.holds Tryd.pinned (.plain (OpenSpec.upto gatherPlaysSpec)) gatherPlaysUptoCard

/-- THE SECOND FORM's CARD OF 'parrellaw19.GatherChains'. -/
def gatherChainsUptoCard : Claim7 := { stood := { row := gatherChainsUptoRow, standIns := [], harness := (true, "1f0ae0980e682807b9939e5ea12f447ff300fadde112fd19951de0a5a86f9e2d"), looks := false }, kinds := [], alts := [], laidByText := true, laidKinds := [.data, .data, .pinned], laidTests := true, laidLooks := .later }
def GatherChainsUptoCardSaid : Prop := Claim7.holds Tryd.pinned (.plain (OpenSpec.upto gatherChainsSpec)) gatherChainsUptoCard

/-- THE SECOND FORM's CARD OF 'parrellaw19.GatherNobody'. -/
def gatherNobodyUptoCard : Claim7 := { stood := { row := gatherNobodyUptoRow, standIns := [], harness := (true, "1f0ae0980e682807b9939e5ea12f447ff300fadde112fd19951de0a5a86f9e2d"), looks := false }, kinds := [], alts := [], laidByText := true, laidKinds := [.data, .data, .pinned], laidTests := true, laidLooks := .later }
def GatherNobodyUptoCardSaid : Prop := Claim7.holds Tryd.pinned (.plain (OpenSpec.upto gatherNobodySpec)) gatherNobodyUptoCard
end Rows
end Go.Proofs.YtffmmflapagkhaaDoor
