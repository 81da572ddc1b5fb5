/-
  DERIVED. GIVEN WITH THE SEED: THE CARDS: each row of YtdjmfgknonkojaaDoorRows.lean that lists a variable, with what it lists TIED to the program's text (the seventh form; the later family's looks); each row that meets fmt, with fmt's text TOLD by the authors' own Lean function (tested against real Go, not proved from fmt's source: count such statements apart). THE CARD IS WHAT COUNTS. Prove the row's statement (the work); the ties are given (YtdjmfgknonkojaaDoorTie.lean); close each card by the builder's one call (the guide's Derived/Test/ToyasCard.lean, 'card_holds'). Laid BY PROGRAM, IN A SANDBOX (cutbox-door.mjs). By AI agents, Wed Nov 11 2026. No macro, syntax, notation, axiom, sorry.
-/
import Derived.Test.YtdjmfgknonkojaaDoorRows
import GoSem.ClaimSeven
namespace Go.Proofs.YtdjmfgknonkojaaDoor
namespace Rows

/-- THE TIED CARD OF 'parrellaw20.MissPlans'. -/
def missPlansCard : Claim7 := { stood := { row := missPlansRow, standIns := [], harness := (true, "8ec7c90ab23bc1abc79006ec2b630e2b51ba25dcc8aba8df5e0e552ee4618f67"), looks := false }, kinds := [], alts := [], laidByText := true, laidKinds := [.data, .data, .pinned], laidTests := true, laidLooks := .later }
def MissPlansCardSaid : Prop := Claim7.holds Tryd.pinned (.plain (OpenSpec.ofChange missPlansSpec)) missPlansCard

/-- THE TIED CARD OF 'parrellaw20.MissAll'. -/
def missAllCard : Claim7 := { stood := { row := missAllRow, standIns := [], harness := (true, "8ec7c90ab23bc1abc79006ec2b630e2b51ba25dcc8aba8df5e0e552ee4618f67"), looks := false }, kinds := [], alts := [], laidByText := true, laidKinds := [.data, .data, .pinned], laidTests := true, laidLooks := .later }
def MissAllCardSaid : Prop := Claim7.holds Tryd.pinned (.plain (OpenSpec.ofChange missAllSpec)) missAllCard

/-- THE TIED CARD OF 'parrellaw20.MissTurned'. -/
def missTurnedCard : Claim7 := { stood := { row := missTurnedRow, standIns := [], harness := (true, "8ec7c90ab23bc1abc79006ec2b630e2b51ba25dcc8aba8df5e0e552ee4618f67"), looks := false }, kinds := [], alts := [], laidByText := true, laidKinds := [.data, .data, .pinned], laidTests := true, laidLooks := .later }
def MissTurnedCardSaid : Prop := Claim7.holds Tryd.pinned (.plain (OpenSpec.ofChange missTurnedSpec)) missTurnedCard

/-- THE TIED CARD OF 'parrellaw20.MissFew'. -/
def missFewCard : Claim7 := { stood := { row := missFewRow, standIns := [], harness := (true, "8ec7c90ab23bc1abc79006ec2b630e2b51ba25dcc8aba8df5e0e552ee4618f67"), looks := false }, kinds := [], alts := [], laidByText := true, laidKinds := [.data, .data, .pinned], laidTests := true, laidLooks := .later }
def MissFewCardSaid : Prop := Claim7.holds Tryd.pinned (.plain (OpenSpec.ofChange missFewSpec)) missFewCard

/-- THE SECOND FORM's CARD OF 'parrellaw20.MissPlans'. -/
def missPlansUptoCard : Claim7 := { stood := { row := missPlansUptoRow, standIns := [], harness := (true, "8ec7c90ab23bc1abc79006ec2b630e2b51ba25dcc8aba8df5e0e552ee4618f67"), looks := false }, kinds := [], alts := [], laidByText := true, laidKinds := [.data, .data, .pinned], laidTests := true, laidLooks := .later }
def MissPlansUptoCardSaid : Prop := Claim7.holds Tryd.pinned (.plain (OpenSpec.upto missPlansSpec)) missPlansUptoCard

/-- THE SECOND FORM's CARD OF 'parrellaw20.MissAll'. -/
def missAllUptoCard : Claim7 := { stood := { row := missAllUptoRow, standIns := [], harness := (true, "8ec7c90ab23bc1abc79006ec2b630e2b51ba25dcc8aba8df5e0e552ee4618f67"), looks := false }, kinds := [], alts := [], laidByText := true, laidKinds := [.data, .data, .pinned], laidTests := true, laidLooks := .later }
def MissAllUptoCardSaid : Prop := Claim7.holds Tryd.pinned (.plain (OpenSpec.upto missAllSpec)) missAllUptoCard

/-- THE SECOND FORM's CARD OF 'parrellaw20.MissTurned'. -/
def missTurnedUptoCard : Claim7 := { stood := { row := missTurnedUptoRow, standIns := [], harness := (true, "8ec7c90ab23bc1abc79006ec2b630e2b51ba25dcc8aba8df5e0e552ee4618f67"), looks := false }, kinds := [], alts := [], laidByText := true, laidKinds := [.data, .data, .pinned], laidTests := true, laidLooks := .later }
def MissTurnedUptoCardSaid : Prop := Claim7.holds Tryd.pinned (.plain (OpenSpec.upto missTurnedSpec)) missTurnedUptoCard

/-- THE SECOND FORM's CARD OF 'parrellaw20.MissFew'. -/
def missFewUptoCard : Claim7 := { stood := { row := missFewUptoRow, standIns := [], harness := (true, "8ec7c90ab23bc1abc79006ec2b630e2b51ba25dcc8aba8df5e0e552ee4618f67"), looks := false }, kinds := [], alts := [], laidByText := true, laidKinds := [.data, .data, .pinned], laidTests := true, laidLooks := .later }
def MissFewUptoCardSaid : Prop := Claim7.holds Tryd.pinned (.plain (OpenSpec.upto missFewSpec)) missFewUptoCard
end Rows
end Go.Proofs.YtdjmfgknonkojaaDoor
