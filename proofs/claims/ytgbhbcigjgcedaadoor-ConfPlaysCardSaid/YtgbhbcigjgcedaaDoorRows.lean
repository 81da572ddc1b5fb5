/-
  NARROWER THAN 'FOR EVERY INPUT', by the rows' own cells (each row's printed sentence says how): ConfRise: laid · ConfLast: laid · ConfPlays: laid · ConfNobody: laid · ConfNext: laid.
  DERIVED. THE GIVEN ROWS OF THIS SEAT. 5 by the template 'for every input the law returns true; each argument reads behind the call as it read before'; 0 by the template 'total and deterministic' (their statements: YtgbhbcigjgcedaaDoorTotals.lean).
  GIVEN WITH THE SEED: the statements are not yours to turn. If you find one false, say at which input.
  Laid BY PROGRAM, IN A SANDBOX (cutbox-rows.mjs): the forced cells as the released guide's own fill.sh prints them over the translation 91b1923061f90252… (all of the seat's roots in one cut). By AI agents, Wed Nov 11 2026. No macro, syntax, notation, axiom, sorry.
-/
import Derived.Test.YtgbhbcigjgcedaaDoorChecked
import GoSem.PinnedTables
import GoSem.Claim
import GoSem.ClaimJoined
import GoSem.ClaimMapViews
import Derived.JoinedTies
import Derived.KernelRfl
namespace Go.Proofs.YtgbhbcigjgcedaaDoor
/- THE CELL 'sum', in the pinned program and in every row, IS THE sha256 OF THE DUMP (.gsa) THAT YtgbhbcigjgcedaaDoorProg.lean LOADS. Nothing in Lean hashes anything: it is a label: what it is worth is what the hold of that sum in a sandbox is worth. -/
noncomputable def Tryd.pinned : Pinned := { name := "ytgbhbcigjgcedaadoor", sum := "91b1923061f902525b5827a1ef4e66417658e3c819e1865f91bf7bc4a8c054fb", checked := Tryd.checked }
namespace Rows
def none {H : Type} : Left H := { results := [], args := [] }

/- WHAT THE LISTED PACKAGE-LEVEL VARIABLES READ AS WHEN THE CALL BEGINS. Each datum BY PROGRAM (the guide's laid-datum.mjs) off the statement by which the dump's own 'gosem.cut.vars' lays the variable. In a bare row this is a premise. The card (YtgbhbcigjgcedaaDoorCards.lean) ties it to the program's text. -/
def laid_unicode_utf8_acceptRanges {H : Type} : DataW H := .agg [.agg [.lit (.int .u8 128), .lit (.int .u8 191)], .agg [.lit (.int .u8 160), .lit (.int .u8 191)], .agg [.lit (.int .u8 128), .lit (.int .u8 159)], .agg [.lit (.int .u8 144), .lit (.int .u8 191)], .agg [.lit (.int .u8 128), .lit (.int .u8 143)], .agg [.lit (.int .u8 0), .lit (.int .u8 0)], .agg [.lit (.int .u8 0), .lit (.int .u8 0)], .agg [.lit (.int .u8 0), .lit (.int .u8 0)], .agg [.lit (.int .u8 0), .lit (.int .u8 0)], .agg [.lit (.int .u8 0), .lit (.int .u8 0)], .agg [.lit (.int .u8 0), .lit (.int .u8 0)], .agg [.lit (.int .u8 0), .lit (.int .u8 0)], .agg [.lit (.int .u8 0), .lit (.int .u8 0)], .agg [.lit (.int .u8 0), .lit (.int .u8 0)], .agg [.lit (.int .u8 0), .lit (.int .u8 0)], .agg [.lit (.int .u8 0), .lit (.int .u8 0)]]
/-- One of Go's own tables, pinned by name: the form's constant. -/
def laid_unicode_utf8_first : DataW Unit := Go.Pinned.utf8First

/-- 'parrellaw21.ConfRise': WHATEVER THE INPUT: true; the input reads as it did. -/
def confRiseSpec : ChangeSpec := { name := "confRise", fn := fun _ => fun
  | [d1, d2] => { results := [.lit (.bool true)], args := [d1, d2] }
  | _ => none }
def confRiseRow : OpenClaim := { program := "ytgbhbcigjgcedaadoor", sum := "91b1923061f902525b5827a1ef4e66417658e3c819e1865f91bf7bc4a8c054fb", func := "parrel/parrellaw21.ConfRise", spec := "confRise", inPlace := ["internal/bytealg.IndexByteString", "internal/bytealg.IndexString"], unfollowed := true, recurses := true, named := ["unicode/utf8.first", "unicode/utf8.acceptRanges", "internal/bytealg.MaxLen"], plainKeys := false, apart := false, laid := [("unicode/utf8.acceptRanges", laid_unicode_utf8_acceptRanges), ("unicode/utf8.first", laid_unicode_utf8_first)] }
def ConfRiseSaid : Prop := confRiseRow.holds Tryd.pinned (OpenSpec.ofChange confRiseSpec)

/-- ITS FALSE NEIGHBOUR: 'it returns false'. Refute it at one input. -/
def confRiseWrong : ChangeSpec := { name := "confRise", fn := fun _ => fun
  | [d1, d2] => { results := [.lit (.bool false)], args := [d1, d2] }
  | _ => none }
def ConfRiseWrongFalsely : Prop := confRiseRow.holds Tryd.pinned (OpenSpec.ofChange confRiseWrong)

/-- 'parrellaw21.ConfLast': WHATEVER THE INPUT: true; the input reads as it did. -/
def confLastSpec : ChangeSpec := { name := "confLast", fn := fun _ => fun
  | [d] => { results := [.lit (.bool true)], args := [d] }
  | _ => none }
def confLastRow : OpenClaim := { program := "ytgbhbcigjgcedaadoor", sum := "91b1923061f902525b5827a1ef4e66417658e3c819e1865f91bf7bc4a8c054fb", func := "parrel/parrellaw21.ConfLast", spec := "confLast", inPlace := ["internal/bytealg.IndexByteString", "internal/bytealg.IndexString"], unfollowed := true, recurses := true, named := ["unicode/utf8.first", "unicode/utf8.acceptRanges", "internal/bytealg.MaxLen"], plainKeys := false, apart := false, laid := [("unicode/utf8.acceptRanges", laid_unicode_utf8_acceptRanges), ("unicode/utf8.first", laid_unicode_utf8_first)] }
def ConfLastSaid : Prop := confLastRow.holds Tryd.pinned (OpenSpec.ofChange confLastSpec)

/-- ITS FALSE NEIGHBOUR: 'it returns false'. Refute it at one input. -/
def confLastWrong : ChangeSpec := { name := "confLast", fn := fun _ => fun
  | [d] => { results := [.lit (.bool false)], args := [d] }
  | _ => none }
def ConfLastWrongFalsely : Prop := confLastRow.holds Tryd.pinned (OpenSpec.ofChange confLastWrong)

/-- 'parrellaw21.ConfPlays': WHATEVER THE INPUT: true; the input reads as it did. -/
def confPlaysSpec : ChangeSpec := { name := "confPlays", fn := fun _ => fun
  | [d1, d2] => { results := [.lit (.bool true)], args := [d1, d2] }
  | _ => none }
def confPlaysRow : OpenClaim := { program := "ytgbhbcigjgcedaadoor", sum := "91b1923061f902525b5827a1ef4e66417658e3c819e1865f91bf7bc4a8c054fb", func := "parrel/parrellaw21.ConfPlays", spec := "confPlays", inPlace := ["internal/bytealg.IndexByteString", "internal/bytealg.IndexString"], unfollowed := true, recurses := true, named := ["unicode/utf8.first", "unicode/utf8.acceptRanges", "internal/bytealg.MaxLen"], plainKeys := false, apart := false, laid := [("unicode/utf8.acceptRanges", laid_unicode_utf8_acceptRanges), ("unicode/utf8.first", laid_unicode_utf8_first)] }
def ConfPlaysSaid : Prop := confPlaysRow.holds Tryd.pinned (OpenSpec.ofChange confPlaysSpec)

/-- ITS FALSE NEIGHBOUR: 'it returns false'. Refute it at one input. -/
def confPlaysWrong : ChangeSpec := { name := "confPlays", fn := fun _ => fun
  | [d1, d2] => { results := [.lit (.bool false)], args := [d1, d2] }
  | _ => none }
def ConfPlaysWrongFalsely : Prop := confPlaysRow.holds Tryd.pinned (OpenSpec.ofChange confPlaysWrong)

/-- 'parrellaw21.ConfNobody': WHATEVER THE INPUT: true; the input reads as it did. -/
def confNobodySpec : ChangeSpec := { name := "confNobody", fn := fun _ => fun
  | [d] => { results := [.lit (.bool true)], args := [d] }
  | _ => none }
def confNobodyRow : OpenClaim := { program := "ytgbhbcigjgcedaadoor", sum := "91b1923061f902525b5827a1ef4e66417658e3c819e1865f91bf7bc4a8c054fb", func := "parrel/parrellaw21.ConfNobody", spec := "confNobody", inPlace := ["internal/bytealg.IndexByteString", "internal/bytealg.IndexString"], unfollowed := true, recurses := true, named := ["unicode/utf8.first", "unicode/utf8.acceptRanges", "internal/bytealg.MaxLen"], plainKeys := false, apart := false, laid := [("unicode/utf8.acceptRanges", laid_unicode_utf8_acceptRanges), ("unicode/utf8.first", laid_unicode_utf8_first)] }
def ConfNobodySaid : Prop := confNobodyRow.holds Tryd.pinned (OpenSpec.ofChange confNobodySpec)

/-- ITS FALSE NEIGHBOUR: 'it returns false'. Refute it at one input. -/
def confNobodyWrong : ChangeSpec := { name := "confNobody", fn := fun _ => fun
  | [d] => { results := [.lit (.bool false)], args := [d] }
  | _ => none }
def ConfNobodyWrongFalsely : Prop := confNobodyRow.holds Tryd.pinned (OpenSpec.ofChange confNobodyWrong)

/-- 'parrellaw21.ConfNext': WHATEVER THE INPUT: true; the input reads as it did. -/
def confNextSpec : ChangeSpec := { name := "confNext", fn := fun _ => fun
  | [d1, d2] => { results := [.lit (.bool true)], args := [d1, d2] }
  | _ => none }
def confNextRow : OpenClaim := { program := "ytgbhbcigjgcedaadoor", sum := "91b1923061f902525b5827a1ef4e66417658e3c819e1865f91bf7bc4a8c054fb", func := "parrel/parrellaw21.ConfNext", spec := "confNext", inPlace := ["internal/bytealg.IndexByteString", "internal/bytealg.IndexString"], unfollowed := true, recurses := true, named := ["unicode/utf8.first", "unicode/utf8.acceptRanges", "internal/bytealg.MaxLen"], plainKeys := false, apart := false, laid := [("unicode/utf8.acceptRanges", laid_unicode_utf8_acceptRanges), ("unicode/utf8.first", laid_unicode_utf8_first)] }
def ConfNextSaid : Prop := confNextRow.holds Tryd.pinned (OpenSpec.ofChange confNextSpec)

/-- ITS FALSE NEIGHBOUR: 'it returns false'. Refute it at one input. -/
def confNextWrong : ChangeSpec := { name := "confNext", fn := fun _ => fun
  | [d1, d2] => { results := [.lit (.bool false)], args := [d1, d2] }
  | _ => none }
def ConfNextWrongFalsely : Prop := confNextRow.holds Tryd.pinned (OpenSpec.ofChange confNextWrong)

/- THE SECOND FORM. 'bulk': how many values and letters a reading holds, each counted each time it is reached (what is shared counts as often as it is met; a slice's spare places count too). A statement '..UptoSaid' is the law's where the arguments, and the package variables that the reading takes, are together of bulk at most 1048576: NARROWER than '..Said'. Prove '..Said' where nothing that the law and all that it calls make is longer than what came in: it says more and counts as full. Else prove '..UptoSaid'. A law counts once. -/
mutual
def uptoBulk {H : Type} : DataW H → Nat
  | .lit (.string bytes) => bytes.length + 1
  | .lit _ => 1
  | .nil => 1
  | .ptr d => uptoBulk d + 1
  | .slice elems spare => uptoBulkAll elems + uptoBulkAll spare + 1
  | .agg parts => uptoBulkAll parts + 1
  | .iface _ d => uptoBulk d + 1
  | .map entries => uptoBulkEntries entries + 1
  | .held _ => 1
def uptoBulkAll {H : Type} : List (DataW H) → Nat
  | [] => 0
  | d :: r => uptoBulk d + uptoBulkAll r
def uptoBulkEntries {H : Type} : List (Lit × DataW H) → Nat
  | [] => 0
  | x :: r => uptoBulkEntry x + uptoBulkEntries r
def uptoBulkEntry {H : Type} : Lit × DataW H → Nat
  | (.string bytes, d) => bytes.length + uptoBulk d + 1
  | (_, d) => uptoBulk d + 1
 end
def uptoSmall : (H : Type) → List (DataW H) → Bool := fun _ ds => decide (uptoBulkAll ds ≤ 1048576)
def OpenSpec.upto (s : _root_.Go.ChangeSpec) : _root_.Go.OpenSpec := { _root_.Go.OpenSpec.ofChange s with cond := some uptoSmall }

/-- 'parrellaw21.ConfRise', WHERE WHAT IT READS IS OF BULK AT MOST 1048576: true; the input reads as it did. -/
def confRiseUptoRow : OpenClaim := { program := "ytgbhbcigjgcedaadoor", sum := "91b1923061f902525b5827a1ef4e66417658e3c819e1865f91bf7bc4a8c054fb", func := "parrel/parrellaw21.ConfRise", spec := "confRise", inPlace := ["internal/bytealg.IndexByteString", "internal/bytealg.IndexString"], unfollowed := true, recurses := true, named := ["unicode/utf8.first", "unicode/utf8.acceptRanges", "internal/bytealg.MaxLen"], plainKeys := false, apart := false, laid := [("unicode/utf8.acceptRanges", laid_unicode_utf8_acceptRanges), ("unicode/utf8.first", laid_unicode_utf8_first)], narrowed := true }
def ConfRiseUptoSaid : Prop := confRiseUptoRow.holds Tryd.pinned (OpenSpec.upto confRiseSpec)

/-- 'parrellaw21.ConfLast', WHERE WHAT IT READS IS OF BULK AT MOST 1048576: true; the input reads as it did. -/
def confLastUptoRow : OpenClaim := { program := "ytgbhbcigjgcedaadoor", sum := "91b1923061f902525b5827a1ef4e66417658e3c819e1865f91bf7bc4a8c054fb", func := "parrel/parrellaw21.ConfLast", spec := "confLast", inPlace := ["internal/bytealg.IndexByteString", "internal/bytealg.IndexString"], unfollowed := true, recurses := true, named := ["unicode/utf8.first", "unicode/utf8.acceptRanges", "internal/bytealg.MaxLen"], plainKeys := false, apart := false, laid := [("unicode/utf8.acceptRanges", laid_unicode_utf8_acceptRanges), ("unicode/utf8.first", laid_unicode_utf8_first)], narrowed := true }
def ConfLastUptoSaid : Prop := confLastUptoRow.holds Tryd.pinned (OpenSpec.upto confLastSpec)

/-- 'parrellaw21.ConfPlays', WHERE WHAT IT READS IS OF BULK AT MOST 1048576: true; the input reads as it did. -/
def confPlaysUptoRow : OpenClaim := { program := "ytgbhbcigjgcedaadoor", sum := "91b1923061f902525b5827a1ef4e66417658e3c819e1865f91bf7bc4a8c054fb", func := "parrel/parrellaw21.ConfPlays", spec := "confPlays", inPlace := ["internal/bytealg.IndexByteString", "internal/bytealg.IndexString"], unfollowed := true, recurses := true, named := ["unicode/utf8.first", "unicode/utf8.acceptRanges", "internal/bytealg.MaxLen"], plainKeys := false, apart := false, laid := [("unicode/utf8.acceptRanges", laid_unicode_utf8_acceptRanges), ("unicode/utf8.first", laid_unicode_utf8_first)], narrowed := true }
def ConfPlaysUptoSaid : Prop := confPlaysUptoRow.holds Tryd.pinned (OpenSpec.upto confPlaysSpec)

/-- 'parrellaw21.ConfNobody', WHERE WHAT IT READS IS OF BULK AT MOST 1048576: true; the input reads as it did. -/
def confNobodyUptoRow : OpenClaim := { program := "ytgbhbcigjgcedaadoor", sum := "91b1923061f902525b5827a1ef4e66417658e3c819e1865f91bf7bc4a8c054fb", func := "parrel/parrellaw21.ConfNobody", spec := "confNobody", inPlace := ["internal/bytealg.IndexByteString", "internal/bytealg.IndexString"], unfollowed := true, recurses := true, named := ["unicode/utf8.first", "unicode/utf8.acceptRanges", "internal/bytealg.MaxLen"], plainKeys := false, apart := false, laid := [("unicode/utf8.acceptRanges", laid_unicode_utf8_acceptRanges), ("unicode/utf8.first", laid_unicode_utf8_first)], narrowed := true }
def ConfNobodyUptoSaid : Prop := confNobodyUptoRow.holds Tryd.pinned (OpenSpec.upto confNobodySpec)

/-- 'parrellaw21.ConfNext', WHERE WHAT IT READS IS OF BULK AT MOST 1048576: true; the input reads as it did. -/
def confNextUptoRow : OpenClaim := { program := "ytgbhbcigjgcedaadoor", sum := "91b1923061f902525b5827a1ef4e66417658e3c819e1865f91bf7bc4a8c054fb", func := "parrel/parrellaw21.ConfNext", spec := "confNext", inPlace := ["internal/bytealg.IndexByteString", "internal/bytealg.IndexString"], unfollowed := true, recurses := true, named := ["unicode/utf8.first", "unicode/utf8.acceptRanges", "internal/bytealg.MaxLen"], plainKeys := false, apart := false, laid := [("unicode/utf8.acceptRanges", laid_unicode_utf8_acceptRanges), ("unicode/utf8.first", laid_unicode_utf8_first)], narrowed := true }
def ConfNextUptoSaid : Prop := confNextUptoRow.holds Tryd.pinned (OpenSpec.upto confNextSpec)

end Rows
end Go.Proofs.YtgbhbcigjgcedaaDoor
