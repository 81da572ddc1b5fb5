/-
  NARROWER THAN 'FOR EVERY INPUT', by the rows' own cells (each row's printed sentence says how): LockPrepared: laid · LockTogether: laid · LockFree: laid · LockPlays: laid · LockAges: laid · LockNobody: laid.
  DERIVED. THE GIVEN ROWS OF THIS SEAT. 6 by the template 'for every input the law returns true; each argument reads behind the call as it read before'; 0 by the template 'total and deterministic' (their statements: YtddgjfclpknkcaaGreatDoorTotals.lean).
  GIVEN WITH THE SEED: the statements are not yours to turn. If you find one false, say at which input.
  Laid BY PROGRAM, IN A SANDBOX (cutbox-rows.mjs): the forced cells as the released guide's own fill.sh prints them over the translation ee4c166339da817b… (all of the seat's roots in one cut). By AI agents, Wed Nov 11 2026. No macro, syntax, notation, axiom, sorry.
-/
import Derived.Test.YtddgjfclpknkcaaGreatDoorChecked
import GoSem.PinnedTables
import GoSem.Claim
import GoSem.ClaimJoined
import GoSem.ClaimMapViews
import Derived.JoinedTies
import Derived.KernelRfl
namespace Go.Proofs.YtddgjfclpknkcaaGreatDoor
/- THE CELL 'sum', in the pinned program and in every row, IS THE sha256 OF THE DUMP (.gsa) THAT YtddgjfclpknkcaaGreatDoorProg.lean LOADS. Nothing in Lean hashes anything: it is a label: what it is worth is what the hold of that sum in a sandbox is worth. -/
noncomputable def Tryz.pinned : Pinned := { name := "ytddgjfclpknkcaagreatdoor", sum := "ee4c166339da817bc7d1bc5e9ba64a9166fda85980bf70f99c36b4a8859befb8", checked := Tryz.checked }
namespace Rows
def none {H : Type} : Left H := { results := [], args := [] }

/- WHAT THE LISTED PACKAGE-LEVEL VARIABLES READ AS WHEN THE CALL BEGINS. Each datum BY PROGRAM (the guide's laid-datum.mjs) off the statement by which the dump's own 'gosem.cut.vars' lays the variable. In a bare row this is a premise. The card (YtddgjfclpknkcaaGreatDoorCards.lean) ties it to the program's text. -/
def laid_unicode_utf8_acceptRanges {H : Type} : DataW H := .agg [.agg [.lit (.int .u8 128), .lit (.int .u8 191)], .agg [.lit (.int .u8 160), .lit (.int .u8 191)], .agg [.lit (.int .u8 128), .lit (.int .u8 159)], .agg [.lit (.int .u8 144), .lit (.int .u8 191)], .agg [.lit (.int .u8 128), .lit (.int .u8 143)], .agg [.lit (.int .u8 0), .lit (.int .u8 0)], .agg [.lit (.int .u8 0), .lit (.int .u8 0)], .agg [.lit (.int .u8 0), .lit (.int .u8 0)], .agg [.lit (.int .u8 0), .lit (.int .u8 0)], .agg [.lit (.int .u8 0), .lit (.int .u8 0)], .agg [.lit (.int .u8 0), .lit (.int .u8 0)], .agg [.lit (.int .u8 0), .lit (.int .u8 0)], .agg [.lit (.int .u8 0), .lit (.int .u8 0)], .agg [.lit (.int .u8 0), .lit (.int .u8 0)], .agg [.lit (.int .u8 0), .lit (.int .u8 0)], .agg [.lit (.int .u8 0), .lit (.int .u8 0)]]
/-- One of Go's own tables, pinned by name: the form's constant. -/
def laid_unicode_utf8_first : DataW Unit := Go.Pinned.utf8First

/-- 'parrellaw15.LockPrepared': WHATEVER THE INPUT: true; the input reads as it did. -/
def lockPreparedSpec : ChangeSpec := { name := "lockPrepared", fn := fun _ => fun
  | [d1, d2, d3] => { results := [.lit (.bool true)], args := [d1, d2, d3] }
  | _ => none }
def lockPreparedRow : OpenClaim := { program := "ytddgjfclpknkcaagreatdoor", sum := "ee4c166339da817bc7d1bc5e9ba64a9166fda85980bf70f99c36b4a8859befb8", func := "parrel/parrellaw15.LockPrepared", spec := "lockPrepared", inPlace := ["internal/bytealg.IndexByteString", "internal/bytealg.IndexString"], unfollowed := true, recurses := true, named := ["unicode/utf8.first", "unicode/utf8.acceptRanges", "internal/bytealg.MaxLen"], plainKeys := false, apart := false, laid := [("unicode/utf8.acceptRanges", laid_unicode_utf8_acceptRanges), ("unicode/utf8.first", laid_unicode_utf8_first)] }
def LockPreparedSaid : Prop := lockPreparedRow.holds Tryz.pinned (OpenSpec.ofChange lockPreparedSpec)

/-- ITS FALSE NEIGHBOUR: 'it returns false'. Refute it at one input. -/
def lockPreparedWrong : ChangeSpec := { name := "lockPrepared", fn := fun _ => fun
  | [d1, d2, d3] => { results := [.lit (.bool false)], args := [d1, d2, d3] }
  | _ => none }
def LockPreparedWrongFalsely : Prop := lockPreparedRow.holds Tryz.pinned (OpenSpec.ofChange lockPreparedWrong)

/-- 'parrellaw15.LockTogether': WHATEVER THE INPUT: true; the input reads as it did. -/
def lockTogetherSpec : ChangeSpec := { name := "lockTogether", fn := fun _ => fun
  | [d] => { results := [.lit (.bool true)], args := [d] }
  | _ => none }
def lockTogetherRow : OpenClaim := { program := "ytddgjfclpknkcaagreatdoor", sum := "ee4c166339da817bc7d1bc5e9ba64a9166fda85980bf70f99c36b4a8859befb8", func := "parrel/parrellaw15.LockTogether", spec := "lockTogether", inPlace := ["internal/bytealg.IndexByteString", "internal/bytealg.IndexString"], unfollowed := true, recurses := true, named := ["unicode/utf8.first", "unicode/utf8.acceptRanges", "internal/bytealg.MaxLen"], plainKeys := false, apart := false, laid := [("unicode/utf8.acceptRanges", laid_unicode_utf8_acceptRanges), ("unicode/utf8.first", laid_unicode_utf8_first)] }
def LockTogetherSaid : Prop := lockTogetherRow.holds Tryz.pinned (OpenSpec.ofChange lockTogetherSpec)

/-- ITS FALSE NEIGHBOUR: 'it returns false'. Refute it at one input. -/
def lockTogetherWrong : ChangeSpec := { name := "lockTogether", fn := fun _ => fun
  | [d] => { results := [.lit (.bool false)], args := [d] }
  | _ => none }
def LockTogetherWrongFalsely : Prop := lockTogetherRow.holds Tryz.pinned (OpenSpec.ofChange lockTogetherWrong)

/-- 'parrellaw15.LockFree': WHATEVER THE INPUT: true; the input reads as it did. -/
def lockFreeSpec : ChangeSpec := { name := "lockFree", fn := fun _ => fun
  | [d] => { results := [.lit (.bool true)], args := [d] }
  | _ => none }
def lockFreeRow : OpenClaim := { program := "ytddgjfclpknkcaagreatdoor", sum := "ee4c166339da817bc7d1bc5e9ba64a9166fda85980bf70f99c36b4a8859befb8", func := "parrel/parrellaw15.LockFree", spec := "lockFree", inPlace := ["internal/bytealg.IndexByteString", "internal/bytealg.IndexString"], unfollowed := true, recurses := true, named := ["unicode/utf8.first", "unicode/utf8.acceptRanges", "internal/bytealg.MaxLen"], plainKeys := false, apart := false, laid := [("unicode/utf8.acceptRanges", laid_unicode_utf8_acceptRanges), ("unicode/utf8.first", laid_unicode_utf8_first)] }
def LockFreeSaid : Prop := lockFreeRow.holds Tryz.pinned (OpenSpec.ofChange lockFreeSpec)

/-- ITS FALSE NEIGHBOUR: 'it returns false'. Refute it at one input. -/
def lockFreeWrong : ChangeSpec := { name := "lockFree", fn := fun _ => fun
  | [d] => { results := [.lit (.bool false)], args := [d] }
  | _ => none }
def LockFreeWrongFalsely : Prop := lockFreeRow.holds Tryz.pinned (OpenSpec.ofChange lockFreeWrong)

/-- 'parrellaw15.LockPlays': WHATEVER THE INPUT: true; the input reads as it did. -/
def lockPlaysSpec : ChangeSpec := { name := "lockPlays", fn := fun _ => fun
  | [d] => { results := [.lit (.bool true)], args := [d] }
  | _ => none }
def lockPlaysRow : OpenClaim := { program := "ytddgjfclpknkcaagreatdoor", sum := "ee4c166339da817bc7d1bc5e9ba64a9166fda85980bf70f99c36b4a8859befb8", func := "parrel/parrellaw15.LockPlays", spec := "lockPlays", inPlace := ["internal/bytealg.IndexByteString", "internal/bytealg.IndexString"], unfollowed := true, recurses := true, named := ["unicode/utf8.first", "unicode/utf8.acceptRanges", "internal/bytealg.MaxLen"], plainKeys := false, apart := false, laid := [("unicode/utf8.acceptRanges", laid_unicode_utf8_acceptRanges), ("unicode/utf8.first", laid_unicode_utf8_first)] }
def LockPlaysSaid : Prop := lockPlaysRow.holds Tryz.pinned (OpenSpec.ofChange lockPlaysSpec)

/-- ITS FALSE NEIGHBOUR: 'it returns false'. Refute it at one input. -/
def lockPlaysWrong : ChangeSpec := { name := "lockPlays", fn := fun _ => fun
  | [d] => { results := [.lit (.bool false)], args := [d] }
  | _ => none }
def LockPlaysWrongFalsely : Prop := lockPlaysRow.holds Tryz.pinned (OpenSpec.ofChange lockPlaysWrong)

/-- 'parrellaw15.LockAges': WHATEVER THE INPUT: true; the input reads as it did. -/
def lockAgesSpec : ChangeSpec := { name := "lockAges", fn := fun _ => fun
  | [d] => { results := [.lit (.bool true)], args := [d] }
  | _ => none }
def lockAgesRow : OpenClaim := { program := "ytddgjfclpknkcaagreatdoor", sum := "ee4c166339da817bc7d1bc5e9ba64a9166fda85980bf70f99c36b4a8859befb8", func := "parrel/parrellaw15.LockAges", spec := "lockAges", inPlace := ["internal/bytealg.IndexByteString", "internal/bytealg.IndexString"], unfollowed := true, recurses := true, named := ["unicode/utf8.first", "unicode/utf8.acceptRanges", "internal/bytealg.MaxLen"], plainKeys := false, apart := false, laid := [("unicode/utf8.acceptRanges", laid_unicode_utf8_acceptRanges), ("unicode/utf8.first", laid_unicode_utf8_first)] }
def LockAgesSaid : Prop := lockAgesRow.holds Tryz.pinned (OpenSpec.ofChange lockAgesSpec)

/-- ITS FALSE NEIGHBOUR: 'it returns false'. Refute it at one input. -/
def lockAgesWrong : ChangeSpec := { name := "lockAges", fn := fun _ => fun
  | [d] => { results := [.lit (.bool false)], args := [d] }
  | _ => none }
def LockAgesWrongFalsely : Prop := lockAgesRow.holds Tryz.pinned (OpenSpec.ofChange lockAgesWrong)

/-- 'parrellaw15.LockNobody': WHATEVER THE INPUT: true; the input reads as it did. -/
def lockNobodySpec : ChangeSpec := { name := "lockNobody", fn := fun _ => fun
  | [d] => { results := [.lit (.bool true)], args := [d] }
  | _ => none }
def lockNobodyRow : OpenClaim := { program := "ytddgjfclpknkcaagreatdoor", sum := "ee4c166339da817bc7d1bc5e9ba64a9166fda85980bf70f99c36b4a8859befb8", func := "parrel/parrellaw15.LockNobody", spec := "lockNobody", inPlace := ["internal/bytealg.IndexByteString", "internal/bytealg.IndexString"], unfollowed := true, recurses := true, named := ["unicode/utf8.first", "unicode/utf8.acceptRanges", "internal/bytealg.MaxLen"], plainKeys := false, apart := false, laid := [("unicode/utf8.acceptRanges", laid_unicode_utf8_acceptRanges), ("unicode/utf8.first", laid_unicode_utf8_first)] }
def LockNobodySaid : Prop := lockNobodyRow.holds Tryz.pinned (OpenSpec.ofChange lockNobodySpec)

/-- ITS FALSE NEIGHBOUR: 'it returns false'. Refute it at one input. -/
def lockNobodyWrong : ChangeSpec := { name := "lockNobody", fn := fun _ => fun
  | [d] => { results := [.lit (.bool false)], args := [d] }
  | _ => none }
def LockNobodyWrongFalsely : Prop := lockNobodyRow.holds Tryz.pinned (OpenSpec.ofChange lockNobodyWrong)

/- THE SECOND FORM. 'bulk': how many values and letters a reading holds, each counted each time it is reached (what is shared counts as often as it is met; a slice's spare places count too). A statement '..UptoSaid' is the law's where the arguments, and the package variables that the reading takes, are together of bulk at most 1048576: NARROWER than '..Said'. Prove '..Said' where nothing that the law and all that it calls make is longer than what came in: it says more and counts as full. Else prove '..UptoSaid'. A law counts once. -/
mutual
def uptoBulk {H : Type} : DataW H → Nat
  | .lit (.string bytes) => bytes.length + 1
  | .lit _ => 1
  | .nil => 1
  | .ptr d => uptoBulk d + 1
  | .slice elems spare => uptoBulkAll elems + uptoBulkAll spare + 1
  | .agg parts => uptoBulkAll parts + 1
  | .iface _ d => uptoBulk d + 1
  | .map entries => uptoBulkEntries entries + 1
  | .held _ => 1
def uptoBulkAll {H : Type} : List (DataW H) → Nat
  | [] => 0
  | d :: r => uptoBulk d + uptoBulkAll r
def uptoBulkEntries {H : Type} : List (Lit × DataW H) → Nat
  | [] => 0
  | x :: r => uptoBulkEntry x + uptoBulkEntries r
def uptoBulkEntry {H : Type} : Lit × DataW H → Nat
  | (.string bytes, d) => bytes.length + uptoBulk d + 1
  | (_, d) => uptoBulk d + 1
 end
def uptoSmall : (H : Type) → List (DataW H) → Bool := fun _ ds => decide (uptoBulkAll ds ≤ 1048576)
def OpenSpec.upto (s : _root_.Go.ChangeSpec) : _root_.Go.OpenSpec := { _root_.Go.OpenSpec.ofChange s with cond := some uptoSmall }

/-- 'parrellaw15.LockPrepared', WHERE WHAT IT READS IS OF BULK AT MOST 1048576: true; the input reads as it did. -/
def lockPreparedUptoRow : OpenClaim := { program := "ytddgjfclpknkcaagreatdoor", sum := "ee4c166339da817bc7d1bc5e9ba64a9166fda85980bf70f99c36b4a8859befb8", func := "parrel/parrellaw15.LockPrepared", spec := "lockPrepared", inPlace := ["internal/bytealg.IndexByteString", "internal/bytealg.IndexString"], unfollowed := true, recurses := true, named := ["unicode/utf8.first", "unicode/utf8.acceptRanges", "internal/bytealg.MaxLen"], plainKeys := false, apart := false, laid := [("unicode/utf8.acceptRanges", laid_unicode_utf8_acceptRanges), ("unicode/utf8.first", laid_unicode_utf8_first)], narrowed := true }
def LockPreparedUptoSaid : Prop := lockPreparedUptoRow.holds Tryz.pinned (OpenSpec.upto lockPreparedSpec)

/-- 'parrellaw15.LockTogether', WHERE WHAT IT READS IS OF BULK AT MOST 1048576: true; the input reads as it did. -/
def lockTogetherUptoRow : OpenClaim := { program := "ytddgjfclpknkcaagreatdoor", sum := "ee4c166339da817bc7d1bc5e9ba64a9166fda85980bf70f99c36b4a8859befb8", func := "parrel/parrellaw15.LockTogether", spec := "lockTogether", inPlace := ["internal/bytealg.IndexByteString", "internal/bytealg.IndexString"], unfollowed := true, recurses := true, named := ["unicode/utf8.first", "unicode/utf8.acceptRanges", "internal/bytealg.MaxLen"], plainKeys := false, apart := false, laid := [("unicode/utf8.acceptRanges", laid_unicode_utf8_acceptRanges), ("unicode/utf8.first", laid_unicode_utf8_first)], narrowed := true }
def LockTogetherUptoSaid : Prop := lockTogetherUptoRow.holds Tryz.pinned (OpenSpec.upto lockTogetherSpec)

/-- 'parrellaw15.LockFree', WHERE WHAT IT READS IS OF BULK AT MOST 1048576: true; the input reads as it did. -/
def lockFreeUptoRow : OpenClaim := { program := "ytddgjfclpknkcaagreatdoor", sum := "ee4c166339da817bc7d1bc5e9ba64a9166fda85980bf70f99c36b4a8859befb8", func := "parrel/parrellaw15.LockFree", spec := "lockFree", inPlace := ["internal/bytealg.IndexByteString", "internal/bytealg.IndexString"], unfollowed := true, recurses := true, named := ["unicode/utf8.first", "unicode/utf8.acceptRanges", "internal/bytealg.MaxLen"], plainKeys := false, apart := false, laid := [("unicode/utf8.acceptRanges", laid_unicode_utf8_acceptRanges), ("unicode/utf8.first", laid_unicode_utf8_first)], narrowed := true }
def LockFreeUptoSaid : Prop := lockFreeUptoRow.holds Tryz.pinned (OpenSpec.upto lockFreeSpec)

/-- 'parrellaw15.LockPlays', WHERE WHAT IT READS IS OF BULK AT MOST 1048576: true; the input reads as it did. -/
def lockPlaysUptoRow : OpenClaim := { program := "ytddgjfclpknkcaagreatdoor", sum := "ee4c166339da817bc7d1bc5e9ba64a9166fda85980bf70f99c36b4a8859befb8", func := "parrel/parrellaw15.LockPlays", spec := "lockPlays", inPlace := ["internal/bytealg.IndexByteString", "internal/bytealg.IndexString"], unfollowed := true, recurses := true, named := ["unicode/utf8.first", "unicode/utf8.acceptRanges", "internal/bytealg.MaxLen"], plainKeys := false, apart := false, laid := [("unicode/utf8.acceptRanges", laid_unicode_utf8_acceptRanges), ("unicode/utf8.first", laid_unicode_utf8_first)], narrowed := true }
def LockPlaysUptoSaid : Prop := lockPlaysUptoRow.holds Tryz.pinned (OpenSpec.upto lockPlaysSpec)

/-- 'parrellaw15.LockAges', WHERE WHAT IT READS IS OF BULK AT MOST 1048576: true; the input reads as it did. -/
def lockAgesUptoRow : OpenClaim := { program := "ytddgjfclpknkcaagreatdoor", sum := "ee4c166339da817bc7d1bc5e9ba64a9166fda85980bf70f99c36b4a8859befb8", func := "parrel/parrellaw15.LockAges", spec := "lockAges", inPlace := ["internal/bytealg.IndexByteString", "internal/bytealg.IndexString"], unfollowed := true, recurses := true, named := ["unicode/utf8.first", "unicode/utf8.acceptRanges", "internal/bytealg.MaxLen"], plainKeys := false, apart := false, laid := [("unicode/utf8.acceptRanges", laid_unicode_utf8_acceptRanges), ("unicode/utf8.first", laid_unicode_utf8_first)], narrowed := true }
def LockAgesUptoSaid : Prop := lockAgesUptoRow.holds Tryz.pinned (OpenSpec.upto lockAgesSpec)

/-- 'parrellaw15.LockNobody', WHERE WHAT IT READS IS OF BULK AT MOST 1048576: true; the input reads as it did. -/
def lockNobodyUptoRow : OpenClaim := { program := "ytddgjfclpknkcaagreatdoor", sum := "ee4c166339da817bc7d1bc5e9ba64a9166fda85980bf70f99c36b4a8859befb8", func := "parrel/parrellaw15.LockNobody", spec := "lockNobody", inPlace := ["internal/bytealg.IndexByteString", "internal/bytealg.IndexString"], unfollowed := true, recurses := true, named := ["unicode/utf8.first", "unicode/utf8.acceptRanges", "internal/bytealg.MaxLen"], plainKeys := false, apart := false, laid := [("unicode/utf8.acceptRanges", laid_unicode_utf8_acceptRanges), ("unicode/utf8.first", laid_unicode_utf8_first)], narrowed := true }
def LockNobodyUptoSaid : Prop := lockNobodyUptoRow.holds Tryz.pinned (OpenSpec.upto lockNobodySpec)

end Rows
end Go.Proofs.YtddgjfclpknkcaaGreatDoor
