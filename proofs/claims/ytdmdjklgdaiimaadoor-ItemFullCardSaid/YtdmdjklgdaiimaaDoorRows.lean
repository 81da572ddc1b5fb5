/-
  NARROWER THAN 'FOR EVERY INPUT', by the rows' own cells (each row's printed sentence says how): ItemPlays: laid · ItemRise: laid · ItemLast: laid · ItemFull: laid · ItemMerges: laid.
  DERIVED. THE GIVEN ROWS OF THIS SEAT. 5 by the template 'for every input the law returns true; each argument reads behind the call as it read before'; 0 by the template 'total and deterministic' (their statements: YtdmdjklgdaiimaaDoorTotals.lean).
  GIVEN WITH THE SEED: the statements are not yours to turn. If you find one false, say at which input.
  Laid BY PROGRAM, IN A SANDBOX (cutbox-rows.mjs): the forced cells as the released guide's own fill.sh prints them over the translation 852f53957194bbba… (all of the seat's roots in one cut). By AI agents, Wed Nov 11 2026. No macro, syntax, notation, axiom, sorry.
-/
import Derived.Test.YtdmdjklgdaiimaaDoorChecked
import GoSem.PinnedTables
import GoSem.Claim
import GoSem.ClaimJoined
import GoSem.ClaimMapViews
import Derived.JoinedTies
import Derived.KernelRfl
namespace Go.Proofs.YtdmdjklgdaiimaaDoor
/- THE CELL 'sum', in the pinned program and in every row, IS THE sha256 OF THE DUMP (.gsa) THAT YtdmdjklgdaiimaaDoorProg.lean LOADS. Nothing in Lean hashes anything: it is a label: what it is worth is what the hold of that sum in a sandbox is worth. -/
noncomputable def Tryd.pinned : Pinned := { name := "ytdmdjklgdaiimaadoor", sum := "852f53957194bbba623f2c94229743e044ff1c89a0d8c11bf18554445270c888", checked := Tryd.checked }
namespace Rows
def none {H : Type} : Left H := { results := [], args := [] }

/- WHAT THE LISTED PACKAGE-LEVEL VARIABLES READ AS WHEN THE CALL BEGINS. Each datum BY PROGRAM (the guide's laid-datum.mjs) off the statement by which the dump's own 'gosem.cut.vars' lays the variable. In a bare row this is a premise. The card (YtdmdjklgdaiimaaDoorCards.lean) ties it to the program's text. -/
def laid_unicode_utf8_acceptRanges {H : Type} : DataW H := .agg [.agg [.lit (.int .u8 128), .lit (.int .u8 191)], .agg [.lit (.int .u8 160), .lit (.int .u8 191)], .agg [.lit (.int .u8 128), .lit (.int .u8 159)], .agg [.lit (.int .u8 144), .lit (.int .u8 191)], .agg [.lit (.int .u8 128), .lit (.int .u8 143)], .agg [.lit (.int .u8 0), .lit (.int .u8 0)], .agg [.lit (.int .u8 0), .lit (.int .u8 0)], .agg [.lit (.int .u8 0), .lit (.int .u8 0)], .agg [.lit (.int .u8 0), .lit (.int .u8 0)], .agg [.lit (.int .u8 0), .lit (.int .u8 0)], .agg [.lit (.int .u8 0), .lit (.int .u8 0)], .agg [.lit (.int .u8 0), .lit (.int .u8 0)], .agg [.lit (.int .u8 0), .lit (.int .u8 0)], .agg [.lit (.int .u8 0), .lit (.int .u8 0)], .agg [.lit (.int .u8 0), .lit (.int .u8 0)], .agg [.lit (.int .u8 0), .lit (.int .u8 0)]]
/-- One of Go's own tables, pinned by name: the form's constant. -/
def laid_unicode_utf8_first : DataW Unit := Go.Pinned.utf8First

/-- 'parrellaw13.ItemPlays': WHATEVER THE INPUT: true; the input reads as it did. -/
def itemPlaysSpec : ChangeSpec := { name := "itemPlays", fn := fun _ => fun
  | [d] => { results := [.lit (.bool true)], args := [d] }
  | _ => none }
def itemPlaysRow : OpenClaim := { program := "ytdmdjklgdaiimaadoor", sum := "852f53957194bbba623f2c94229743e044ff1c89a0d8c11bf18554445270c888", func := "parrel/parrellaw13.ItemPlays", spec := "itemPlays", inPlace := ["internal/bytealg.IndexByteString", "internal/bytealg.IndexString"], unfollowed := true, recurses := true, named := ["unicode/utf8.first", "unicode/utf8.acceptRanges", "internal/bytealg.MaxLen"], plainKeys := false, apart := false, laid := [("unicode/utf8.acceptRanges", laid_unicode_utf8_acceptRanges), ("unicode/utf8.first", laid_unicode_utf8_first)] }
def ItemPlaysSaid : Prop := itemPlaysRow.holds Tryd.pinned (OpenSpec.ofChange itemPlaysSpec)

/-- ITS FALSE NEIGHBOUR: 'it returns false'. Refute it at one input. -/
def itemPlaysWrong : ChangeSpec := { name := "itemPlays", fn := fun _ => fun
  | [d] => { results := [.lit (.bool false)], args := [d] }
  | _ => none }
def ItemPlaysWrongFalsely : Prop := itemPlaysRow.holds Tryd.pinned (OpenSpec.ofChange itemPlaysWrong)

/-- 'parrellaw13.ItemRise': WHATEVER THE INPUT: true; the input reads as it did. -/
def itemRiseSpec : ChangeSpec := { name := "itemRise", fn := fun _ => fun
  | [d] => { results := [.lit (.bool true)], args := [d] }
  | _ => none }
def itemRiseRow : OpenClaim := { program := "ytdmdjklgdaiimaadoor", sum := "852f53957194bbba623f2c94229743e044ff1c89a0d8c11bf18554445270c888", func := "parrel/parrellaw13.ItemRise", spec := "itemRise", inPlace := ["internal/bytealg.IndexByteString", "internal/bytealg.IndexString"], unfollowed := true, recurses := true, named := ["unicode/utf8.first", "unicode/utf8.acceptRanges", "internal/bytealg.MaxLen"], plainKeys := false, apart := false, laid := [("unicode/utf8.acceptRanges", laid_unicode_utf8_acceptRanges), ("unicode/utf8.first", laid_unicode_utf8_first)] }
def ItemRiseSaid : Prop := itemRiseRow.holds Tryd.pinned (OpenSpec.ofChange itemRiseSpec)

/-- ITS FALSE NEIGHBOUR: 'it returns false'. Refute it at one input. -/
def itemRiseWrong : ChangeSpec := { name := "itemRise", fn := fun _ => fun
  | [d] => { results := [.lit (.bool false)], args := [d] }
  | _ => none }
def ItemRiseWrongFalsely : Prop := itemRiseRow.holds Tryd.pinned (OpenSpec.ofChange itemRiseWrong)

/-- 'parrellaw13.ItemLast': WHATEVER THE INPUT: true; the input reads as it did. -/
def itemLastSpec : ChangeSpec := { name := "itemLast", fn := fun _ => fun
  | [d1, d2] => { results := [.lit (.bool true)], args := [d1, d2] }
  | _ => none }
def itemLastRow : OpenClaim := { program := "ytdmdjklgdaiimaadoor", sum := "852f53957194bbba623f2c94229743e044ff1c89a0d8c11bf18554445270c888", func := "parrel/parrellaw13.ItemLast", spec := "itemLast", inPlace := ["internal/bytealg.IndexByteString", "internal/bytealg.IndexString"], unfollowed := true, recurses := true, named := ["unicode/utf8.first", "unicode/utf8.acceptRanges", "internal/bytealg.MaxLen"], plainKeys := false, apart := false, laid := [("unicode/utf8.acceptRanges", laid_unicode_utf8_acceptRanges), ("unicode/utf8.first", laid_unicode_utf8_first)] }
def ItemLastSaid : Prop := itemLastRow.holds Tryd.pinned (OpenSpec.ofChange itemLastSpec)

/-- ITS FALSE NEIGHBOUR: 'it returns false'. Refute it at one input. -/
def itemLastWrong : ChangeSpec := { name := "itemLast", fn := fun _ => fun
  | [d1, d2] => { results := [.lit (.bool false)], args := [d1, d2] }
  | _ => none }
def ItemLastWrongFalsely : Prop := itemLastRow.holds Tryd.pinned (OpenSpec.ofChange itemLastWrong)

/-- 'parrellaw13.ItemFull': WHATEVER THE INPUT: true; the input reads as it did. -/
def itemFullSpec : ChangeSpec := { name := "itemFull", fn := fun _ => fun
  | [d1, d2] => { results := [.lit (.bool true)], args := [d1, d2] }
  | _ => none }
def itemFullRow : OpenClaim := { program := "ytdmdjklgdaiimaadoor", sum := "852f53957194bbba623f2c94229743e044ff1c89a0d8c11bf18554445270c888", func := "parrel/parrellaw13.ItemFull", spec := "itemFull", inPlace := ["internal/bytealg.IndexByteString", "internal/bytealg.IndexString"], unfollowed := true, recurses := true, named := ["unicode/utf8.first", "unicode/utf8.acceptRanges", "internal/bytealg.MaxLen"], plainKeys := false, apart := false, laid := [("unicode/utf8.acceptRanges", laid_unicode_utf8_acceptRanges), ("unicode/utf8.first", laid_unicode_utf8_first)] }
def ItemFullSaid : Prop := itemFullRow.holds Tryd.pinned (OpenSpec.ofChange itemFullSpec)

/-- ITS FALSE NEIGHBOUR: 'it returns false'. Refute it at one input. -/
def itemFullWrong : ChangeSpec := { name := "itemFull", fn := fun _ => fun
  | [d1, d2] => { results := [.lit (.bool false)], args := [d1, d2] }
  | _ => none }
def ItemFullWrongFalsely : Prop := itemFullRow.holds Tryd.pinned (OpenSpec.ofChange itemFullWrong)

/-- 'parrellaw13.ItemMerges': WHATEVER THE INPUT: true; the input reads as it did. -/
def itemMergesSpec : ChangeSpec := { name := "itemMerges", fn := fun _ => fun
  | [d1, d2] => { results := [.lit (.bool true)], args := [d1, d2] }
  | _ => none }
def itemMergesRow : OpenClaim := { program := "ytdmdjklgdaiimaadoor", sum := "852f53957194bbba623f2c94229743e044ff1c89a0d8c11bf18554445270c888", func := "parrel/parrellaw13.ItemMerges", spec := "itemMerges", inPlace := ["internal/bytealg.IndexByteString", "internal/bytealg.IndexString"], unfollowed := true, recurses := true, named := ["unicode/utf8.first", "unicode/utf8.acceptRanges", "internal/bytealg.MaxLen"], plainKeys := false, apart := false, laid := [("unicode/utf8.acceptRanges", laid_unicode_utf8_acceptRanges), ("unicode/utf8.first", laid_unicode_utf8_first)] }
def ItemMergesSaid : Prop := itemMergesRow.holds Tryd.pinned (OpenSpec.ofChange itemMergesSpec)

/-- ITS FALSE NEIGHBOUR: 'it returns false'. Refute it at one input. -/
def itemMergesWrong : ChangeSpec := { name := "itemMerges", fn := fun _ => fun
  | [d1, d2] => { results := [.lit (.bool false)], args := [d1, d2] }
  | _ => none }
def ItemMergesWrongFalsely : Prop := itemMergesRow.holds Tryd.pinned (OpenSpec.ofChange itemMergesWrong)

/- THE SECOND FORM. 'bulk': how many values and letters a reading holds, each counted each time it is reached (what is shared counts as often as it is met; a slice's spare places count too). A statement '..UptoSaid' is the law's where the arguments, and the package variables that the reading takes, are together of bulk at most 1048576: NARROWER than '..Said'. Prove '..Said' where nothing that the law and all that it calls make is longer than what came in: it says more and counts as full. Else prove '..UptoSaid'. A law counts once. -/
mutual
def uptoBulk {H : Type} : DataW H → Nat
  | .lit (.string bytes) => bytes.length + 1
  | .lit _ => 1
  | .nil => 1
  | .ptr d => uptoBulk d + 1
  | .slice elems spare => uptoBulkAll elems + uptoBulkAll spare + 1
  | .agg parts => uptoBulkAll parts + 1
  | .iface _ d => uptoBulk d + 1
  | .map entries => uptoBulkEntries entries + 1
  | .held _ => 1
def uptoBulkAll {H : Type} : List (DataW H) → Nat
  | [] => 0
  | d :: r => uptoBulk d + uptoBulkAll r
def uptoBulkEntries {H : Type} : List (Lit × DataW H) → Nat
  | [] => 0
  | x :: r => uptoBulkEntry x + uptoBulkEntries r
def uptoBulkEntry {H : Type} : Lit × DataW H → Nat
  | (.string bytes, d) => bytes.length + uptoBulk d + 1
  | (_, d) => uptoBulk d + 1
 end
def uptoSmall : (H : Type) → List (DataW H) → Bool := fun _ ds => decide (uptoBulkAll ds ≤ 1048576)
def OpenSpec.upto (s : _root_.Go.ChangeSpec) : _root_.Go.OpenSpec := { _root_.Go.OpenSpec.ofChange s with cond := some uptoSmall }

/-- 'parrellaw13.ItemPlays', WHERE WHAT IT READS IS OF BULK AT MOST 1048576: true; the input reads as it did. -/
def itemPlaysUptoRow : OpenClaim := { program := "ytdmdjklgdaiimaadoor", sum := "852f53957194bbba623f2c94229743e044ff1c89a0d8c11bf18554445270c888", func := "parrel/parrellaw13.ItemPlays", spec := "itemPlays", inPlace := ["internal/bytealg.IndexByteString", "internal/bytealg.IndexString"], unfollowed := true, recurses := true, named := ["unicode/utf8.first", "unicode/utf8.acceptRanges", "internal/bytealg.MaxLen"], plainKeys := false, apart := false, laid := [("unicode/utf8.acceptRanges", laid_unicode_utf8_acceptRanges), ("unicode/utf8.first", laid_unicode_utf8_first)], narrowed := true }
def ItemPlaysUptoSaid : Prop := itemPlaysUptoRow.holds Tryd.pinned (OpenSpec.upto itemPlaysSpec)

/-- 'parrellaw13.ItemRise', WHERE WHAT IT READS IS OF BULK AT MOST 1048576: true; the input reads as it did. -/
def itemRiseUptoRow : OpenClaim := { program := "ytdmdjklgdaiimaadoor", sum := "852f53957194bbba623f2c94229743e044ff1c89a0d8c11bf18554445270c888", func := "parrel/parrellaw13.ItemRise", spec := "itemRise", inPlace := ["internal/bytealg.IndexByteString", "internal/bytealg.IndexString"], unfollowed := true, recurses := true, named := ["unicode/utf8.first", "unicode/utf8.acceptRanges", "internal/bytealg.MaxLen"], plainKeys := false, apart := false, laid := [("unicode/utf8.acceptRanges", laid_unicode_utf8_acceptRanges), ("unicode/utf8.first", laid_unicode_utf8_first)], narrowed := true }
def ItemRiseUptoSaid : Prop := itemRiseUptoRow.holds Tryd.pinned (OpenSpec.upto itemRiseSpec)

/-- 'parrellaw13.ItemLast', WHERE WHAT IT READS IS OF BULK AT MOST 1048576: true; the input reads as it did. -/
def itemLastUptoRow : OpenClaim := { program := "ytdmdjklgdaiimaadoor", sum := "852f53957194bbba623f2c94229743e044ff1c89a0d8c11bf18554445270c888", func := "parrel/parrellaw13.ItemLast", spec := "itemLast", inPlace := ["internal/bytealg.IndexByteString", "internal/bytealg.IndexString"], unfollowed := true, recurses := true, named := ["unicode/utf8.first", "unicode/utf8.acceptRanges", "internal/bytealg.MaxLen"], plainKeys := false, apart := false, laid := [("unicode/utf8.acceptRanges", laid_unicode_utf8_acceptRanges), ("unicode/utf8.first", laid_unicode_utf8_first)], narrowed := true }
def ItemLastUptoSaid : Prop := itemLastUptoRow.holds Tryd.pinned (OpenSpec.upto itemLastSpec)

/-- 'parrellaw13.ItemFull', WHERE WHAT IT READS IS OF BULK AT MOST 1048576: true; the input reads as it did. -/
def itemFullUptoRow : OpenClaim := { program := "ytdmdjklgdaiimaadoor", sum := "852f53957194bbba623f2c94229743e044ff1c89a0d8c11bf18554445270c888", func := "parrel/parrellaw13.ItemFull", spec := "itemFull", inPlace := ["internal/bytealg.IndexByteString", "internal/bytealg.IndexString"], unfollowed := true, recurses := true, named := ["unicode/utf8.first", "unicode/utf8.acceptRanges", "internal/bytealg.MaxLen"], plainKeys := false, apart := false, laid := [("unicode/utf8.acceptRanges", laid_unicode_utf8_acceptRanges), ("unicode/utf8.first", laid_unicode_utf8_first)], narrowed := true }
def ItemFullUptoSaid : Prop := itemFullUptoRow.holds Tryd.pinned (OpenSpec.upto itemFullSpec)

/-- 'parrellaw13.ItemMerges', WHERE WHAT IT READS IS OF BULK AT MOST 1048576: true; the input reads as it did. -/
def itemMergesUptoRow : OpenClaim := { program := "ytdmdjklgdaiimaadoor", sum := "852f53957194bbba623f2c94229743e044ff1c89a0d8c11bf18554445270c888", func := "parrel/parrellaw13.ItemMerges", spec := "itemMerges", inPlace := ["internal/bytealg.IndexByteString", "internal/bytealg.IndexString"], unfollowed := true, recurses := true, named := ["unicode/utf8.first", "unicode/utf8.acceptRanges", "internal/bytealg.MaxLen"], plainKeys := false, apart := false, laid := [("unicode/utf8.acceptRanges", laid_unicode_utf8_acceptRanges), ("unicode/utf8.first", laid_unicode_utf8_first)], narrowed := true }
def ItemMergesUptoSaid : Prop := itemMergesUptoRow.holds Tryd.pinned (OpenSpec.upto itemMergesSpec)

end Rows
end Go.Proofs.YtdmdjklgdaiimaaDoor
