/-
  No cell of these rows narrows 'for every input' (looked for: loops, veiled, ifaces, maps, wideKeys, modest, calm, conditions, laid).
  DERIVED. THE GIVEN ROWS OF THIS SEAT. 5 by the template 'for every input the law returns true; each argument reads behind the call as it read before'; 0 by the template 'total and deterministic' (their statements: YtofkaccoofafmaaTotals.lean).
  GIVEN WITH THE SEED: the statements are not yours to turn. If you find one false, say at which input.
  Laid BY PROGRAM, IN A SANDBOX (cutbox-rows.mjs): the forced cells as the released guide's own fill.sh prints them over the translation 2142bb491c2a06de… (all of the seat's roots in one cut). By AI agents, Wed Nov 11 2026. No macro, syntax, notation, axiom, sorry.
-/
import Derived.Test.YtofkaccoofafmaaChecked
import GoSem.Claim
import GoSem.ClaimJoined
import GoSem.ClaimMapViews
import Derived.JoinedTies
import Derived.KernelRfl
namespace Go.Proofs.Ytofkaccoofafmaa
/- THE CELL 'sum', in the pinned program and in every row, IS THE sha256 OF THE DUMP (.gsa) THAT YtofkaccoofafmaaProg.lean LOADS. Nothing in Lean hashes anything: it is a label: what it is worth is what the hold of that sum in a sandbox is worth. -/
noncomputable def Try.pinned : Pinned := { name := "ytofkaccoofafmaa", sum := "2142bb491c2a06de3680c2d095d69f1f115594cf0bd4fa98addbd8e1997218e1", checked := Try.checked }
namespace Rows
def none {H : Type} : Left H := { results := [], args := [] }

/-- 'parrellaw26.HistOrders': WHATEVER THE INPUT: true; the input reads as it did. -/
def histOrdersSpec : ChangeSpec := { name := "histOrders", fn := fun _ => fun
  | [d] => { results := [.lit (.bool true)], args := [d] }
  | _ => none }
def histOrdersRow : OpenClaim := { program := "ytofkaccoofafmaa", sum := "2142bb491c2a06de3680c2d095d69f1f115594cf0bd4fa98addbd8e1997218e1", func := "parrel/parrellaw26.HistOrders", spec := "histOrders", unfollowed := true, recurses := true, plainKeys := false, apart := false }
def HistOrdersSaid : Prop := histOrdersRow.holds Try.pinned (OpenSpec.ofChange histOrdersSpec)

/-- ITS FALSE NEIGHBOUR: 'it returns false'. Refute it at one input. -/
def histOrdersWrong : ChangeSpec := { name := "histOrders", fn := fun _ => fun
  | [d] => { results := [.lit (.bool false)], args := [d] }
  | _ => none }
def HistOrdersWrongFalsely : Prop := histOrdersRow.holds Try.pinned (OpenSpec.ofChange histOrdersWrong)

/-- 'parrellaw26.HistPlays': WHATEVER THE INPUT: true; the input reads as it did. -/
def histPlaysSpec : ChangeSpec := { name := "histPlays", fn := fun _ => fun
  | [d1, d2] => { results := [.lit (.bool true)], args := [d1, d2] }
  | _ => none }
def histPlaysRow : OpenClaim := { program := "ytofkaccoofafmaa", sum := "2142bb491c2a06de3680c2d095d69f1f115594cf0bd4fa98addbd8e1997218e1", func := "parrel/parrellaw26.HistPlays", spec := "histPlays", unfollowed := true, recurses := true, plainKeys := false, apart := false }
def HistPlaysSaid : Prop := histPlaysRow.holds Try.pinned (OpenSpec.ofChange histPlaysSpec)

/-- ITS FALSE NEIGHBOUR: 'it returns false'. Refute it at one input. -/
def histPlaysWrong : ChangeSpec := { name := "histPlays", fn := fun _ => fun
  | [d1, d2] => { results := [.lit (.bool false)], args := [d1, d2] }
  | _ => none }
def HistPlaysWrongFalsely : Prop := histPlaysRow.holds Try.pinned (OpenSpec.ofChange histPlaysWrong)

/-- 'parrellaw26.HistSound': WHATEVER THE INPUT: true; the input reads as it did. -/
def histSoundSpec : ChangeSpec := { name := "histSound", fn := fun _ => fun
  | [d] => { results := [.lit (.bool true)], args := [d] }
  | _ => none }
def histSoundRow : OpenClaim := { program := "ytofkaccoofafmaa", sum := "2142bb491c2a06de3680c2d095d69f1f115594cf0bd4fa98addbd8e1997218e1", func := "parrel/parrellaw26.HistSound", spec := "histSound", unfollowed := true, recurses := true, plainKeys := false, apart := false }
def HistSoundSaid : Prop := histSoundRow.holds Try.pinned (OpenSpec.ofChange histSoundSpec)

/-- ITS FALSE NEIGHBOUR: 'it returns false'. Refute it at one input. -/
def histSoundWrong : ChangeSpec := { name := "histSound", fn := fun _ => fun
  | [d] => { results := [.lit (.bool false)], args := [d] }
  | _ => none }
def HistSoundWrongFalsely : Prop := histSoundRow.holds Try.pinned (OpenSpec.ofChange histSoundWrong)

/-- 'parrellaw26.HistSerial': WHATEVER THE INPUT: true; the input reads as it did. -/
def histSerialSpec : ChangeSpec := { name := "histSerial", fn := fun _ => fun
  | [d1, d2, d3] => { results := [.lit (.bool true)], args := [d1, d2, d3] }
  | _ => none }
def histSerialRow : OpenClaim := { program := "ytofkaccoofafmaa", sum := "2142bb491c2a06de3680c2d095d69f1f115594cf0bd4fa98addbd8e1997218e1", func := "parrel/parrellaw26.HistSerial", spec := "histSerial", unfollowed := true, recurses := true, plainKeys := false, apart := false }
def HistSerialSaid : Prop := histSerialRow.holds Try.pinned (OpenSpec.ofChange histSerialSpec)

/-- ITS FALSE NEIGHBOUR: 'it returns false'. Refute it at one input. -/
def histSerialWrong : ChangeSpec := { name := "histSerial", fn := fun _ => fun
  | [d1, d2, d3] => { results := [.lit (.bool false)], args := [d1, d2, d3] }
  | _ => none }
def HistSerialWrongFalsely : Prop := histSerialRow.holds Try.pinned (OpenSpec.ofChange histSerialWrong)

/-- 'parrellaw26.HistCircle': WHATEVER THE INPUT: true; the input reads as it did. -/
def histCircleSpec : ChangeSpec := { name := "histCircle", fn := fun _ => fun
  | [d] => { results := [.lit (.bool true)], args := [d] }
  | _ => none }
def histCircleRow : OpenClaim := { program := "ytofkaccoofafmaa", sum := "2142bb491c2a06de3680c2d095d69f1f115594cf0bd4fa98addbd8e1997218e1", func := "parrel/parrellaw26.HistCircle", spec := "histCircle", unfollowed := true, recurses := true, plainKeys := false, apart := false }
def HistCircleSaid : Prop := histCircleRow.holds Try.pinned (OpenSpec.ofChange histCircleSpec)

/-- ITS FALSE NEIGHBOUR: 'it returns false'. Refute it at one input. -/
def histCircleWrong : ChangeSpec := { name := "histCircle", fn := fun _ => fun
  | [d] => { results := [.lit (.bool false)], args := [d] }
  | _ => none }
def HistCircleWrongFalsely : Prop := histCircleRow.holds Try.pinned (OpenSpec.ofChange histCircleWrong)

/- THE SECOND FORM. 'bulk': how many values and letters a reading holds, each counted each time it is reached (what is shared counts as often as it is met; a slice's spare places count too). A statement '..UptoSaid' is the law's where the arguments, and the package variables that the reading takes, are together of bulk at most 1048576: NARROWER than '..Said'. Prove '..Said' where nothing that the law and all that it calls make is longer than what came in: it says more and counts as full. Else prove '..UptoSaid'. A law counts once. -/
mutual
def uptoBulk {H : Type} : DataW H → Nat
  | .lit (.string bytes) => bytes.length + 1
  | .lit _ => 1
  | .nil => 1
  | .ptr d => uptoBulk d + 1
  | .slice elems spare => uptoBulkAll elems + uptoBulkAll spare + 1
  | .agg parts => uptoBulkAll parts + 1
  | .iface _ d => uptoBulk d + 1
  | .map entries => uptoBulkEntries entries + 1
  | .held _ => 1
def uptoBulkAll {H : Type} : List (DataW H) → Nat
  | [] => 0
  | d :: r => uptoBulk d + uptoBulkAll r
def uptoBulkEntries {H : Type} : List (Lit × DataW H) → Nat
  | [] => 0
  | x :: r => uptoBulkEntry x + uptoBulkEntries r
def uptoBulkEntry {H : Type} : Lit × DataW H → Nat
  | (.string bytes, d) => bytes.length + uptoBulk d + 1
  | (_, d) => uptoBulk d + 1
 end
def uptoSmall : (H : Type) → List (DataW H) → Bool := fun _ ds => decide (uptoBulkAll ds ≤ 1048576)
def OpenSpec.upto (s : _root_.Go.ChangeSpec) : _root_.Go.OpenSpec := { _root_.Go.OpenSpec.ofChange s with cond := some uptoSmall }

/-- 'parrellaw26.HistOrders', WHERE WHAT IT READS IS OF BULK AT MOST 1048576: true; the input reads as it did. -/
def histOrdersUptoRow : OpenClaim := { program := "ytofkaccoofafmaa", sum := "2142bb491c2a06de3680c2d095d69f1f115594cf0bd4fa98addbd8e1997218e1", func := "parrel/parrellaw26.HistOrders", spec := "histOrders", unfollowed := true, recurses := true, plainKeys := false, apart := false, narrowed := true }
def HistOrdersUptoSaid : Prop := histOrdersUptoRow.holds Try.pinned (OpenSpec.upto histOrdersSpec)

/-- 'parrellaw26.HistPlays', WHERE WHAT IT READS IS OF BULK AT MOST 1048576: true; the input reads as it did. -/
def histPlaysUptoRow : OpenClaim := { program := "ytofkaccoofafmaa", sum := "2142bb491c2a06de3680c2d095d69f1f115594cf0bd4fa98addbd8e1997218e1", func := "parrel/parrellaw26.HistPlays", spec := "histPlays", unfollowed := true, recurses := true, plainKeys := false, apart := false, narrowed := true }
def HistPlaysUptoSaid : Prop := histPlaysUptoRow.holds Try.pinned (OpenSpec.upto histPlaysSpec)

/-- 'parrellaw26.HistSound', WHERE WHAT IT READS IS OF BULK AT MOST 1048576: true; the input reads as it did. -/
def histSoundUptoRow : OpenClaim := { program := "ytofkaccoofafmaa", sum := "2142bb491c2a06de3680c2d095d69f1f115594cf0bd4fa98addbd8e1997218e1", func := "parrel/parrellaw26.HistSound", spec := "histSound", unfollowed := true, recurses := true, plainKeys := false, apart := false, narrowed := true }
def HistSoundUptoSaid : Prop := histSoundUptoRow.holds Try.pinned (OpenSpec.upto histSoundSpec)

/-- 'parrellaw26.HistSerial', WHERE WHAT IT READS IS OF BULK AT MOST 1048576: true; the input reads as it did. -/
def histSerialUptoRow : OpenClaim := { program := "ytofkaccoofafmaa", sum := "2142bb491c2a06de3680c2d095d69f1f115594cf0bd4fa98addbd8e1997218e1", func := "parrel/parrellaw26.HistSerial", spec := "histSerial", unfollowed := true, recurses := true, plainKeys := false, apart := false, narrowed := true }
def HistSerialUptoSaid : Prop := histSerialUptoRow.holds Try.pinned (OpenSpec.upto histSerialSpec)

/-- 'parrellaw26.HistCircle', WHERE WHAT IT READS IS OF BULK AT MOST 1048576: true; the input reads as it did. -/
def histCircleUptoRow : OpenClaim := { program := "ytofkaccoofafmaa", sum := "2142bb491c2a06de3680c2d095d69f1f115594cf0bd4fa98addbd8e1997218e1", func := "parrel/parrellaw26.HistCircle", spec := "histCircle", unfollowed := true, recurses := true, plainKeys := false, apart := false, narrowed := true }
def HistCircleUptoSaid : Prop := histCircleUptoRow.holds Try.pinned (OpenSpec.upto histCircleSpec)

end Rows
end Go.Proofs.Ytofkaccoofafmaa
