/-
  No cell of these rows narrows 'for every input' (looked for: loops, veiled, ifaces, maps, wideKeys, modest, calm, conditions, laid).
  DERIVED. THE GIVEN ROWS OF THIS SEAT. 5 by the template 'for every input the law returns true; each argument reads behind the call as it read before'; 0 by the template 'total and deterministic' (their statements: YtbggiflihpjocaaTotals.lean).
  GIVEN WITH THE SEED: the statements are not yours to turn. If you find one false, say at which input.
  Laid BY PROGRAM, IN A SANDBOX (cutbox-rows.mjs): the forced cells as the released guide's own fill.sh prints them over the translation 77217c042bae41e5… (all of the seat's roots in one cut). By AI agents, Wed Nov 11 2026. No macro, syntax, notation, axiom, sorry.
-/
import Derived.Test.YtbggiflihpjocaaChecked
import GoSem.Claim
import GoSem.ClaimJoined
import GoSem.ClaimMapViews
import Derived.JoinedTies
import Derived.KernelRfl
namespace Go.Proofs.Ytbggiflihpjocaa
/- THE CELL 'sum', in the pinned program and in every row, IS THE sha256 OF THE DUMP (.gsa) THAT YtbggiflihpjocaaProg.lean LOADS. Nothing in Lean hashes anything: it is a label: what it is worth is what the hold of that sum in a sandbox is worth. -/
noncomputable def Try.pinned : Pinned := { name := "ytbggiflihpjocaa", sum := "77217c042bae41e58fb16f71f5e739200c4e2fafd52c4362f6bcc227e0a55866", checked := Try.checked }
namespace Rows
def none {H : Type} : Left H := { results := [], args := [] }

/-- 'parrellaw05.IdsMay': WHATEVER THE INPUT: true; the input reads as it did. -/
def idsMaySpec : ChangeSpec := { name := "idsMay", fn := fun _ => fun
  | [d1, d2] => { results := [.lit (.bool true)], args := [d1, d2] }
  | _ => none }
def idsMayRow : OpenClaim := { program := "ytbggiflihpjocaa", sum := "77217c042bae41e58fb16f71f5e739200c4e2fafd52c4362f6bcc227e0a55866", func := "parrel/parrellaw05.IdsMay", spec := "idsMay", inPlace := ["internal/bytealg.IndexByteString"], plainKeys := false, apart := false }
def IdsMaySaid : Prop := idsMayRow.holds Try.pinned (OpenSpec.ofChange idsMaySpec)

/-- ITS FALSE NEIGHBOUR: 'it returns false'. Refute it at one input. -/
def idsMayWrong : ChangeSpec := { name := "idsMay", fn := fun _ => fun
  | [d1, d2] => { results := [.lit (.bool false)], args := [d1, d2] }
  | _ => none }
def IdsMayWrongFalsely : Prop := idsMayRow.holds Try.pinned (OpenSpec.ofChange idsMayWrong)

/-- 'parrellaw05.IdsOrder': WHATEVER THE INPUT: true; the input reads as it did. -/
def idsOrderSpec : ChangeSpec := { name := "idsOrder", fn := fun _ => fun
  | [d1, d2, d3] => { results := [.lit (.bool true)], args := [d1, d2, d3] }
  | _ => none }
def idsOrderRow : OpenClaim := { program := "ytbggiflihpjocaa", sum := "77217c042bae41e58fb16f71f5e739200c4e2fafd52c4362f6bcc227e0a55866", func := "parrel/parrellaw05.IdsOrder", spec := "idsOrder", inPlace := ["internal/bytealg.IndexByteString"], plainKeys := false, apart := false }
def IdsOrderSaid : Prop := idsOrderRow.holds Try.pinned (OpenSpec.ofChange idsOrderSpec)

/-- ITS FALSE NEIGHBOUR: 'it returns false'. Refute it at one input. -/
def idsOrderWrong : ChangeSpec := { name := "idsOrder", fn := fun _ => fun
  | [d1, d2, d3] => { results := [.lit (.bool false)], args := [d1, d2, d3] }
  | _ => none }
def IdsOrderWrongFalsely : Prop := idsOrderRow.holds Try.pinned (OpenSpec.ofChange idsOrderWrong)

/-- 'parrellaw05.IdsOrders': WHATEVER THE INPUT: true; the input reads as it did. -/
def idsOrdersSpec : ChangeSpec := { name := "idsOrders", fn := fun _ => fun
  | [d1, d2, d3] => { results := [.lit (.bool true)], args := [d1, d2, d3] }
  | _ => none }
def idsOrdersRow : OpenClaim := { program := "ytbggiflihpjocaa", sum := "77217c042bae41e58fb16f71f5e739200c4e2fafd52c4362f6bcc227e0a55866", func := "parrel/parrellaw05.IdsOrders", spec := "idsOrders", inPlace := ["internal/bytealg.IndexByteString"], unfollowed := true, recurses := true, plainKeys := false, apart := false }
def IdsOrdersSaid : Prop := idsOrdersRow.holds Try.pinned (OpenSpec.ofChange idsOrdersSpec)

/-- ITS FALSE NEIGHBOUR: 'it returns false'. Refute it at one input. -/
def idsOrdersWrong : ChangeSpec := { name := "idsOrders", fn := fun _ => fun
  | [d1, d2, d3] => { results := [.lit (.bool false)], args := [d1, d2, d3] }
  | _ => none }
def IdsOrdersWrongFalsely : Prop := idsOrdersRow.holds Try.pinned (OpenSpec.ofChange idsOrdersWrong)

/-- 'parrellaw05.IdsBack': WHATEVER THE INPUT: true; the input reads as it did. -/
def idsBackSpec : ChangeSpec := { name := "idsBack", fn := fun _ => fun
  | [d1, d2] => { results := [.lit (.bool true)], args := [d1, d2] }
  | _ => none }
def idsBackRow : OpenClaim := { program := "ytbggiflihpjocaa", sum := "77217c042bae41e58fb16f71f5e739200c4e2fafd52c4362f6bcc227e0a55866", func := "parrel/parrellaw05.IdsBack", spec := "idsBack", inPlace := ["internal/bytealg.IndexByteString"], unfollowed := true, recurses := true, plainKeys := false, apart := false }
def IdsBackSaid : Prop := idsBackRow.holds Try.pinned (OpenSpec.ofChange idsBackSpec)

/-- ITS FALSE NEIGHBOUR: 'it returns false'. Refute it at one input. -/
def idsBackWrong : ChangeSpec := { name := "idsBack", fn := fun _ => fun
  | [d1, d2] => { results := [.lit (.bool false)], args := [d1, d2] }
  | _ => none }
def IdsBackWrongFalsely : Prop := idsBackRow.holds Try.pinned (OpenSpec.ofChange idsBackWrong)

/-- 'parrellaw05.IdsSets': WHATEVER THE INPUT: true; the input reads as it did. -/
def idsSetsSpec : ChangeSpec := { name := "idsSets", fn := fun _ => fun
  | [d] => { results := [.lit (.bool true)], args := [d] }
  | _ => none }
def idsSetsRow : OpenClaim := { program := "ytbggiflihpjocaa", sum := "77217c042bae41e58fb16f71f5e739200c4e2fafd52c4362f6bcc227e0a55866", func := "parrel/parrellaw05.IdsSets", spec := "idsSets", inPlace := ["internal/bytealg.IndexByteString"], unfollowed := true, recurses := true, plainKeys := false, apart := false }
def IdsSetsSaid : Prop := idsSetsRow.holds Try.pinned (OpenSpec.ofChange idsSetsSpec)

/-- ITS FALSE NEIGHBOUR: 'it returns false'. Refute it at one input. -/
def idsSetsWrong : ChangeSpec := { name := "idsSets", fn := fun _ => fun
  | [d] => { results := [.lit (.bool false)], args := [d] }
  | _ => none }
def IdsSetsWrongFalsely : Prop := idsSetsRow.holds Try.pinned (OpenSpec.ofChange idsSetsWrong)

/- THE SECOND FORM. 'bulk': how many values and letters a reading holds, each counted each time it is reached (what is shared counts as often as it is met; a slice's spare places count too). A statement '..UptoSaid' is the law's where the arguments, and the package variables that the reading takes, are together of bulk at most 1048576: NARROWER than '..Said'. Prove '..Said' where nothing that the law and all that it calls make is longer than what came in: it says more and counts as full. Else prove '..UptoSaid'. A law counts once. -/
mutual
def uptoBulk {H : Type} : DataW H → Nat
  | .lit (.string bytes) => bytes.length + 1
  | .lit _ => 1
  | .nil => 1
  | .ptr d => uptoBulk d + 1
  | .slice elems spare => uptoBulkAll elems + uptoBulkAll spare + 1
  | .agg parts => uptoBulkAll parts + 1
  | .iface _ d => uptoBulk d + 1
  | .map entries => uptoBulkEntries entries + 1
  | .held _ => 1
def uptoBulkAll {H : Type} : List (DataW H) → Nat
  | [] => 0
  | d :: r => uptoBulk d + uptoBulkAll r
def uptoBulkEntries {H : Type} : List (Lit × DataW H) → Nat
  | [] => 0
  | x :: r => uptoBulkEntry x + uptoBulkEntries r
def uptoBulkEntry {H : Type} : Lit × DataW H → Nat
  | (.string bytes, d) => bytes.length + uptoBulk d + 1
  | (_, d) => uptoBulk d + 1
 end
def uptoSmall : (H : Type) → List (DataW H) → Bool := fun _ ds => decide (uptoBulkAll ds ≤ 1048576)
def OpenSpec.upto (s : _root_.Go.ChangeSpec) : _root_.Go.OpenSpec := { _root_.Go.OpenSpec.ofChange s with cond := some uptoSmall }

/-- 'parrellaw05.IdsMay', WHERE WHAT IT READS IS OF BULK AT MOST 1048576: true; the input reads as it did. -/
def idsMayUptoRow : OpenClaim := { program := "ytbggiflihpjocaa", sum := "77217c042bae41e58fb16f71f5e739200c4e2fafd52c4362f6bcc227e0a55866", func := "parrel/parrellaw05.IdsMay", spec := "idsMay", inPlace := ["internal/bytealg.IndexByteString"], plainKeys := false, apart := false, narrowed := true }
def IdsMayUptoSaid : Prop := idsMayUptoRow.holds Try.pinned (OpenSpec.upto idsMaySpec)

/-- 'parrellaw05.IdsOrder', WHERE WHAT IT READS IS OF BULK AT MOST 1048576: true; the input reads as it did. -/
def idsOrderUptoRow : OpenClaim := { program := "ytbggiflihpjocaa", sum := "77217c042bae41e58fb16f71f5e739200c4e2fafd52c4362f6bcc227e0a55866", func := "parrel/parrellaw05.IdsOrder", spec := "idsOrder", inPlace := ["internal/bytealg.IndexByteString"], plainKeys := false, apart := false, narrowed := true }
def IdsOrderUptoSaid : Prop := idsOrderUptoRow.holds Try.pinned (OpenSpec.upto idsOrderSpec)

/-- 'parrellaw05.IdsOrders', WHERE WHAT IT READS IS OF BULK AT MOST 1048576: true; the input reads as it did. -/
def idsOrdersUptoRow : OpenClaim := { program := "ytbggiflihpjocaa", sum := "77217c042bae41e58fb16f71f5e739200c4e2fafd52c4362f6bcc227e0a55866", func := "parrel/parrellaw05.IdsOrders", spec := "idsOrders", inPlace := ["internal/bytealg.IndexByteString"], unfollowed := true, recurses := true, plainKeys := false, apart := false, narrowed := true }
def IdsOrdersUptoSaid : Prop := idsOrdersUptoRow.holds Try.pinned (OpenSpec.upto idsOrdersSpec)

/-- 'parrellaw05.IdsBack', WHERE WHAT IT READS IS OF BULK AT MOST 1048576: true; the input reads as it did. -/
def idsBackUptoRow : OpenClaim := { program := "ytbggiflihpjocaa", sum := "77217c042bae41e58fb16f71f5e739200c4e2fafd52c4362f6bcc227e0a55866", func := "parrel/parrellaw05.IdsBack", spec := "idsBack", inPlace := ["internal/bytealg.IndexByteString"], unfollowed := true, recurses := true, plainKeys := false, apart := false, narrowed := true }
def IdsBackUptoSaid : Prop := idsBackUptoRow.holds Try.pinned (OpenSpec.upto idsBackSpec)

/-- 'parrellaw05.IdsSets', WHERE WHAT IT READS IS OF BULK AT MOST 1048576: true; the input reads as it did. -/
def idsSetsUptoRow : OpenClaim := { program := "ytbggiflihpjocaa", sum := "77217c042bae41e58fb16f71f5e739200c4e2fafd52c4362f6bcc227e0a55866", func := "parrel/parrellaw05.IdsSets", spec := "idsSets", inPlace := ["internal/bytealg.IndexByteString"], unfollowed := true, recurses := true, plainKeys := false, apart := false, narrowed := true }
def IdsSetsUptoSaid : Prop := idsSetsUptoRow.holds Try.pinned (OpenSpec.upto idsSetsSpec)

end Rows
end Go.Proofs.Ytbggiflihpjocaa
