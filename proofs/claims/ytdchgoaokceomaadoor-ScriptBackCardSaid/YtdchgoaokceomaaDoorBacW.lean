/- What the reference's names stand for here: the program's own functions. -/
import Derived.Test.YtdchgoaokceomaaDoorBacV
import Derived.Test.YtdchgoaokceomaaDoorCnX
set_option linter.unusedVariables false
set_option linter.unusedSimpArgs false
set_option linter.unusedSectionVars false
namespace Go.Proofs.YtdchgoaokceomaaDoor.Wk
open Go Go.Cn
def toC (c : T_parrelref27_Call) : T_node_Call := ⟨⟨c.f_Client, c.f_Seq⟩, c.f_Kind, c.f_Tx, c.f_Key, c.f_Value, c.f_R, c.f_W, c.f_Votes⟩
def toP (s : T_parrelref27_Step) : T_script_Step := ⟨s.f_Kind, s.f_Node, s.f_Wire, s.f_N, s.f_Cut, toC s.f_Call, s.f_To, s.f_Bytes⟩
def ofC (c : T_node_Call) : T_parrelref27_Call := ⟨c.f_Call.f_Client, c.f_Call.f_Seq, c.f_Kind, c.f_Tx, c.f_Key, c.f_Value, c.f_R, c.f_W, c.f_Votes⟩
def ofP (s : T_script_Step) : T_parrelref27_Step := ⟨s.f_Kind, s.f_Node, s.f_Wire, s.f_N, s.f_Cut, ofC s.f_Call, s.f_To, s.f_Bytes⟩
def kcall (c : T_parrelref27_Call) : Option T_parrelref27_Call := (script_pure (toC c)).bind fun y => some (ofC y)
def kept (s : T_parrelref27_Step) : Option T_parrelref27_Step := (script_clean (toP s)).bind fun y => some (ofP y)
end Go.Proofs.YtdchgoaokceomaaDoor.Wk
