/- Plain facts: the line of a step. -/
import Derived.Test.YtdchgoaokceomaaDoorBacC
import Derived.Lib.Join
set_option linter.unusedVariables false
set_option linter.unusedSimpArgs false
set_option linter.unusedSectionVars false
namespace Go.Proofs.YtdchgoaokceomaaDoor.Wk
open Go Go.Cn
set_option maxRecDepth 10000
theorem join_eq (x : List UInt8) (r : List (List UInt8)) (sep : List UInt8) : Lib.join (x :: r) sep = x ++ r.flatMap (sep ++ ·) := by
  rw [Lib.join_cons, Lib.joinTail, List.flatMap_def]
/-- Bounds of the cells. -/
structure WfS (s : T_parrelref27_Step) : Prop where
  cl : 0 ≤ s.f_Call.f_Client ∧ s.f_Call.f_Client < 256
  sq : 0 ≤ s.f_Call.f_Seq ∧ s.f_Call.f_Seq < 4294967296
  tn : 0 ≤ s.f_Call.f_Tx.f_Node ∧ s.f_Call.f_Tx.f_Node < 256
  tb : 0 ≤ s.f_Call.f_Tx.f_Boot ∧ s.f_Call.f_Tx.f_Boot < 4294967296
  tm : 0 ≤ s.f_Call.f_Tx.f_Num ∧ s.f_Call.f_Tx.f_Num < 4294967296
  r : 0 ≤ s.f_Call.f_R ∧ s.f_Call.f_R < 256
  w : 0 ≤ s.f_Call.f_W ∧ s.f_Call.f_W < 256
  ky : wfK s.f_Call.f_Key
  vt : wB s.f_Call.f_Votes
  bs : wB s.f_Bytes
def N (t : T_api_Tx) : List UInt8 := D t.f_Node ++ [46] ++ D t.f_Boot ++ [46] ++ D t.f_Num
theorem N_len (t : T_api_Tx) : (N t).length ≤ 35 := by
  have a := D_len t.f_Node; have b := D_len t.f_Boot; have c := D_len t.f_Num
  simp only [N, List.length_append, List.length_cons, List.length_nil]; omega
theorem name_eq (t : T_api_Tx) (h1 : 0 ≤ t.f_Node ∧ t.f_Node < 256) (h2 : 0 ≤ t.f_Boot ∧ t.f_Boot < 4294967296) (h3 : 0 ≤ t.f_Num ∧ t.f_Num < 4294967296) :
    script_name t = some (N t) := by
  have a := D_len t.f_Node; have b := D_len t.f_Boot; have c := D_len t.f_Num
  unfold script_name
  simp only [w64 (show (0 : Int) - 9223372036854775808 ≤ t.f_Node by omega) (by omega), w64 (show (0 : Int) - 9223372036854775808 ≤ t.f_Boot by omega) (by omega), w64 (show (0 : Int) - 9223372036854775808 ≤ t.f_Num by omega) (by omega),
    sdig h1.1 (by omega), sdig h2.1 (by omega), sdig h3.1 (by omega), Option.bind_some,
    join_eq, List.flatMap_cons, List.flatMap_nil, List.append_nil]
  rw [if_pos (by simp only [List.length_append, List.length_cons, List.length_nil]; omega)]
  simp [N]
end Go.Proofs.YtdchgoaokceomaaDoor.Wk
